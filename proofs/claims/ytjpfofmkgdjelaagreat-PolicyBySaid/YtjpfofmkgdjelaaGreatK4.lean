/- Joined: L0, H1, H2, H3, H4, H5, H6, J1, J2, J3, J4, J5, J6. -/
import Derived.Test.YtjpfofmkgdjelaaGreatK3
import Derived.Test.YtjpfofmkgdjelaaGreatK2
/- Instances: the data of layer 19 has no ids. -/
set_option linter.unusedVariables false
set_option linter.unusedSimpArgs false
namespace Go.Proofs.YtjpfofmkgdjelaaGreat
open Go.RowKit

instance {fr p} : FreeLI (encLeg fr p) := ⟨⟨encLeg_free fr p⟩⟩
instance {fr} {l : List Leg} : FreeRI (l.map (encLeg fr)) := ⟨⟨rowsLegs_free fr l⟩⟩
instance {fr l} : FreeI (encLegs fr l) := ⟨⟨encLegs_free fr l⟩⟩
instance {fr a} : FreeLI (cellsA fr a) := ⟨⟨cellsA_free fr a⟩⟩
instance {fr a} : FreeI (encA fr a) := ⟨⟨encA_free fr a⟩⟩
instance : FreeLI zeroA := ⟨⟨zeroA_free⟩⟩
end Go.Proofs.YtjpfofmkgdjelaaGreat
/- Contracts: a system laid ahead of a path, by the document. -/
set_option linter.unusedVariables false
set_option linter.unusedSimpArgs false
namespace Go.Proofs.YtjpfofmkgdjelaaGreat
open Go.RowKit
open Go.Proofs.Tryz (prog)
attribute [local irreducible] CallV RoundV

/-- A path with a system ahead, so many times. -/
def prePath (l : List Leg) (x : UInt32) (n : Nat) : List Leg := match l with
  | ⟨false, ns⟩ :: r => ⟨false, List.replicate n x ++ ns⟩ :: r
  | l => ⟨false, List.replicate n x⟩ :: l
def badPre (a : Attrs) (x : UInt32) (n : Int) : Bool := !rightA a || x == 0 || decide (n < 0) || decide (8 < n)
def prepE (a : Attrs) (x : UInt32) (n : Int) : Int := if badPre a x n then 2 else if n = 0 then 0 else if pathOk (prePath a.path x n.toNat) then 0 else 3
def prepA (a : Attrs) (x : UInt32) (n : Int) : Attrs := if prepE a x n ≠ 0 then noA else if n = 0 then a else { a with path := prePath a.path x n.toNat }
def prepV (fr : Bool) (a : Attrs) (x : UInt32) (n : Int) : V := .tup [encA fr (prepA a x n), .int .i64 (prepE a x n)]
theorem prepV_bad {fr : Bool} {a : Attrs} {x : UInt32} {n : Int} (h : badPre a x n = true) : prepV fr a x n = .tup [encA fr noA, .int .i64 2] := by simp [prepV, prepA, prepE, h]
theorem prepV_zero {fr : Bool} {a : Attrs} {x : UInt32} (h : badPre a x 0 = false) : prepV fr a x 0 = .tup [encA fr a, .int .i64 0] := by simp [prepV, prepA, prepE, h]
theorem prepV_long {fr : Bool} {a : Attrs} {x : UInt32} {n : Int} (h : badPre a x n = false) (h0 : n ≠ 0) (hp : pathOk (prePath a.path x n.toNat) = false) : prepV fr a x n = .tup [encA fr noA, .int .i64 3] := by simp [prepV, prepA, prepE, h, h0, hp]
theorem prepV_ok {fr : Bool} {a : Attrs} {x : UInt32} {n : Int} (h : badPre a x n = false) (h0 : n ≠ 0) (hp : pathOk (prePath a.path x n.toNat) = true) : prepV fr a x n = .tup [encA fr { a with path := prePath a.path x n.toNat }, .int .i64 0] := by simp [prepV, prepA, prepE, h, h0, hp]
theorem badPre_no {a : Attrs} {x : UInt32} {n : Int} (h : badPre a x n = false) : rightA a = true ∧ x ≠ 0 ∧ 0 ≤ n ∧ n ≤ 8 := by simp [badPre] at h; exact ⟨h.1.1.1, h.1.1.2, h.1.2, h.2⟩
theorem right_path {a : Attrs} (h : rightA a = true) : pathOk a.path = true := by simp [rightA] at h; exact h.1.1.1.1.1.2
theorem pathOk_all {l : List Leg} (h : pathOk l = true) : l.length ≤ 8 ∧ ∀ p ∈ l, legOk p = true := by simpa [pathOk] using h
theorem legOk_ns {p : Leg} (h : legOk p = true) : 1 ≤ p.ns.length ∧ p.ns.length ≤ 32 ∧ (p.set = true → rises p.ns = true) ∧ ∀ x ∈ p.ns, x ≠ 0 := by
  simp only [legOk, Bool.and_eq_true, decide_eq_true_eq, Bool.or_eq_true, Bool.not_eq_true', List.all_eq_true, bne_iff_ne] at h
  refine ⟨h.1.1.1, h.1.1.2, fun hs => ?_, h.2⟩
  rcases h.1.2 with h1 | h1
  · rw [hs] at h1; cases h1
  · exact h1
/-- What is too long. -/
def longP (l : List Leg) : Bool := decide (32 < (l.headD ⟨false, []⟩).ns.length) || decide (8 < l.length)
theorem pre_long {l : List Leg} {x : UInt32} {n : Nat} (hl : pathOk l = true) (hx : x ≠ 0) (hn : 0 < n) : pathOk (prePath l x n) = !longP (prePath l x n) := by
  obtain ⟨h8, hp⟩ := pathOk_all hl
  have hrow : ∀ ns : List UInt32, (∀ y ∈ ns, y ≠ 0) → legOk ⟨false, List.replicate n x ++ ns⟩ = decide (n + ns.length ≤ 32) := by
    intro ns hns
    have : ns.all (· != 0) = true := by rw [List.all_eq_true]; intro y hy; simpa using hns y hy
    have h1 : decide (1 ≤ n + ns.length) = true := by simp; omega
    simp [legOk, this, hx, h1]
  have key : ∀ (q : Leg) (r : List Leg), (∀ p ∈ r, legOk p = true) → pathOk (q :: r) = (decide (r.length + 1 ≤ 8) && legOk q) := by
    intro q r hr
    have : r.all legOk = true := List.all_eq_true.2 hr
    simp [pathOk, this]
  unfold prePath
  split
  · rename_i ns r
    have hns := (legOk_ns (hp _ (List.mem_cons_self ..))).2.2.2
    rw [key _ _ (fun p h => hp p (List.mem_cons_of_mem _ h)), hrow _ hns]
    simp only [longP, List.headD_cons, List.length_append, List.length_replicate, List.length_cons, Bool.not_or]
    rw [Bool.and_comm]
    congr 1 <;> rw [← decide_not] <;> congr 1 <;> simp <;> omega
  · rename_i hnot
    have hrow0 := hrow [] (by simp)
    rw [List.append_nil] at hrow0
    rw [key _ _ hp, hrow0]
    simp only [longP, List.headD_cons, List.length_replicate, List.length_cons, Bool.not_or, List.length_nil]
    rw [Bool.and_comm]
    congr 1 <;> rw [← decide_not] <;> congr 1 <;> simp <;> omega
theorem longP_yes {l : List Leg} (h : 32 < (l.headD ⟨false, []⟩).ns.length ∨ 8 < l.length) : longP l = true := by simpa [longP] using h
theorem longP_no {l : List Leg} (h : (l.headD ⟨false, []⟩).ns.length ≤ 32 ∧ l.length ≤ 8) : longP l = false := by simpa [longP] using h
set_option maxRecDepth 100000 in
set_option maxHeartbeats 4000000 in
theorem ref_prepend_ok (fr : Bool) (a : Attrs) (x : UInt32) (n : Int) : PCon prog 49 [encA fr a, cW x, .int .i64 n] (prepV fr a x n) := by
  have bad : ∀ {s : St} {v : V}, badPre a x n = true → LeV s.h s.nx id 0 [] v (encA fr noA) → ∃ v1 h' nx', Ends 0 s (.tup [v, .int .i64 2]) v1 h' nx' ∧ (v1 = prepV fr a x n ∧ h' = [] ∧ nx' = 0) := fun hb hv => by
    rw [prepV_bad hb]
    exact Ends.pure [] (.tupL ⟨hv, .free .int, trivial⟩) (by simp)
  refine callV_of (fn := Go.Proofs.Tryz.f49) (body := _) tab_ok mixed rfl rfl (by decide) (by simp [Go.Proofs.Tryz.f49]) ?_
  (conv => whnf)
  refine callV_pure (right_ok fr a) ⟨.free (encA_free _ _), trivial⟩ ?_
  cases hr : rightA a with
  | false =>
    (conv => whnf)
    exact bad (by simp [badPre, hr]) .noA
  | true =>
  (conv => whnf)
  cases hx : ((x.toNat : Int) == 0) with
  | true =>
    (conv => whnf)
    exact bad (by rw [u32_eq] at hx; simp [badPre, hx]) .noA
  | false =>
  (conv => whnf)
  cases hn : decide (n < 0) with
  | true =>
    (conv => whnf)
    exact bad (by simp [badPre, hn]) .noA
  | false =>
  (conv => whnf)
  cases h8 : decide (8 < n) with
  | true =>
    (conv => whnf)
    exact bad (by simp [badPre, h8]) .noA
  | false =>
  have hb : badPre a x n = false := by rw [u32_eq] at hx; simp [badPre, hr, hx, hn, h8]
  (conv => whnf)
  cases h0 : (n == 0) with
  | true =>
    have h0 : n = 0 := by simpa using h0
    subst h0
    (conv => whnf)
    rw [prepV_zero hb]
    exact (Ends.pure [] (by first | exact .ptr rfl (by omega) | exact .osl_of rfl (by omega) rfl | exact .fr rfl | exact LeL.fr rfl | exact .yld rfl (by omega) | exact .eptr rfl (by omega) | exact .osl0 | exact .snil_sl | exact .to_any) (by simp))
  | false =>
  have h0 : n ≠ 0 := by simpa using h0
  obtain ⟨k, rfl⟩ : ∃ k : Nat, n = k := ⟨n.toNat, by have := of_decide_eq_false hn; omega⟩
  have hk : k ≤ 8 := by have := of_decide_eq_false h8; omega
  have hk0 : 0 < k := by omega
  (conv => whnf)
  refine vcg_loop tab_ok mixed (fun i : {i : Nat // i ≤ k} => ⟨[(1, cW x), (2, cI k), (3, .ptr 0 0), (6, .ptr 1 0), (8, .osl 2 1 0 i.1), (9, cI i.1)], [(0, some (.var true 33 (cellsA fr a))), (1, some (.var true 33 zeroA)), (2, some (.arr true false 22 1 (rowsW (List.replicate i.1 x))))], 3⟩) (fun i => k - i.1) ⟨0, by omega⟩ (Wk.i (by repeat' (first | exact True.intro | exact id | exact rfl | decide | exact Nat.le_of_ble_eq_true rfl | exact .ptr rfl (by omega) | exact .osl_of rfl (by omega) rfl | exact .fr rfl | exact LeL.fr rfl | exact .yld rfl (by omega) | exact .eptr rfl (by omega) | exact .osl0 | exact .snil_sl | exact .to_any | exact LeB.fr rfl id id | exact LeB.fr (by simp; done) id id | refine Or.inl ⟨by simp, _, rfl, ?_⟩ | exact Or.inr ⟨by simp, _, _, _, _, rfl⟩ | refine ⟨rfl, rfl, rfl, rfl, rfl, rfl, ?_⟩ | refine ⟨?_, ?_⟩)) (by omega)) (fun i => ?_)
  obtain ⟨i, hi⟩ := i
  (conv => whnf)
  split
  · rename_i hc
    have hc : i < k := by simpa using hc
    (conv => whnf)
    refine ⟨rfl, by simp, ⟨rfl, rfl, rfl, rfl, by decide⟩, by simp, ⟨by simp [tab, tabOf, nth]; omega, by simp; omega⟩, ?_⟩
    (conv => whnf)
    refine ⟨⟨i + 1, by omega⟩, (Wk.all (renOf [(2, 4)]) [] (by repeat' (first | exact True.intro | exact id | exact rfl | decide | exact Nat.le_of_ble_eq_true rfl | exact .osl_of rfl (by omega) (by simp) | exact LeB.eq_of (by simp [List.take_of_length_le]; rw [← List.replicate_succ']) (rowsW_free _) | exact .int_of (wrap64_succ hc (show k ≤ maxLen by unfold maxLen; omega)) | exact .ptr rfl (by omega) | exact .osl_of rfl (by omega) rfl | exact .fr rfl | exact LeL.fr rfl | exact .yld rfl (by omega) | exact .eptr rfl (by omega) | exact .osl0 | exact .snil_sl | exact .to_any | exact LeB.fr rfl id id | exact LeB.fr (by simp; done) id id | refine Or.inl ⟨by simp, _, rfl, ?_⟩ | exact Or.inr ⟨by simp, _, _, _, _, rfl⟩ | refine ⟨rfl, rfl, rfl, rfl, rfl, rfl, ?_⟩ | refine ⟨?_, ?_⟩)) (show ∀ b ∈ ([0, 1, 2] : List Nat), ∀ b' ∈ ([0, 1, 2] : List Nat), (renOf [(2, 4)]) b = (renOf [(2, 4)]) b' → b = b' by decide) (fun _ h => by omega) (by omega) (by simp)), by simp only; omega⟩
  · rename_i hc
    have hc : i = k := by simp at hc; omega
    subst hc
    obtain ⟨o, l, nn, hm, m, hq, q, tg⟩ := a
    have hlen := (pathOk_all (right_path hr)).1
    have hall := (pathOk_all (right_path hr)).2
    simp only at hlen hall
    (conv => whnf)
    have hx0 : x ≠ 0 := (badPre_no hb).2.1
    have hpl := pre_long (right_path hr) hx0 hk0
    simp only at hpl
    have fin : ∀ {s : St} {vp : V} (Z : List Nat), longP (prePath l x i) = false → LeV s.h s.nx id 0 Z vp (encLegs fr (prePath l x i)) → (∀ z ∈ Z, hget s.h z ≠ none) →
        ∃ v1 h' nx', Ends 0 s (.tup [.agg [cB o, vp, cW nn, .bool hm, cW m, .bool hq, cW q, encW fr tg], .int .i64 0]) v1 h' nx' ∧ (v1 = prepV fr ⟨o, l, nn, hm, m, hq, q, tg⟩ x i ∧ h' = [] ∧ nx' = 0) := fun Z hlp hv hz => by
      rw [prepV_ok hb h0 (by rw [Int.toNat_natCast]; simp only; rw [hpl, hlp]; rfl)]
      exact Ends.pure Z (.tupL ⟨.aggL ⟨.free .int, hv, .free .int, .free .bool, .free .int, .free .bool, .free .int, .free (encW_free _ _), trivial⟩, .free .int, trivial⟩) hz
    have long : ∀ {s : St} {v : V}, longP (prePath l x i) = true → LeV s.h s.nx id 0 [] v (encA fr noA) → ∃ v1 h' nx', Ends 0 s (.tup [v, .int .i64 3]) v1 h' nx' ∧ (v1 = prepV fr ⟨o, l, nn, hm, m, hq, q, tg⟩ x i ∧ h' = [] ∧ nx' = 0) := fun hlp hv => by
      rw [prepV_long hb h0 (by rw [Int.toNat_natCast]; simp only; rw [hpl, hlp]; rfl)]
      exact Ends.pure [] (.tupL ⟨hv, .free .int, trivial⟩) (by simp)
    rcases l with _ | ⟨⟨st, ns⟩, r⟩
    · (conv => whnf)
      intro _
      (conv => whnf)
      refine ⟨⟨rfl, rfl, rfl, rfl, by decide⟩, by simp, ⟨by simp [tab, tabOf, nth], by simp⟩, ?_⟩
      (conv => whnf)
      intro _
      (conv => whnf)
      (split <;> first | (rename_i hh; exfalso; first | (simp at hh; done) | (simp at hh; omega)) | skip); (conv => whnf)
      intro _
      (conv => whnf)
      refine fin [4, 2] (by simp [longP, prePath]; omega) ?_ (by intro z hz; simp only [List.mem_cons, List.not_mem_nil, or_false] at hz; rcases hz with rfl | rfl <;> exact ne_none_of rfl)
      refine LeV.sl_fr (LeV.freezeR (by simp) rfl (by simp) ?_)
      refine LeR.of_eq (ys := [[.bool false, .osl 2 1 0 i]]) (by simp) ⟨⟨.free .bool, LeV.sl_fr (LeV.freeze_of (by simp) rfl (by simp) (rowsW_free _) (by simp [List.take_of_length_le])), trivial⟩, trivial⟩
    · have hcold := hall ⟨st, ns⟩ (by simp)
      have hns := (legOk_ns hcold).2.1
      simp only at hns
      simp only [List.length_cons] at hlen
      cases st with
      | true =>
        (conv => whnf)
        intro _
        (conv => whnf)
        (split <;> first | (rename_i hh; exfalso; first | (simp at hh; done) | (simp at hh; omega)) | skip); (conv => whnf)
        refine ⟨rfl, _, ⟨by decide, rfl⟩, ?_⟩
        (conv => whnf)
        refine ⟨⟨rfl, rfl, rfl, rfl, by decide⟩, by simp, ⟨by simp [tab, tabOf, nth]; omega, by simp; omega⟩, ?_⟩
        (conv => whnf)
        intro _
        (conv => whnf)
        (split <;> first | (rename_i hh; exfalso; first | (simp at hh; done) | (simp at hh; omega)) | skip); (conv => whnf)
        intro _
        (conv => whnf)
        split
        · rename_i hc8
          (conv => whnf)
          refine long ?_ .noA
          simp at hc8
          refine longP_yes ?_
          simp [prePath]
          omega
        · rename_i hc8
          (conv => whnf)
          refine fin [4, 2] ?_ ?_ (by intro z hz; simp only [List.mem_cons, List.not_mem_nil, or_false] at hz; rcases hz with rfl | rfl <;> exact ne_none_of rfl)
          · simp at hc8
            refine longP_no ?_
            simp [prePath]
            omega
          refine LeV.sl_fr (LeV.freezeR (by simp) rfl (by simp; try omega) ?_)
          refine LeR.of_eq (ys := [.bool false, .osl 2 1 0 i] :: (⟨true, ns⟩ :: r).map (encLeg fr)) (List.take_of_length_le (by simp; omega)) ⟨⟨.free .bool, LeV.sl_fr (LeV.freezeE (by simp) rfl (by simp) (by simp [List.take_of_length_le]) (rowsW_free (List.replicate i x))), trivial⟩, LeR.free (rowsLegs_free _ _)⟩
      | false =>
        (conv => whnf)
        intro _
        (conv => whnf)
        (split <;> first | (rename_i hh; exfalso; first | (simp at hh; done) | (simp at hh; omega)) | skip); (conv => whnf)
        refine ⟨rfl, _, ⟨by decide, rfl⟩, ?_⟩
        (conv => whnf)
        refine ⟨rfl, _, ⟨by decide, rfl⟩, ?_⟩
        (conv => whnf)
        refine ⟨⟨rfl, rfl, rfl, rfl, by decide⟩, by simp, ⟨by simp [tab, tabOf, nth]; omega, by simp; omega⟩, ?_⟩
        (conv => whnf)
        refine ⟨rfl, ⟨by decide, by simp⟩, ?_⟩
        (conv => whnf)
        refine ⟨by kernel_rfl, ?_⟩
        (conv => whnf)
        refine ⟨⟨rfl, rfl, rfl, rfl, by decide⟩, by simp, ⟨by simp [tab, tabOf, nth]; omega, by simp; omega⟩, ?_⟩
        (conv => whnf)
        intro _
        (conv => whnf)
        split
        · rename_i hc8
          (conv => whnf)
          refine long ?_ .noA
          simp at hc8
          refine longP_yes ?_
          simp [prePath]
          omega
        · rename_i hc8
          (conv => whnf)
          intro _
          (conv => whnf)
          split
          · rename_i hc9
            (conv => whnf)
            refine long ?_ .noA
            simp at hc9
            refine longP_yes ?_
            simp [prePath]
            omega
          · rename_i hc9
            (conv => whnf)
            refine fin [5, 3] ?_ ?_ (by intro z hz; simp only [List.mem_cons, List.not_mem_nil, or_false] at hz; rcases hz with rfl | rfl <;> exact ne_none_of rfl)
            · simp at hc8 hc9
              refine longP_no ?_
              simp [prePath]
              omega
            refine LeV.sl_fr (LeV.freezeR (by simp) rfl (by simp; try omega) ?_)
            refine LeR.of_eq (ys := [.bool false, .osl 3 1 0 (i + ns.length)] :: r.map (encLeg fr)) (by simp; exact List.take_of_length_le (by simp; omega)) ⟨⟨.free .bool, LeV.sl_fr (LeV.freezeE (ys := rowsW (List.replicate i x ++ ns)) (by simp) rfl (by simp) (by simp [List.take_of_length_le]) (rowsW_free _)), trivial⟩, LeR.free (rowsLegs_free _ _)⟩
end Go.Proofs.YtjpfofmkgdjelaaGreat
/- Contracts: a tag more, by the document. -/
set_option linter.unusedVariables false
set_option linter.unusedSimpArgs false
namespace Go.Proofs.YtjpfofmkgdjelaaGreat
open Go.RowKit
open Go.Proofs.Tryz (prog)
attribute [local irreducible] CallV RoundV

def insT : List UInt32 → UInt32 → List UInt32
  | [], t => [t]
  | y :: r, t => if t < y then t :: y :: r else y :: insT r t
def anyT (l : List UInt32) (t : UInt32) : Bool := l.any (fun y => decide (t < y))
/-- What has been laid out of the first ones. -/
def outT (l : List UInt32) (t : UInt32) : List UInt32 := if anyT l t then insT l t else l
theorem insT_snoc {l : List UInt32} {t y : UInt32} (h : anyT l t = true) : insT (l ++ [y]) t = insT l t ++ [y] := by
  induction l with
  | nil => simp [anyT] at h
  | cons x r ih =>
    simp only [List.cons_append, insT]
    split
    · rfl
    · rename_i hx
      simp only [anyT, List.any_cons, hx, decide_false, Bool.false_or] at h
      rw [ih h]; rfl
theorem insT_none {l : List UInt32} {t : UInt32} (h : anyT l t = false) : insT l t = l ++ [t] := by
  induction l with
  | nil => rfl
  | cons x r ih =>
    simp only [anyT, List.any_cons, Bool.or_eq_false_iff, decide_eq_false_iff_not] at h
    simp only [insT, List.cons_append]
    rw [if_neg h.1, ih h.2]
theorem anyT_snoc {l : List UInt32} {t y : UInt32} : anyT (l ++ [y]) t = (anyT l t || decide (t < y)) := by simp [anyT]
theorem outT_in {l : List UInt32} {t y : UInt32} (h : anyT l t = false) (hy : t < y) : outT (l ++ [y]) t = l ++ [t] ++ [y] := by
  have h2 : anyT (l ++ [y]) t = true := by rw [anyT_snoc]; simp [hy]
  rw [outT, if_pos h2]
  have : ∀ l : List UInt32, anyT l t = false → insT (l ++ [y]) t = l ++ [t] ++ [y] := by
    intro l hl
    induction l with
    | nil => simp [insT, hy]
    | cons x r ih =>
      simp only [anyT, List.any_cons, Bool.or_eq_false_iff, decide_eq_false_iff_not] at hl
      simp only [insT, List.cons_append]
      rw [if_neg hl.1, ih hl.2]
  exact this l h
theorem outT_old {l : List UInt32} {t y : UInt32} (h : anyT l t = true) : outT (l ++ [y]) t = outT l t ++ [y] := by
  have h2 : anyT (l ++ [y]) t = true := by rw [anyT_snoc]; simp [h]
  rw [outT, if_pos h2, outT, if_pos h, insT_snoc h]
theorem outT_no {l : List UInt32} {t y : UInt32} (h : anyT l t = false) (hy : ¬ t < y) : outT (l ++ [y]) t = outT l t ++ [y] := by
  have h2 : anyT (l ++ [y]) t = false := by rw [anyT_snoc]; simp [h, hy]
  rw [outT, h2, outT, h]; rfl
theorem outT_len {l : List UInt32} {t : UInt32} : (outT l t).length ≤ l.length + 1 := by
  have : ∀ l : List UInt32, (insT l t).length = l.length + 1 := by
    intro l
    induction l with
    | nil => rfl
    | cons x r ih => simp only [insT]; split <;> simp [ih]
  unfold outT
  split
  · exact Nat.le_of_eq (this l)
  · exact Nat.le_succ _
theorem insT_len {l : List UInt32} {t : UInt32} : (insT l t).length = l.length + 1 := by
  induction l with
  | nil => rfl
  | cons x r ih => simp only [insT]; split <;> simp [ih]
def tagE (a : Attrs) (t : UInt32) : Int := if !rightA a then 2 else if a.tags.contains t then 0 else if 16 < a.tags.length + 1 then 3 else 0
def tagA (a : Attrs) (t : UInt32) : Attrs := if tagE a t ≠ 0 then noA else if a.tags.contains t then a else { a with tags := insT a.tags t }
def tagV (fr : Bool) (a : Attrs) (t : UInt32) : V := .tup [encA fr (tagA a t), .int .i64 (tagE a t)]
theorem tagV_bad {fr : Bool} {a : Attrs} {t : UInt32} (h : rightA a = false) : tagV fr a t = .tup [encA fr noA, .int .i64 2] := by simp [tagV, tagA, tagE, h]
theorem tagV_in {fr : Bool} {a : Attrs} {t : UInt32} (h : rightA a = true) (ht : a.tags.contains t = true) : tagV fr a t = .tup [encA fr a, .int .i64 0] := by simp only [tagV, tagA, tagE, h, ht]; rfl
theorem tagV_long {fr : Bool} {a : Attrs} {t : UInt32} (h : rightA a = true) (ht : a.tags.contains t = false) (hl : 16 ≤ a.tags.length) : tagV fr a t = .tup [encA fr noA, .int .i64 3] := by
  have : 16 < a.tags.length + 1 := by omega
  simp only [tagV, tagA, tagE, h, ht, this]; rfl
theorem tagV_new {fr : Bool} {a : Attrs} {t : UInt32} (h : rightA a = true) (ht : a.tags.contains t = false) (hl : a.tags.length < 16) : tagV fr a t = .tup [encA fr { a with tags := insT a.tags t }, .int .i64 0] := by
  have : ¬ 16 < a.tags.length + 1 := by omega
  simp only [tagV, tagA, tagE, h, ht, this]; rfl
theorem contains_succ {l : List UInt32} {t : UInt32} {i : Nat} (hi : i < l.length) (h : (l.take i).contains t = false) (he : l[i] ≠ t) : (l.take (i + 1)).contains t = false := by
  rw [List.take_succ_eq_append_getElem hi, List.contains_eq_any_beq, List.any_append, ← List.contains_eq_any_beq, h]
  simpa using fun e => he e.symm
set_option maxRecDepth 100000 in
set_option maxHeartbeats 4000000 in
theorem ref_tag_ok (fr : Bool) (a : Attrs) (t : UInt32) : PCon prog 48 [encA fr a, cW t] (tagV fr a t) := by
  refine callV_of (fn := Go.Proofs.Tryz.f48) (body := _) tab_ok mixed rfl rfl (by decide) (by simp [Go.Proofs.Tryz.f48]) ?_
  (conv => whnf)
  refine callV_pure (right_ok fr a) ⟨.free (encA_free _ _), trivial⟩ ?_
  cases hr : rightA a with
  | false =>
    rw [tagV_bad hr]
    (conv => whnf)
    exact (Ends.pure [] (by first | exact .noA | exact .ptr rfl (by omega) | exact .osl_of rfl (by omega) rfl | exact .fr rfl | exact LeL.fr rfl | exact .yld rfl (by omega) | exact .eptr rfl (by omega) | exact .osl0 | exact .snil_sl | exact .to_any | (refine .tupL ?_; repeat' (first | exact True.intro | exact .noA | exact .ptr rfl (by omega) | exact .osl_of rfl (by omega) rfl | exact .fr rfl | exact LeL.fr rfl | exact .yld rfl (by omega) | exact .eptr rfl (by omega) | exact .osl0 | exact .snil_sl | exact .to_any | refine .aggL ?_ | refine ⟨?_, ?_⟩)) | (refine .aggL ?_; repeat' (first | exact True.intro | exact .noA | exact .ptr rfl (by omega) | exact .osl_of rfl (by omega) rfl | exact .fr rfl | exact LeL.fr rfl | exact .yld rfl (by omega) | exact .eptr rfl (by omega) | exact .osl0 | exact .snil_sl | exact .to_any | refine ⟨?_, ?_⟩))) (by simp))
  | true =>
  have htl : a.tags.length ≤ 16 := by simp [rightA] at hr; have := hr.1.2; omega
  (conv => whnf)
  refine vcg_loop tab_ok mixed (fun i : {i : Nat // i ≤ a.tags.length ∧ (a.tags.take i).contains t = false} => ⟨[(1, cW t), (2, .ptr 0 0), (4, .ptr 1 0), (6, .osl 2 1 0 (outT (a.tags.take i.1) t).length), (7, .bool (anyT (a.tags.take i.1) t)), (8, cI i.1)], [(0, some (.var true 33 (cellsA fr a))), (1, some (.var true 33 zeroA)), (2, some (.arr true false 22 1 (rowsW (outT (a.tags.take i.1) t))))], 3⟩) (fun i => a.tags.length - i.1) ⟨0, by omega, rfl⟩ (Wk.i (by repeat' (first | exact True.intro | exact id | exact rfl | decide | exact Nat.le_of_ble_eq_true rfl | exact .ptr rfl (by omega) | exact .osl_of rfl (by omega) rfl | exact .fr rfl | exact LeL.fr rfl | exact .yld rfl (by omega) | exact .eptr rfl (by omega) | exact .osl0 | exact .snil_sl | exact .to_any | exact LeB.fr rfl id id | exact LeB.fr (by simp; done) id id | refine Or.inl ⟨by simp, _, rfl, ?_⟩ | exact Or.inr ⟨by simp, _, _, _, _, rfl⟩ | refine ⟨rfl, rfl, rfl, rfl, rfl, rfl, ?_⟩ | refine ⟨?_, ?_⟩)) (by omega)) (fun i => ?_)
  obtain ⟨i, hi, hno⟩ := i
  (conv => whnf)
  intro _
  (conv => whnf)
  split
  · rename_i hc
    have hc : i < a.tags.length := by simpa using hc
    have htk := List.take_succ_eq_append_getElem hc
    have hlen := outT_len (l := a.tags.take i) (t := t)
    rw [List.length_take, Nat.min_eq_left hi] at hlen
    (conv => whnf)
    refine ⟨rfl, _, ⟨by first | omega | (simp only; omega), idxW hc⟩, ?_⟩
    (conv => whnf)
    split
    · rename_i he
      have he : a.tags[i] = t := by simp at he; exact UInt32.toNat_inj.1 (by omega)
      rw [tagV_in hr (by simp; rw [← he]; exact List.getElem_mem hc)]
      (conv => whnf)
      exact (Ends.pure [] (by first | exact .ptr rfl (by omega) | exact .osl_of rfl (by omega) rfl | exact .fr rfl | exact LeL.fr rfl | exact .yld rfl (by omega) | exact .eptr rfl (by omega) | exact .osl0 | exact .snil_sl | exact .to_any) (by simp))
    · rename_i he
      have he : a.tags[i] ≠ t := by intro e; rw [e] at he; simp at he
      have hno' := contains_succ hc hno he
      (conv => whnf)
      cases hth : anyT (a.tags.take i) t with
      | true =>
        (conv => whnf)
        refine ⟨rfl, _, ⟨by first | omega | (simp only; omega), idxW hc⟩, ?_⟩
        (conv => whnf)
        refine ⟨rfl, by simp, ⟨rfl, rfl, rfl, rfl, by decide⟩, by simp, ⟨by simp [tab, tabOf, nth]; omega, by simp; omega⟩, ?_⟩
        (conv => whnf)
        have hout : outT (a.tags.take (i + 1)) t = outT (a.tags.take i) t ++ [a.tags[i]] := by rw [htk, outT_old hth]
        have hany : anyT (a.tags.take (i + 1)) t = true := by rw [htk, anyT_snoc, hth]; rfl
        exact ⟨⟨i + 1, by omega, hno'⟩, (Wk.all (renOf [(2, 4)]) [] (by repeat' (first | exact True.intro | exact id | exact rfl | decide | exact Nat.le_of_ble_eq_true rfl | exact .osl_of rfl (by omega) (by simp [hout]) | exact LeB.eq_of (by simp [hout]; exact List.take_of_length_le (by simp)) (rowsW_free _) | exact .bool_of (by simp only [hany]) | exact .int_of (wrap64_succ hc (show a.tags.length ≤ maxLen by unfold maxLen; omega)) | exact .ptr rfl (by omega) | exact .osl_of rfl (by omega) rfl | exact .fr rfl | exact LeL.fr rfl | exact .yld rfl (by omega) | exact .eptr rfl (by omega) | exact .osl0 | exact .snil_sl | exact .to_any | exact LeB.fr rfl id id | exact LeB.fr (by simp; done) id id | refine Or.inl ⟨by simp, _, rfl, ?_⟩ | exact Or.inr ⟨by simp, _, _, _, _, rfl⟩ | refine ⟨rfl, rfl, rfl, rfl, rfl, rfl, ?_⟩ | refine ⟨?_, ?_⟩)) (show ∀ b ∈ ([0, 1, 2] : List Nat), ∀ b' ∈ ([0, 1, 2] : List Nat), (renOf [(2, 4)]) b = (renOf [(2, 4)]) b' → b = b' by decide) (fun _ h => by omega) (by omega) (by simp)), by simp only; omega⟩
      | false =>
        (conv => whnf)
        refine ⟨rfl, _, ⟨by first | omega | (simp only; omega), idxW hc⟩, ?_⟩
        (conv => whnf)
        split
        · rename_i hg
          have hg : t < a.tags[i] := by simp at hg; exact UInt32.lt_iff_toNat_lt.2 (by omega)
          have hout : outT (a.tags.take (i + 1)) t = outT (a.tags.take i) t ++ [t] ++ [a.tags[i]] := by rw [htk, outT_in hth hg, outT, hth]; rfl
          have hany : anyT (a.tags.take (i + 1)) t = true := by rw [htk, anyT_snoc]; simp [hg]
          (conv => whnf)
          refine ⟨rfl, by simp, ⟨rfl, rfl, rfl, rfl, by decide⟩, by simp, ⟨by simp [tab, tabOf, nth]; omega, by simp; omega⟩, ?_⟩
          (conv => whnf)
          refine ⟨rfl, _, ⟨by first | omega | (simp only; omega), idxW hc⟩, ?_⟩
          (conv => whnf)
          refine ⟨rfl, by simp, ⟨rfl, rfl, rfl, rfl, by decide⟩, by simp, ⟨by simp [tab, tabOf, nth]; omega, by simp; omega⟩, ?_⟩
          (conv => whnf)
          exact ⟨⟨i + 1, by omega, hno'⟩, (Wk.all (renOf [(2, 6)]) [] (by repeat' (first | exact True.intro | exact id | exact rfl | decide | exact Nat.le_of_ble_eq_true rfl | exact .osl_of rfl (by omega) (by simp [hout]) | exact LeB.eq_of (by simp [hout]; rw [List.take_of_length_le (by simp)]; rw [List.take_of_length_le (by simp)]; simp) (rowsW_free _) | exact .bool_of (by simp only [hany]) | exact .int_of (wrap64_succ hc (show a.tags.length ≤ maxLen by unfold maxLen; omega)) | exact .ptr rfl (by omega) | exact .osl_of rfl (by omega) rfl | exact .fr rfl | exact LeL.fr rfl | exact .yld rfl (by omega) | exact .eptr rfl (by omega) | exact .osl0 | exact .snil_sl | exact .to_any | exact LeB.fr rfl id id | exact LeB.fr (by simp; done) id id | refine Or.inl ⟨by simp, _, rfl, ?_⟩ | exact Or.inr ⟨by simp, _, _, _, _, rfl⟩ | refine ⟨rfl, rfl, rfl, rfl, rfl, rfl, ?_⟩ | refine ⟨?_, ?_⟩)) (show ∀ b ∈ ([0, 1, 2] : List Nat), ∀ b' ∈ ([0, 1, 2] : List Nat), (renOf [(2, 6)]) b = (renOf [(2, 6)]) b' → b = b' by decide) (fun _ h => by omega) (by omega) (by simp)), by simp only; omega⟩
        · rename_i hg
          have hg : ¬ t < a.tags[i] := by simp at hg; intro h; have := UInt32.lt_iff_toNat_lt.1 h; omega
          have hout : outT (a.tags.take (i + 1)) t = outT (a.tags.take i) t ++ [a.tags[i]] := by rw [htk, outT_no hth hg]
          have hany : anyT (a.tags.take (i + 1)) t = false := by rw [htk, anyT_snoc]; simp [hg, hth]
          (conv => whnf)
          refine ⟨rfl, _, ⟨by first | omega | (simp only; omega), idxW hc⟩, ?_⟩
          (conv => whnf)
          refine ⟨rfl, by simp, ⟨rfl, rfl, rfl, rfl, by decide⟩, by simp, ⟨by simp [tab, tabOf, nth]; omega, by simp; omega⟩, ?_⟩
          (conv => whnf)
          exact ⟨⟨i + 1, by omega, hno'⟩, (Wk.all (renOf [(2, 4)]) [] (by repeat' (first | exact True.intro | exact id | exact rfl | decide | exact Nat.le_of_ble_eq_true rfl | exact .osl_of rfl (by omega) (by simp [hout]) | exact LeB.eq_of (by simp [hout]; exact List.take_of_length_le (by simp)) (rowsW_free _) | exact .bool_of (by simp only [hany]) | exact .int_of (wrap64_succ hc (show a.tags.length ≤ maxLen by unfold maxLen; omega)) | exact .ptr rfl (by omega) | exact .osl_of rfl (by omega) rfl | exact .fr rfl | exact LeL.fr rfl | exact .yld rfl (by omega) | exact .eptr rfl (by omega) | exact .osl0 | exact .snil_sl | exact .to_any | exact LeB.fr rfl id id | exact LeB.fr (by simp; done) id id | refine Or.inl ⟨by simp, _, rfl, ?_⟩ | exact Or.inr ⟨by simp, _, _, _, _, rfl⟩ | refine ⟨rfl, rfl, rfl, rfl, rfl, rfl, ?_⟩ | refine ⟨?_, ?_⟩)) (show ∀ b ∈ ([0, 1, 2] : List Nat), ∀ b' ∈ ([0, 1, 2] : List Nat), (renOf [(2, 4)]) b = (renOf [(2, 4)]) b' → b = b' by decide) (fun _ h => by omega) (by omega) (by simp)), by simp only; omega⟩
  · rename_i hc
    have hc : i = a.tags.length := by simp at hc; omega
    subst hc
    rw [List.take_length] at hno
    have long : ∀ {s : St} {v : V}, 16 ≤ a.tags.length → LeV s.h s.nx id 0 [] v (encA fr noA) → ∃ v1 h' nx', Ends 0 s (.tup [v, .int .i64 3]) v1 h' nx' ∧ (v1 = tagV fr a t ∧ h' = [] ∧ nx' = 0) := fun hl hv => by
      rw [tagV_long hr hno hl]
      exact Ends.pure [] (.tupL ⟨hv, .free .int, trivial⟩) (by simp)
    have fin : ∀ {s : St} {vt : V} (Z : List Nat), a.tags.length < 16 → LeV s.h s.nx id 0 Z vt (encW fr (insT a.tags t)) → (∀ z ∈ Z, hget s.h z ≠ none) →
        ∃ v1 h' nx', Ends 0 s (.tup [.agg [cB a.origin, encLegs fr a.path, cW a.next, .bool a.hasMed, cW a.med, .bool a.hasPref, cW a.pref, vt], .int .i64 0]) v1 h' nx' ∧ (v1 = tagV fr a t ∧ h' = [] ∧ nx' = 0) := fun Z hl hv hz => by
      rw [tagV_new hr hno hl]
      exact Ends.pure Z (.tupL ⟨.aggL ⟨.free .int, .free (encLegs_free _ _), .free .int, .free .bool, .free .int, .free .bool, .free .int, hv, trivial⟩, .free .int, trivial⟩) hz
    (conv => whnf)
    split
    rotate_left
    · rename_i hth
      have hth : anyT a.tags t = true := by simpa using hth
      have ho : outT (a.tags.take a.tags.length) t = insT a.tags t := by rw [List.take_length, outT, if_pos hth]
      (conv => whnf)
      intro _
      (conv => whnf)
      split
      · rename_i h16
        (conv => whnf)
        exact long (by simp only [ho] at h16; simp [insT_len] at h16; omega) .noA
      · rename_i h16
        (conv => whnf)
        exact fin [2] (by simp only [ho] at h16; simp [insT_len] at h16; omega) (LeV.sl_fr (LeV.freezeE (by simp) rfl (by simp) (by simp only [ho]; simp [List.take_of_length_le]) (rowsW_free _))) (by intro z hz; simp only [List.mem_cons, List.not_mem_nil, or_false] at hz; rcases hz with rfl <;> exact ne_none_of rfl)
    · rename_i hth
      have hth : anyT a.tags t = false := by simpa using hth
      have ho : outT (a.tags.take a.tags.length) t = a.tags := by rw [List.take_length, outT, hth]; rfl
      have hi2 : insT a.tags t = a.tags ++ [t] := insT_none hth
      (conv => whnf)
      refine ⟨rfl, by simp, ⟨rfl, rfl, rfl, rfl, by decide⟩, by simp, ⟨by simp only [ho]; simp [tab, tabOf, nth]; omega, by simp only [ho]; simp; omega⟩, ?_⟩
      (conv => whnf)
      intro _
      (conv => whnf)
      split
      · rename_i h16
        (conv => whnf)
        exact long (by simp only [ho] at h16; simp at h16; omega) .noA
      · rename_i h16
        (conv => whnf)
        exact fin [4] (by simp only [ho] at h16; simp at h16; omega) (LeV.sl_fr (LeV.freezeE (ys := rowsW (insT a.tags t)) (by simp) rfl (by simp) (by simp only [ho, hi2]; simp [List.take_of_length_le]) (rowsW_free _))) (by intro z hz; simp only [List.mem_cons, List.not_mem_nil, or_false] at hz; rcases hz with rfl <;> exact ne_none_of rfl)
end Go.Proofs.YtjpfofmkgdjelaaGreat
/- Contracts: a number is looked for among rising ones. -/
set_option linter.unusedVariables false
set_option linter.unusedSimpArgs false
namespace Go.Proofs.YtjpfofmkgdjelaaGreat
open Go.RowKit
open Go.Proofs.Tryz (prog)
attribute [local irreducible] CallV RoundV

set_option maxRecDepth 100000 in
theorem cmpNaN_ok (x : UInt32) : PCon prog 122 [cW x] (.bool false) := by
  refine callV_of (fn := Go.Proofs.Tryz.f122) (body := _) tab_ok mixed rfl rfl (by decide) (by simp [Go.Proofs.Tryz.f122]) ?_
  (conv => whnf)
  exact (Ends.pure [] (by first | exact .bool_of (by simp) | exact .ptr rfl (by omega) | exact .osl_of rfl (by omega) rfl | exact .fr rfl | exact LeL.fr rfl | exact .yld rfl (by omega) | exact .eptr rfl (by omega) | exact .osl0 | exact .snil_sl | exact .to_any | (refine .tupL ?_; repeat' (first | exact True.intro | exact .bool_of (by simp) | exact .ptr rfl (by omega) | exact .osl_of rfl (by omega) rfl | exact .fr rfl | exact LeL.fr rfl | exact .yld rfl (by omega) | exact .eptr rfl (by omega) | exact .osl0 | exact .snil_sl | exact .to_any | refine .aggL ?_ | refine ⟨?_, ?_⟩)) | (refine .aggL ?_; repeat' (first | exact True.intro | exact .bool_of (by simp) | exact .ptr rfl (by omega) | exact .osl_of rfl (by omega) rfl | exact .fr rfl | exact LeL.fr rfl | exact .yld rfl (by omega) | exact .eptr rfl (by omega) | exact .osl0 | exact .snil_sl | exact .to_any | refine ⟨?_, ?_⟩))) (by simp))
set_option maxRecDepth 100000 in
theorem slNaN_ok (x : UInt32) : PCon prog 107 [cW x] (.bool false) := by
  refine callV_of (fn := Go.Proofs.Tryz.f107) (body := _) tab_ok mixed rfl rfl (by decide) (by simp [Go.Proofs.Tryz.f107]) ?_
  (conv => whnf)
  exact (Ends.pure [] (by first | exact .bool_of (by simp) | exact .ptr rfl (by omega) | exact .osl_of rfl (by omega) rfl | exact .fr rfl | exact LeL.fr rfl | exact .yld rfl (by omega) | exact .eptr rfl (by omega) | exact .osl0 | exact .snil_sl | exact .to_any | (refine .tupL ?_; repeat' (first | exact True.intro | exact .bool_of (by simp) | exact .ptr rfl (by omega) | exact .osl_of rfl (by omega) rfl | exact .fr rfl | exact LeL.fr rfl | exact .yld rfl (by omega) | exact .eptr rfl (by omega) | exact .osl0 | exact .snil_sl | exact .to_any | refine .aggL ?_ | refine ⟨?_, ?_⟩)) | (refine .aggL ?_; repeat' (first | exact True.intro | exact .bool_of (by simp) | exact .ptr rfl (by omega) | exact .osl_of rfl (by omega) rfl | exact .fr rfl | exact LeL.fr rfl | exact .yld rfl (by omega) | exact .eptr rfl (by omega) | exact .osl0 | exact .snil_sl | exact .to_any | refine ⟨?_, ?_⟩))) (by simp))
set_option maxRecDepth 100000 in
theorem less32_ok (x y : UInt32) : PCon prog 106 [cW x, cW y] (.bool (decide (x < y))) := by
  refine callV_of (fn := Go.Proofs.Tryz.f106) (body := _) tab_ok mixed rfl rfl (by decide) (by simp [Go.Proofs.Tryz.f106]) ?_
  (conv => whnf)
  refine callV_pure (cmpNaN_ok x) ⟨.free .int, trivial⟩ ?_
  (conv => whnf)
  exact (Ends.pure [] (by first | exact .bool_of (by rw [decide_eq_decide, UInt32.lt_iff_toNat_lt]; omega) | exact .ptr rfl (by omega) | exact .osl_of rfl (by omega) rfl | exact .fr rfl | exact LeL.fr rfl | exact .yld rfl (by omega) | exact .eptr rfl (by omega) | exact .osl0 | exact .snil_sl | exact .to_any | (refine .tupL ?_; repeat' (first | exact True.intro | exact .bool_of (by rw [decide_eq_decide, UInt32.lt_iff_toNat_lt]; omega) | exact .ptr rfl (by omega) | exact .osl_of rfl (by omega) rfl | exact .fr rfl | exact LeL.fr rfl | exact .yld rfl (by omega) | exact .eptr rfl (by omega) | exact .osl0 | exact .snil_sl | exact .to_any | refine .aggL ?_ | refine ⟨?_, ?_⟩)) | (refine .aggL ?_; repeat' (first | exact True.intro | exact .bool_of (by rw [decide_eq_decide, UInt32.lt_iff_toNat_lt]; omega) | exact .ptr rfl (by omega) | exact .osl_of rfl (by omega) rfl | exact .fr rfl | exact LeL.fr rfl | exact .yld rfl (by omega) | exact .eptr rfl (by omega) | exact .osl0 | exact .snil_sl | exact .to_any | refine ⟨?_, ?_⟩))) (by simp))
theorem half (i j : Nat) (h : i + j < 1000000) : IntKind.i64.wrap ((IntKind.u64.wrap (IntKind.i64.wrap ((i : Int) + (j : Int)))).fdiv (2 ^ (min (Int.toNat 1) IntKind.u64.bits))) = (((i + j) / 2 : Nat) : Int) := by
  rw [wrap64 (n := (i : Int) + (j : Int)) (by omega) (by omega), wrapu64, Int.emod_eq_of_lt (by omega) (by omega)]
  rw [show min (Int.toNat 1) IntKind.u64.bits = 1 by decide]
  rw [Int.fdiv_eq_ediv_of_nonneg _ (by decide), wrap64 (by omega) (by omega)]
  omega
theorem rises_lt : ∀ {l : List UInt32}, rises l = true → ∀ {i j : Nat} (hi : i < j) (hj : j < l.length), l[i] < l[j]
  | [], _, i, j, _, hj => by simp at hj
  | [a], _, i, j, hi, hj => by simp at hj; omega
  | a :: b :: r, h, i, j, hi, hj => by
    simp only [rises, Bool.and_eq_true, decide_eq_true_eq] at h
    cases j with
    | zero => omega
    | succ j =>
      cases i with
      | zero =>
        cases j with
        | zero => exact h.1
        | succ j =>
          have := rises_lt h.2 (i := 0) (j := j + 1) (by omega) (by simpa using hj)
          simp only [List.getElem_cons_zero, List.getElem_cons_succ] at this ⊢
          rw [UInt32.lt_iff_toNat_lt] at *
          have h1 := h.1
          omega
      | succ i =>
        have := rises_lt h.2 (i := i) (j := j) (by omega) (by simpa using hj)
        simpa using this
structure Bs (l : List UInt32) (t : UInt32) where
  i : Nat
  j : Nat
  hij : i ≤ j
  hj : j ≤ l.length
  lo : ∀ (k : Nat) (hk : k < l.length), k < i → l[k] < t
  hi : ∀ (k : Nat) (hk : k < l.length), j ≤ k → ¬ l[k] < t
set_option maxRecDepth 100000 in
set_option maxHeartbeats 4000000 in
theorem bs_ok (fr : Bool) (l : List UInt32) (t : UInt32) (hr : rises l = true) (hl : l.length ≤ 1000) : ∃ i, i ≤ l.length ∧ (∀ (k : Nat) (hk : k < l.length), k < i → l[k] < t) ∧ (∀ (k : Nat) (hk : k < l.length), i ≤ k → ¬ l[k] < t) ∧
    PCon prog 78 [encW fr l, cW t] (.tup [cI i, .bool (l.contains t)]) := by
  -- the place
  have place : ∀ l : List UInt32, rises l = true → ∃ i, i ≤ l.length ∧ (∀ (k : Nat) (hk : k < l.length), k < i → l[k] < t) ∧ (∀ (k : Nat) (hk : k < l.length), i ≤ k → ¬ l[k] < t) := by
    intro l hr
    refine ⟨l.findIdx (fun y => !decide (y < t)), List.findIdx_le_length, fun k hk hlt => ?_, fun k hk hle => ?_⟩
    · have := List.not_of_lt_findIdx hlt
      simpa using this
    · have hlt : l.findIdx (fun y => !decide (y < t)) < l.length := by omega
      have h1 := List.findIdx_getElem (w := hlt)
      simp only [Bool.not_eq_true', decide_eq_false_iff_not] at h1
      rcases Nat.lt_or_ge (l.findIdx (fun y => !decide (y < t))) k with h2 | h2
      · have h3 := rises_lt hr h2 hk
        rw [UInt32.lt_iff_toNat_lt] at *
        omega
      · have : l.findIdx (fun y => !decide (y < t)) = k := by omega
        simp only [this] at h1
        exact h1
  obtain ⟨p, hp, plo, phi⟩ := place l hr
  refine ⟨p, hp, plo, phi, ?_⟩
  refine callV_of (fn := Go.Proofs.Tryz.f78) (body := _) tab_ok mixed rfl rfl (by decide) (by simp [Go.Proofs.Tryz.f78]) ?_
  (conv => whnf)
  intro _
  (conv => whnf)
  refine vcg_loop tab_ok mixed (fun s : Bs l t => ⟨[(0, encW fr l), (1, cW t), (6, cI l.length), (7, cI s.i), (8, cI s.j)], [], 0⟩) (fun s => s.j - s.i) ⟨0, l.length, by omega, by omega, fun k hk h => by omega, fun k hk h => by omega⟩ (Wk.i (by repeat' (first | exact True.intro | exact id | exact rfl | decide | exact Nat.le_of_ble_eq_true rfl | exact .int_of (by simp) | exact .ptr rfl (by omega) | exact .osl_of rfl (by omega) rfl | exact .fr rfl | exact LeL.fr rfl | exact .yld rfl (by omega) | exact .eptr rfl (by omega) | exact .osl0 | exact .snil_sl | exact .to_any | exact LeB.fr rfl id id | exact LeB.fr (by simp; done) id id | refine Or.inl ⟨by simp, _, rfl, ?_⟩ | exact Or.inr ⟨by simp, _, _, _, _, rfl⟩ | refine ⟨rfl, rfl, rfl, rfl, rfl, rfl, ?_⟩ | refine ⟨?_, ?_⟩)) (by omega)) (fun s => ?_)
  obtain ⟨i, j, hij, hj, lo, hi⟩ := s
  (conv => whnf)
  split
  · rename_i hc
    have hc : i < j := by simpa using hc
    have hh := half i j (by omega)
    have hm : (i + j) / 2 < l.length := by omega
    (conv => whnf)
    refine ⟨by decide, ?_⟩
    (conv => whnf)
    simp only [hh]
    refine ⟨trivial, _, ⟨by first | omega | (simp only; omega), idxW hm⟩, ?_⟩
    (conv => whnf)
    refine callV_pure (less32_ok l[(i + j) / 2] t) ⟨.free .int, .free .int, trivial⟩ ?_
    (conv => whnf)
    split
    · rename_i h1
      have h1 : l[(i + j) / 2] < t := by simpa using h1
      (conv => whnf)
      refine ⟨⟨(i + j) / 2 + 1, j, by omega, hj, fun k hk hlt => ?_, hi⟩, (Wk.i (by repeat' (first | exact True.intro | exact id | exact rfl | decide | exact Nat.le_of_ble_eq_true rfl | exact .int_of (wrap64_succ hm (show l.length ≤ maxLen by unfold maxLen; omega)) | exact .ptr rfl (by omega) | exact .osl_of rfl (by omega) rfl | exact .fr rfl | exact LeL.fr rfl | exact .yld rfl (by omega) | exact .eptr rfl (by omega) | exact .osl0 | exact .snil_sl | exact .to_any | exact LeB.fr rfl id id | exact LeB.fr (by simp; done) id id | refine Or.inl ⟨by simp, _, rfl, ?_⟩ | exact Or.inr ⟨by simp, _, _, _, _, rfl⟩ | refine ⟨rfl, rfl, rfl, rfl, rfl, rfl, ?_⟩ | refine ⟨?_, ?_⟩)) (by omega)), by simp only; omega⟩
      rcases Nat.lt_or_ge k ((i + j) / 2) with h2 | h2
      · have := rises_lt hr h2 hm
        rw [UInt32.lt_iff_toNat_lt] at *
        omega
      · obtain rfl : k = (i + j) / 2 := by omega
        exact h1
    · rename_i h1
      have h1 : ¬ l[(i + j) / 2] < t := by simpa using h1
      (conv => whnf)
      refine ⟨⟨i, (i + j) / 2, by omega, by omega, lo, fun k hk hle => ?_⟩, (Wk.i (by repeat' (first | exact True.intro | exact id | exact rfl | decide | exact Nat.le_of_ble_eq_true rfl | exact .ptr rfl (by omega) | exact .osl_of rfl (by omega) rfl | exact .fr rfl | exact LeL.fr rfl | exact .yld rfl (by omega) | exact .eptr rfl (by omega) | exact .osl0 | exact .snil_sl | exact .to_any | exact LeB.fr rfl id id | exact LeB.fr (by simp; done) id id | refine Or.inl ⟨by simp, _, rfl, ?_⟩ | exact Or.inr ⟨by simp, _, _, _, _, rfl⟩ | refine ⟨rfl, rfl, rfl, rfl, rfl, rfl, ?_⟩ | refine ⟨?_, ?_⟩)) (by omega)), by simp only; omega⟩
      rcases Nat.lt_or_ge ((i + j) / 2) k with h2 | h2
      · have := rises_lt hr h2 hk
        rw [UInt32.lt_iff_toNat_lt] at *
        omega
      · obtain rfl : k = (i + j) / 2 := by omega
        exact h1
  · rename_i hc
    have hc : i = j := by simp at hc; omega
    subst hc
    have hpi : i = p := by
      rcases Nat.lt_trichotomy i p with h | h | h
      · exact absurd (plo i (by omega) h) (hi i (by omega) (Nat.le_refl _))
      · exact h
      · exact absurd (lo p (by omega) h) (phi p (by omega) (Nat.le_refl _))
    subst hpi
    have hcont : l.contains t = true ↔ ∃ h : i < l.length, l[i] = t := by
      rw [List.contains_iff_mem]
      constructor
      · intro hm
        obtain ⟨k, hk, e⟩ := List.mem_iff_getElem.1 hm
        rcases Nat.lt_trichotomy k i with h | h | h
        · have := lo k hk h
          rw [e] at this
          exact absurd this (UInt32.lt_irrefl _)
        · subst h; exact ⟨hk, e⟩
        · have h1 := rises_lt hr h hk
          rw [e] at h1
          exact absurd h1 (hi i (by omega) (Nat.le_refl _))
      · rintro ⟨h, e⟩
        exact List.mem_iff_getElem.2 ⟨i, h, e⟩
    (conv => whnf)
    cases hin : decide ((i : Int) < (l.length : Int)) with
    | true =>
      have hin : i < l.length := by simpa using hin
      (conv => whnf)
      refine ⟨rfl, _, ⟨by first | omega | (simp only; omega), idxW hin⟩, ?_⟩
      (conv => whnf)
      cases heq : ((l[i].toNat : Int) == (t.toNat : Int)) with
      | true =>
        have heq : l[i] = t := by simp at heq; exact UInt32.toNat_inj.1 (by omega)
        (conv => whnf)
        exact (Ends.pure [] (by first | exact .int_of rfl | exact .bool_of (by symm; rw [hcont]; exact ⟨hin, heq⟩) | exact .ptr rfl (by omega) | exact .osl_of rfl (by omega) rfl | exact .fr rfl | exact LeL.fr rfl | exact .yld rfl (by omega) | exact .eptr rfl (by omega) | exact .osl0 | exact .snil_sl | exact .to_any | (refine .tupL ?_; repeat' (first | exact True.intro | exact .int_of rfl | exact .bool_of (by symm; rw [hcont]; exact ⟨hin, heq⟩) | exact .ptr rfl (by omega) | exact .osl_of rfl (by omega) rfl | exact .fr rfl | exact LeL.fr rfl | exact .yld rfl (by omega) | exact .eptr rfl (by omega) | exact .osl0 | exact .snil_sl | exact .to_any | refine .aggL ?_ | refine ⟨?_, ?_⟩)) | (refine .aggL ?_; repeat' (first | exact True.intro | exact .int_of rfl | exact .bool_of (by symm; rw [hcont]; exact ⟨hin, heq⟩) | exact .ptr rfl (by omega) | exact .osl_of rfl (by omega) rfl | exact .fr rfl | exact LeL.fr rfl | exact .yld rfl (by omega) | exact .eptr rfl (by omega) | exact .osl0 | exact .snil_sl | exact .to_any | refine ⟨?_, ?_⟩))) (by simp))
      | false =>
        have heq : l[i] ≠ t := by intro e; rw [e] at heq; simp at heq
        (conv => whnf)
        refine ⟨rfl, _, ⟨by first | omega | (simp only; omega), idxW hin⟩, ?_⟩
        (conv => whnf)
        refine callV_pure (slNaN_ok l[i]) ⟨.free .int, trivial⟩ ?_
        (conv => whnf)
        exact (Ends.pure [] (by first | exact .int_of rfl | exact .bool_of (by symm; rw [← Bool.not_eq_true, hcont]; rintro ⟨_, e⟩; exact heq e) | exact .ptr rfl (by omega) | exact .osl_of rfl (by omega) rfl | exact .fr rfl | exact LeL.fr rfl | exact .yld rfl (by omega) | exact .eptr rfl (by omega) | exact .osl0 | exact .snil_sl | exact .to_any | (refine .tupL ?_; repeat' (first | exact True.intro | exact .int_of rfl | exact .bool_of (by symm; rw [← Bool.not_eq_true, hcont]; rintro ⟨_, e⟩; exact heq e) | exact .ptr rfl (by omega) | exact .osl_of rfl (by omega) rfl | exact .fr rfl | exact LeL.fr rfl | exact .yld rfl (by omega) | exact .eptr rfl (by omega) | exact .osl0 | exact .snil_sl | exact .to_any | refine .aggL ?_ | refine ⟨?_, ?_⟩)) | (refine .aggL ?_; repeat' (first | exact True.intro | exact .int_of rfl | exact .bool_of (by symm; rw [← Bool.not_eq_true, hcont]; rintro ⟨_, e⟩; exact heq e) | exact .ptr rfl (by omega) | exact .osl_of rfl (by omega) rfl | exact .fr rfl | exact LeL.fr rfl | exact .yld rfl (by omega) | exact .eptr rfl (by omega) | exact .osl0 | exact .snil_sl | exact .to_any | refine ⟨?_, ?_⟩))) (by simp))
    | false =>
      have hin : ¬ i < l.length := by simpa using hin
      (conv => whnf)
      exact (Ends.pure [] (by first | exact .int_of rfl | exact .bool_of (by symm; rw [← Bool.not_eq_true, hcont]; rintro ⟨h, _⟩; exact hin h) | exact .ptr rfl (by omega) | exact .osl_of rfl (by omega) rfl | exact .fr rfl | exact LeL.fr rfl | exact .yld rfl (by omega) | exact .eptr rfl (by omega) | exact .osl0 | exact .snil_sl | exact .to_any | (refine .tupL ?_; repeat' (first | exact True.intro | exact .int_of rfl | exact .bool_of (by symm; rw [← Bool.not_eq_true, hcont]; rintro ⟨h, _⟩; exact hin h) | exact .ptr rfl (by omega) | exact .osl_of rfl (by omega) rfl | exact .fr rfl | exact LeL.fr rfl | exact .yld rfl (by omega) | exact .eptr rfl (by omega) | exact .osl0 | exact .snil_sl | exact .to_any | refine .aggL ?_ | refine ⟨?_, ?_⟩)) | (refine .aggL ?_; repeat' (first | exact True.intro | exact .int_of rfl | exact .bool_of (by symm; rw [← Bool.not_eq_true, hcont]; rintro ⟨h, _⟩; exact hin h) | exact .ptr rfl (by omega) | exact .osl_of rfl (by omega) rfl | exact .fr rfl | exact LeL.fr rfl | exact .yld rfl (by omega) | exact .eptr rfl (by omega) | exact .osl0 | exact .snil_sl | exact .to_any | refine ⟨?_, ?_⟩))) (by simp))
end Go.Proofs.YtjpfofmkgdjelaaGreat
/- Contracts: a row put into a slice. -/
set_option linter.unusedVariables false
set_option linter.unusedSimpArgs false
namespace Go.Proofs.YtjpfofmkgdjelaaGreat
open Go.RowKit
open Go.Proofs.Tryz (prog)
attribute [local irreducible] CallV RoundV

theorem cp_mid {α : Type} {P Q S ys R : List α} {row n : Nat} (hR : R = P ++ Q ++ S) (hq : ys.length = Q.length) (hn : ys.length ≤ n) (hr : row = P.length) : R.take row ++ ys.take n ++ R.drop (row + min ys.length n) = P ++ ys ++ S := by
  subst hr; subst hR
  rw [List.take_of_length_le hn, Nat.min_eq_left hn, List.append_assoc P Q S, List.take_left, hq, ← List.drop_drop, List.drop_left, List.drop_left]
theorem cp_cut {α : Type} {P Q S ys R : List α} {row n : Nat} (hR : R = P ++ Q ++ S) (hq : n = Q.length) (hn : n ≤ ys.length) (hr : row = P.length) : R.take row ++ ys.take n ++ R.drop (row + min ys.length n) = P ++ ys.take n ++ S := by
  subst hr; subst hR
  rw [Nat.min_eq_right hn, List.append_assoc P Q S, List.take_left, hq, ← List.drop_drop, List.drop_left, List.drop_left]
theorem ins_grow {α : Type} {rows : List α} {x z : α} {i : Nat} (he : i < rows.length) :
      List.take (i + 1)
            (List.take i (List.take i rows ++ List.replicate (rows.length + 1 - i) z) ++
                List.take (i + (rows.length + 1 - i) - i) [x] ++
              List.drop (i + min [x].length (i + (rows.length + 1 - i) - i))
                (List.take i rows ++ List.replicate (rows.length + 1 - i) z)) ++
          List.take (i + (rows.length + 1 - i) - (i + 1)) (List.take (rows.length - i) (List.drop i rows)) ++
        List.drop
          (i + 1 + min (List.take (rows.length - i) (List.drop i rows)).length (i + (rows.length + 1 - i) - (i + 1)))
          (List.take i (List.take i rows ++ List.replicate (rows.length + 1 - i) z) ++
              List.take (i + (rows.length + 1 - i) - i) [x] ++
            List.drop (i + min [x].length (i + (rows.length + 1 - i) - i))
              (List.take i rows ++ List.replicate (rows.length + 1 - i) z)) = List.take i rows ++ [x] ++ List.drop i rows := by
  have h1 : rows.length + 1 - i = (rows.length - i) + 1 := by omega
  rw [cp_mid (P := rows.take i) (Q := [z]) (S := List.replicate (rows.length - i) z) (ys := [x]) (R := List.take i rows ++ List.replicate (rows.length + 1 - i) z) (n := i + (rows.length + 1 - i) - i) (row := i) (by rw [h1, List.replicate_succ]; simp) rfl (by simp; omega) (by simp; omega)]
  rw [List.take_of_length_le (l := rows.drop i) (by simp)]
  rw [cp_mid (P := rows.take i ++ [x]) (Q := List.replicate (rows.length - i) z) (S := []) (ys := rows.drop i) (R := rows.take i ++ [x] ++ List.replicate (rows.length - i) z) (n := i + (rows.length + 1 - i) - (i + 1)) (row := i + 1) (by simp) (by simp) (by simp; omega) (by simp; omega)]
  rw [List.append_nil]
theorem ins_shift {α : Type} {rows : List α} {x z : α} {i k : Nat} (he : i < rows.length) (hk : 0 < k) :
      List.take i
            (List.take (i + 1) (rows ++ List.replicate k z) ++
                List.take (rows.length + 1 - (i + 1))
                  (List.take (rows.length + 1 - i) (List.drop i (rows ++ List.replicate k z))) ++
              List.drop
                (i + 1 +
                  min
                    (List.take (rows.length + 1 - i)
                        (List.drop i (rows ++ List.replicate k z))).length
                    (rows.length + 1 - (i + 1)))
                (rows ++ List.replicate k z)) ++
          List.take (rows.length + 1 - i) [x] ++
        List.drop (i + min [x].length (rows.length + 1 - i))
          (List.take (i + 1) (rows ++ List.replicate k z) ++
              List.take (rows.length + 1 - (i + 1))
                (List.take (rows.length + 1 - i) (List.drop i (rows ++ List.replicate k z))) ++
            List.drop
              (i + 1 +
                min
                  (List.take (rows.length + 1 - i)
                      (List.drop i (rows ++ List.replicate k z))).length
                  (rows.length + 1 - (i + 1)))
              (rows ++ List.replicate k z)) = List.take i rows ++ [x] ++ List.drop i rows ++ List.replicate (k - 1) z := by
  obtain ⟨k, rfl⟩ : ∃ j, k = j + 1 := ⟨k - 1, by omega⟩
  have hd : rows.drop i = rows[i] :: rows.drop (i + 1) := List.drop_eq_getElem_cons he
  have hys : List.take (rows.length + 1 - i) (List.drop i (rows ++ List.replicate (k + 1) z)) = rows.drop i ++ [z] := by
    rw [List.drop_append_of_le_length (by omega), List.take_append, List.take_of_length_le (by simp; omega), List.length_drop, show rows.length + 1 - i - (rows.length - i) = 1 by omega, List.replicate_succ]
    rfl
  rw [hys]
  rw [cp_cut (P := rows.take (i + 1)) (Q := rows.drop (i + 1) ++ [z]) (S := List.replicate k z) (ys := rows.drop i ++ [z]) (R := rows ++ List.replicate (k + 1) z) (n := rows.length + 1 - (i + 1)) (row := i + 1) (by rw [← List.append_assoc, List.take_append_drop, List.replicate_succ]; simp) (by simp; omega) (by simp) (by simp; omega)]
  rw [List.take_append_of_le_length (l₁ := rows.drop i) (l₂ := [z]) (by simp), List.take_of_length_le (l := rows.drop i) (by simp)]
  rw [cp_mid (P := rows.take i) (Q := [rows[i]]) (S := rows.drop i ++ List.replicate k z) (ys := [x]) (R := rows.take (i + 1) ++ rows.drop i ++ List.replicate k z) (n := rows.length + 1 - i) (row := i) (by rw [List.take_succ_eq_append_getElem he]; simp) rfl (by simp; omega) (by simp; omega)]
  simp
theorem insRows_free {rows : List (List V)} {x : List V} {i : Nat} (hf : ∀ r ∈ rows, ∀ v ∈ r, Free v) (hx : ∀ v ∈ x, Free v) : ∀ r ∈ rows.take i ++ [x] ++ rows.drop i, ∀ v ∈ r, Free v := by
  intro r hr v hv
  simp only [List.mem_append, List.mem_singleton] at hr
  rcases hr with (h | rfl) | h
  · exact hf r (List.mem_of_mem_take h) v hv
  · exact hx v hv
  · exact hf r (List.mem_of_mem_drop h) v hv
theorem insRows_free' {rows : List (List V)} {x : List V} {i k n : Nat} (hf : ∀ r ∈ rows, ∀ v ∈ r, Free v) (hx : ∀ v ∈ x, Free v) : ∀ r ∈ rows.take i ++ [x] ++ rows.drop i ++ List.replicate k (List.replicate n .any), ∀ v ∈ r, Free v := by
  intro r hr v hv
  rcases List.mem_append.1 hr with h | h
  · exact insRows_free hf hx r h v hv
  · rw [List.eq_of_mem_replicate h] at hv
    rw [List.eq_of_mem_replicate hv]
    exact .any
set_option maxRecDepth 100000 in
set_option maxHeartbeats 4000000 in
theorem insertW_ok (rows : List (List V)) (x : List V) (hf : ∀ r ∈ rows, ∀ v ∈ r, Free v) (hx : ∀ v ∈ x, Free v) (ex : Bool) (hex : rows ≠ [] → ex = true) (i k : Nat) (hl : rows.length ≤ 1000) (hi : i ≤ rows.length) :
    CallV prog 79 [.osl 0 1 0 rows.length, cI i, .osl 1 1 0 1] [(0, some (.arr true ex 22 1 (rows ++ List.replicate k (List.replicate 1 .any)))), (1, some (.arr true true 22 1 [x]))] 2
      (fun v h' nx' => ∃ k', v = .osl 2 1 0 (rows.length + 1) ∧ h' = [(2, some (.arr true false 22 1 (rows.take i ++ [x] ++ rows.drop i ++ List.replicate k' (List.replicate 1 .any))))] ∧ nx' = 3) := by
  refine callV_of (fn := Go.Proofs.Tryz.f79) (body := _) tab_ok mixed rfl rfl (by decide) (by simp [Go.Proofs.Tryz.f79]) ?_
  (conv => whnf)
  refine ⟨rfl, ⟨by simp, by simp; omega⟩, ?_⟩
  (conv => whnf)
  intro _
  (conv => whnf)
  intro _
  (conv => whnf)
  split
  · rename_i he
    have he : i = rows.length := by simp at he; omega
    subst he
    (conv => whnf)
    refine ⟨rfl, by simp, ⟨rfl, rfl, rfl, rfl, by decide⟩, by simp, ⟨by simp [tab, tabOf, nth]; omega, by simp; omega⟩, ?_⟩
    (conv => whnf)
    refine ⟨_, _, _, ?_, 0, rfl, rfl, rfl⟩
    exact (Ends.all id [] (by repeat' (first | exact True.intro | exact id | exact rfl | decide | exact Nat.le_of_ble_eq_true rfl | exact .osl_of rfl (by omega) (by simp) | exact LeB.eq_of (by simp [List.take_of_length_le]) (insRows_free' hf hx) | exact .ptr rfl (by omega) | exact .osl_of rfl (by omega) rfl | exact .fr rfl | exact LeL.fr rfl | exact .yld rfl (by omega) | exact .eptr rfl (by omega) | exact .osl0 | exact .snil_sl | exact .to_any | exact LeB.fr rfl id id | exact LeB.fr (by simp; done) id id | refine Or.inl ⟨by simp, _, rfl, ?_⟩ | exact Or.inr ⟨by simp, _, _, _, _, rfl⟩ | refine ⟨rfl, rfl, rfl, rfl, rfl, rfl, ?_⟩ | refine ⟨?_, ?_⟩)) (fun _ _ _ _ h => h) (fun _ _ => rfl) (by omega) (by simp))
  · rename_i he
    have he : i < rows.length := by simp at he; omega
    obtain rfl := hex (fun e => by subst e; simp at he)
    (conv => whnf)
    refine ⟨⟨rfl, by decide, by omega, rfl⟩, ?_⟩
    (conv => whnf)
    have hw1 : IntKind.i64.wrap ((rows.length : Int) + ((1 : Nat) : Int)) = ((rows.length + 1 : Nat) : Int) := by rw [wrap64] <;> omega
    have hw2 : IntKind.i64.wrap (IntKind.i64.wrap ((rows.length : Int) + ((1 : Nat) : Int)) - (i : Int)) = ((rows.length + 1 - i : Nat) : Int) := by rw [hw1, wrap64] <;> omega
    have hw3 : IntKind.i64.wrap ((i : Int) + ((1 : Nat) : Int)) = ((i + 1 : Nat) : Int) := by rw [wrap64] <;> omega
    split
    · rename_i hc
      have hk0 : k = 0 := by rw [hw1] at hc; simp at hc; omega
      subst hk0
      (conv => whnf)
      refine ⟨rfl, .own, ⟨trivial, by simp, by simp, by simp; omega⟩, ?_⟩
      (conv => whnf)
      refine ⟨⟨rfl, rfl, rfl, by decide, by rw [hw2]; omega⟩, by simp; omega, ⟨by rw [hw2]; simp [tab, tabOf, nth]; omega, by rw [hw2]; simp; omega⟩, true, ⟨rfl, by rw [hw2]; simp; omega⟩, ?_⟩
      (conv => whnf)
      refine ⟨rfl, ⟨by simp, by simp⟩, ?_⟩
      (conv => whnf)
      refine ⟨rfl, by simp, ⟨rfl, rfl, rfl⟩, by rw [hw2]; simp; omega, ?_⟩
      (conv => whnf)
      refine ⟨rfl, ⟨by rw [hw3]; omega, by rw [hw2, hw3]; simp; omega⟩, ?_⟩
      (conv => whnf)
      refine ⟨rfl, ⟨by simp, by simp; omega⟩, ?_⟩
      (conv => whnf)
      refine ⟨rfl, by simp, ⟨rfl, rfl, rfl⟩, by rw [hw2, hw3]; simp; omega, ?_⟩
      (conv => whnf)
      refine ⟨by kernel_rfl, ?_⟩
      (conv => whnf)
      refine ⟨_, _, _, ?_, 0, rfl, rfl, rfl⟩
      refine (Ends.all id [] (by repeat' (first | exact True.intro | exact id | exact rfl | decide | exact Nat.le_of_ble_eq_true rfl | exact .osl_of rfl (by omega) (by rw [hw2]; simp; omega) | exact ⟨id, (fun h => by cases h), rfl, rfl, LeR.out (LeR.of_eq (by simp only [hw2, hw3, Int.toNat_natCast, Nat.zero_add, Nat.sub_zero, List.drop_zero, List.take_succ_cons, List.take_zero, List.replicate_zero, List.append_nil]; exact ins_grow he) (LeR.free (insRows_free' hf hx)))⟩ | exact .ptr rfl (by omega) | exact .osl_of rfl (by omega) rfl | exact .fr rfl | exact LeL.fr rfl | exact .yld rfl (by omega) | exact .eptr rfl (by omega) | exact .osl0 | exact .snil_sl | exact .to_any | exact LeB.fr rfl id id | exact LeB.fr (by simp; done) id id | refine Or.inl ⟨by simp, _, rfl, ?_⟩ | exact Or.inr ⟨by simp, _, _, _, _, rfl⟩ | refine ⟨rfl, rfl, rfl, rfl, rfl, rfl, ?_⟩ | refine ⟨?_, ?_⟩)) (fun _ _ _ _ h => h) (fun _ _ => rfl) (by omega) (by simp))
    · rename_i hc
      have hk0 : 0 < k := by rw [hw1] at hc; simp at hc; omega
      (conv => whnf)
      refine ⟨rfl, .past, rfl, by decide, by omega, ⟨trivial, by rw [hw1]; omega, rfl, by rw [hw1]; simp; omega⟩, ?_⟩
      (conv => whnf)
      refine ⟨rfl, ⟨by rw [hw3]; omega, by rw [hw1, hw3]; simp; omega⟩, ?_⟩
      (conv => whnf)
      refine callV_overlaps tab_ok (t := 31) (r := 4) (e := 22) rfl (by simp [tab, tabOf, nth]) (by decide) rfl rfl rfl rfl rfl rfl rfl (by decide) ?_
      (conv => whnf)
      refine ⟨rfl, ⟨by rw [hw3]; omega, by rw [hw1, hw3]; simp; omega⟩, ?_⟩
      (conv => whnf)
      refine ⟨rfl, ⟨by simp, by rw [hw1]; simp; omega⟩, ?_⟩
      (conv => whnf)
      refine ⟨rfl, by rw [hw1]; simp; omega, ⟨rfl, rfl, rfl⟩, by rw [hw1, hw3]; simp; omega, ?_⟩
      (conv => whnf)
      refine ⟨by kernel_rfl, ?_⟩
      (conv => whnf)
      refine ⟨rfl, ⟨by simp, by rw [hw1]; simp; omega⟩, ?_⟩
      (conv => whnf)
      refine ⟨rfl, by simp, ⟨rfl, rfl, rfl⟩, by rw [hw1]; simp; omega, ?_⟩
      (conv => whnf)
      refine ⟨_, _, _, ?_, k - 1, rfl, rfl, rfl⟩
      refine (Ends.all (renOf [(2, 0)]) [] (by repeat' (first | exact True.intro | exact id | exact rfl | decide | exact Nat.le_of_ble_eq_true rfl | exact .osl_of rfl (by omega) (by rw [hw1]; simp) | exact ⟨id, (fun h => by cases h), rfl, rfl, LeR.out (LeR.of_eq (by simp only [hw1, hw3, Int.toNat_natCast, Nat.zero_add, Nat.sub_zero, List.drop_zero, List.take_succ_cons, List.take_zero, List.replicate_zero, List.append_nil]; exact ins_shift he hk0) (LeR.free (insRows_free' hf hx)))⟩ | exact .ptr rfl (by omega) | exact .osl_of rfl (by omega) rfl | exact .fr rfl | exact LeL.fr rfl | exact .yld rfl (by omega) | exact .eptr rfl (by omega) | exact .osl0 | exact .snil_sl | exact .to_any | exact LeB.fr rfl id id | exact LeB.fr (by simp; done) id id | refine Or.inl ⟨by simp, _, rfl, ?_⟩ | exact Or.inr ⟨by simp, _, _, _, _, rfl⟩ | refine ⟨rfl, rfl, rfl, rfl, rfl, rfl, ?_⟩ | refine ⟨?_, ?_⟩)) (show ∀ b ∈ ([2] : List Nat), ∀ b' ∈ ([2] : List Nat), (renOf [(2, 0)]) b = (renOf [(2, 0)]) b' → b = b' by decide) (show ∀ b, b < 2 → (renOf [(2, 0)]) b = b by decide) (by omega) (by simp))
set_option maxRecDepth 100000 in
set_option maxHeartbeats 4000000 in
theorem insertL_ok (rows : List (List V)) (x : List V) (hf : ∀ r ∈ rows, ∀ v ∈ r, Free v) (hx : ∀ v ∈ x, Free v) (ex : Bool) (hex : rows ≠ [] → ex = true) (i k : Nat) (hl : rows.length ≤ 1000) (hi : i ≤ rows.length) :
    CallV prog 80 [.osl 0 2 0 rows.length, cI i, .osl 1 2 0 1] [(0, some (.arr true ex 65 2 (rows ++ List.replicate k (List.replicate 2 .any)))), (1, some (.arr true true 65 2 [x]))] 2
      (fun v h' nx' => ∃ k', v = .osl 2 2 0 (rows.length + 1) ∧ h' = [(2, some (.arr true false 65 2 (rows.take i ++ [x] ++ rows.drop i ++ List.replicate k' (List.replicate 2 .any))))] ∧ nx' = 3) := by
  refine callV_of (fn := Go.Proofs.Tryz.f80) (body := _) tab_ok mixed rfl rfl (by decide) (by simp [Go.Proofs.Tryz.f80]) ?_
  (conv => whnf)
  refine ⟨rfl, ⟨by simp, by simp; omega⟩, ?_⟩
  (conv => whnf)
  intro _
  (conv => whnf)
  intro _
  (conv => whnf)
  split
  · rename_i he
    have he : i = rows.length := by simp at he; omega
    subst he
    (conv => whnf)
    refine ⟨rfl, by simp, ⟨rfl, rfl, rfl, rfl, by decide⟩, by simp, ⟨by simp [tab, tabOf, nth]; omega, by simp; omega⟩, ?_⟩
    (conv => whnf)
    refine ⟨_, _, _, ?_, 0, rfl, rfl, rfl⟩
    exact (Ends.all id [] (by repeat' (first | exact True.intro | exact id | exact rfl | decide | exact Nat.le_of_ble_eq_true rfl | exact .osl_of rfl (by omega) (by simp) | exact LeB.eq_of (by simp [List.take_of_length_le]) (insRows_free' hf hx) | exact .ptr rfl (by omega) | exact .osl_of rfl (by omega) rfl | exact .fr rfl | exact LeL.fr rfl | exact .yld rfl (by omega) | exact .eptr rfl (by omega) | exact .osl0 | exact .snil_sl | exact .to_any | exact LeB.fr rfl id id | exact LeB.fr (by simp; done) id id | refine Or.inl ⟨by simp, _, rfl, ?_⟩ | exact Or.inr ⟨by simp, _, _, _, _, rfl⟩ | refine ⟨rfl, rfl, rfl, rfl, rfl, rfl, ?_⟩ | refine ⟨?_, ?_⟩)) (fun _ _ _ _ h => h) (fun _ _ => rfl) (by omega) (by simp))
  · rename_i he
    have he : i < rows.length := by simp at he; omega
    obtain rfl := hex (fun e => by subst e; simp at he)
    (conv => whnf)
    refine ⟨⟨rfl, by decide, by omega, rfl⟩, ?_⟩
    (conv => whnf)
    have hw1 : IntKind.i64.wrap ((rows.length : Int) + ((1 : Nat) : Int)) = ((rows.length + 1 : Nat) : Int) := by rw [wrap64] <;> omega
    have hw2 : IntKind.i64.wrap (IntKind.i64.wrap ((rows.length : Int) + ((1 : Nat) : Int)) - (i : Int)) = ((rows.length + 1 - i : Nat) : Int) := by rw [hw1, wrap64] <;> omega
    have hw3 : IntKind.i64.wrap ((i : Int) + ((1 : Nat) : Int)) = ((i + 1 : Nat) : Int) := by rw [wrap64] <;> omega
    split
    · rename_i hc
      have hk0 : k = 0 := by rw [hw1] at hc; simp at hc; omega
      subst hk0
      (conv => whnf)
      refine ⟨rfl, .own, ⟨trivial, by simp, by simp, by simp; omega⟩, ?_⟩
      (conv => whnf)
      refine ⟨⟨rfl, rfl, rfl, by decide, by rw [hw2]; omega⟩, by simp; omega, ⟨by rw [hw2]; simp [tab, tabOf, nth]; omega, by rw [hw2]; simp; omega⟩, true, ⟨rfl, by rw [hw2]; simp; omega⟩, ?_⟩
      (conv => whnf)
      refine ⟨rfl, ⟨by simp, by simp⟩, ?_⟩
      (conv => whnf)
      refine ⟨rfl, by simp, ⟨rfl, rfl, rfl⟩, by rw [hw2]; simp; omega, ?_⟩
      (conv => whnf)
      refine ⟨rfl, ⟨by rw [hw3]; omega, by rw [hw2, hw3]; simp; omega⟩, ?_⟩
      (conv => whnf)
      refine ⟨rfl, ⟨by simp, by simp; omega⟩, ?_⟩
      (conv => whnf)
      refine ⟨rfl, by simp, ⟨rfl, rfl, rfl⟩, by rw [hw2, hw3]; simp; omega, ?_⟩
      (conv => whnf)
      refine ⟨by kernel_rfl, ?_⟩
      (conv => whnf)
      refine ⟨_, _, _, ?_, 0, rfl, rfl, rfl⟩
      refine (Ends.all id [] (by repeat' (first | exact True.intro | exact id | exact rfl | decide | exact Nat.le_of_ble_eq_true rfl | exact .osl_of rfl (by omega) (by rw [hw2]; simp; omega) | exact ⟨id, (fun h => by cases h), rfl, rfl, LeR.out (LeR.of_eq (by simp only [hw2, hw3, Int.toNat_natCast, Nat.zero_add, Nat.sub_zero, List.drop_zero, List.take_succ_cons, List.take_zero, List.replicate_zero, List.append_nil]; exact ins_grow he) (LeR.free (insRows_free' hf hx)))⟩ | exact .ptr rfl (by omega) | exact .osl_of rfl (by omega) rfl | exact .fr rfl | exact LeL.fr rfl | exact .yld rfl (by omega) | exact .eptr rfl (by omega) | exact .osl0 | exact .snil_sl | exact .to_any | exact LeB.fr rfl id id | exact LeB.fr (by simp; done) id id | refine Or.inl ⟨by simp, _, rfl, ?_⟩ | exact Or.inr ⟨by simp, _, _, _, _, rfl⟩ | refine ⟨rfl, rfl, rfl, rfl, rfl, rfl, ?_⟩ | refine ⟨?_, ?_⟩)) (fun _ _ _ _ h => h) (fun _ _ => rfl) (by omega) (by simp))
    · rename_i hc
      have hk0 : 0 < k := by rw [hw1] at hc; simp at hc; omega
      (conv => whnf)
      refine ⟨rfl, .past, rfl, by decide, by omega, ⟨trivial, by rw [hw1]; omega, rfl, by rw [hw1]; simp; omega⟩, ?_⟩
      (conv => whnf)
      refine ⟨rfl, ⟨by rw [hw3]; omega, by rw [hw1, hw3]; simp; omega⟩, ?_⟩
      (conv => whnf)
      refine callV_overlaps tab_ok (t := 30) (r := 4) (e := 65) rfl (by simp [tab, tabOf, nth]) (by decide) rfl rfl rfl rfl rfl rfl rfl (by decide) ?_
      (conv => whnf)
      refine ⟨rfl, ⟨by rw [hw3]; omega, by rw [hw1, hw3]; simp; omega⟩, ?_⟩
      (conv => whnf)
      refine ⟨rfl, ⟨by simp, by rw [hw1]; simp; omega⟩, ?_⟩
      (conv => whnf)
      refine ⟨rfl, by rw [hw1]; simp; omega, ⟨rfl, rfl, rfl⟩, by rw [hw1, hw3]; simp; omega, ?_⟩
      (conv => whnf)
      refine ⟨by kernel_rfl, ?_⟩
      (conv => whnf)
      refine ⟨rfl, ⟨by simp, by rw [hw1]; simp; omega⟩, ?_⟩
      (conv => whnf)
      refine ⟨rfl, by simp, ⟨rfl, rfl, rfl⟩, by rw [hw1]; simp; omega, ?_⟩
      (conv => whnf)
      refine ⟨_, _, _, ?_, k - 1, rfl, rfl, rfl⟩
      refine (Ends.all (renOf [(2, 0)]) [] (by repeat' (first | exact True.intro | exact id | exact rfl | decide | exact Nat.le_of_ble_eq_true rfl | exact .osl_of rfl (by omega) (by rw [hw1]; simp) | exact ⟨id, (fun h => by cases h), rfl, rfl, LeR.out (LeR.of_eq (by simp only [hw1, hw3, Int.toNat_natCast, Nat.zero_add, Nat.sub_zero, List.drop_zero, List.take_succ_cons, List.take_zero, List.replicate_zero, List.append_nil]; exact ins_shift he hk0) (LeR.free (insRows_free' hf hx)))⟩ | exact .ptr rfl (by omega) | exact .osl_of rfl (by omega) rfl | exact .fr rfl | exact LeL.fr rfl | exact .yld rfl (by omega) | exact .eptr rfl (by omega) | exact .osl0 | exact .snil_sl | exact .to_any | exact LeB.fr rfl id id | exact LeB.fr (by simp; done) id id | refine Or.inl ⟨by simp, _, rfl, ?_⟩ | exact Or.inr ⟨by simp, _, _, _, _, rfl⟩ | refine ⟨rfl, rfl, rfl, rfl, rfl, rfl, ?_⟩ | refine ⟨?_, ?_⟩)) (show ∀ b ∈ ([2] : List Nat), ∀ b' ∈ ([2] : List Nat), (renOf [(2, 0)]) b = (renOf [(2, 0)]) b' → b = b' by decide) (show ∀ b, b < 2 → (renOf [(2, 0)]) b = b by decide) (by omega) (by simp))
end Go.Proofs.YtjpfofmkgdjelaaGreat
/- Contract: a tag more, as the program gives it. -/
set_option linter.unusedVariables false
set_option linter.unusedSimpArgs false
namespace Go.Proofs.YtjpfofmkgdjelaaGreat
open Go.RowKit
open Go.Proofs.Tryz (prog)
attribute [local irreducible] CallV RoundV

theorem ins_eq {l : List UInt32} {t : UInt32} {i : Nat} (hi : i ≤ l.length) (lo : ∀ (k : Nat) (hk : k < l.length), k < i → l[k] < t) (hi' : ∀ (k : Nat) (hk : k < l.length), i ≤ k → ¬ l[k] < t) (hno : l.contains t = false) : l.take i ++ [t] ++ l.drop i = insT l t := by
  induction l generalizing i with
  | nil => simp [insT]
  | cons y r ih =>
    have hny : y ≠ t := fun e => by simp [e] at hno
    cases i with
    | zero =>
      have h0 := hi' 0 (by simp) (Nat.le_refl _)
      simp only [List.getElem_cons_zero] at h0
      have hlt : t < y := by
        rw [UInt32.lt_iff_toNat_lt] at *
        have : y.toNat ≠ t.toNat := fun e => hny (UInt32.toNat_inj.1 e)
        omega
      simp [insT, hlt]
    | succ i =>
      have h0 := lo 0 (by simp) (by omega)
      simp only [List.getElem_cons_zero] at h0
      have hnl : ¬ t < y := by rw [UInt32.lt_iff_toNat_lt] at *; omega
      have := ih (i := i) (by simpa using hi) (fun k hk hlt => by have := lo (k + 1) (by simpa using hk) (by omega); simpa using this) (fun k hk hle => by have := hi' (k + 1) (by simpa using hk) (by omega); simpa using this) (by simp at hno ⊢; exact hno.2)
      simp only [insT, if_neg hnl, List.take_succ_cons, List.drop_succ_cons, List.cons_append]
      rw [← this]
theorem few_of_right {a : Attrs} (h : rightA a = true) : a.path.length ≤ 8 ∧ (∀ p ∈ a.path, p.ns.length ≤ 32) ∧ a.tags.length ≤ 16 ∧ rises a.tags = true := by
  have h1 := pathOk_all (right_path h)
  refine ⟨h1.1, fun p hp => (legOk_ns (h1.2 p hp)).2.1, ?_, ?_⟩
  · simp [rightA] at h; have := h.1.2; omega
  · simp [rightA] at h; exact h.2
theorem openW_free (l : List UInt32) (k : Nat) : ∀ x ∈ rowsW l ++ List.replicate k (List.replicate 1 V.any), ∀ v ∈ x, Free v := by
  have := insRows_free' (rows := rowsW l) (x := []) (i := l.length) (k := k) (n := 1) (rowsW_free _) (by simp)
  intro x hx v hv
  rcases List.mem_append.1 hx with h | h
  · exact rowsW_free l x h v hv
  · rw [List.eq_of_mem_replicate h] at hv
    rw [List.eq_of_mem_replicate hv]
    exact .any
theorem less_encA (fr : Bool) {a : Attrs} : Less (encA fr a) (encA false a) := by
  cases fr with
  | false => exact .refl _
  | true => exact .agg2 (.refl _) (.agg2 .legs (.agg2 (.refl _) (.agg2 (.refl _) (.agg2 (.refl _) (.agg2 (.refl _) (.agg2 (.refl _) (.agg2 .encW (.refl _))))))))
set_option maxRecDepth 100000 in
set_option maxHeartbeats 4000000 in
theorem tag_ok (fr : Bool) (a : Attrs) (t : UInt32) : PCon prog 45 [encA fr a, cW t] (tagV true a t) := by
  refine callV_of (fn := Go.Proofs.Tryz.f45) (body := _) tab_ok mixed rfl rfl (by decide) (by simp [Go.Proofs.Tryz.f45]) ?_
  (conv => whnf)
  refine callV_pure (check_ok fr a) ⟨.free (encA_free _ _), trivial⟩ ?_
  cases hr : rightA a with
  | false =>
    rw [tagV_bad hr, checkA_no hr]
    (conv => whnf)
    exact (Ends.pure [] (by first | exact .noA | exact .ptr rfl (by omega) | exact .osl_of rfl (by omega) rfl | exact .fr rfl | exact LeL.fr rfl | exact .yld rfl (by omega) | exact .eptr rfl (by omega) | exact .osl0 | exact .snil_sl | exact .to_any | (refine .tupL ?_; repeat' (first | exact True.intro | exact .noA | exact .ptr rfl (by omega) | exact .osl_of rfl (by omega) rfl | exact .fr rfl | exact LeL.fr rfl | exact .yld rfl (by omega) | exact .eptr rfl (by omega) | exact .osl0 | exact .snil_sl | exact .to_any | refine .aggL ?_ | refine ⟨?_, ?_⟩)) | (refine .aggL ?_; repeat' (first | exact True.intro | exact .noA | exact .ptr rfl (by omega) | exact .osl_of rfl (by omega) rfl | exact .fr rfl | exact LeL.fr rfl | exact .yld rfl (by omega) | exact .eptr rfl (by omega) | exact .osl0 | exact .snil_sl | exact .to_any | refine ⟨?_, ?_⟩))) (by simp))
  | true =>
  rw [checkA_yes hr]
  obtain ⟨hpl, hp, htl, hri⟩ := few_of_right hr
  (conv => whnf)
  refine callV_vown (nx := 2) [] (copyT_ok false a (by omega) (fun p h => by have := hp p h; omega) (by omega)) ⟨.less (.free (encA_free fr a)) (less_encA fr), trivial⟩ (by intro v hv; simp at hv; subst hv; exact encA_cold _) (by simp) (rowsW_ff _) (ownT_mov a) ?_
  (conv => whnf)
  obtain ⟨i, hi, lo, hi', hbs⟩ := bs_ok false a.tags t hri (by omega)
  refine callV_lend [2] hbs ⟨.fresh_off (LeV.freeze_of (by simp) rfl (by simp) (rowsW_free _) (List.take_of_length_le (by simp))), .free .int, trivial⟩ (by intro v hv; simp at hv; rcases hv with rfl | rfl; exact encW_cold _; exact .int) (one_none rfl) (.tup (by intro v hv; simp at hv; rcases hv with rfl | rfl; exact .int; exact .bool)) ?_
  cases hc : a.tags.contains t with
  | true =>
    rw [tagV_in hr hc]
    (conv => whnf)
    intro _
    (conv => whnf)
    (split <;> first | (rename_i hh; exfalso; first | (simp at hh; done) | (simp at hh; omega)) | skip); (conv => whnf)
    exact (Ends.pure [2] (by first | exact LeV.freezeE (by simp) rfl (by simp) (List.take_of_length_le (by simp)) (rowsW_free _) | exact .ptr rfl (by omega) | exact .osl_of rfl (by omega) rfl | exact .fr rfl | exact LeL.fr rfl | exact .yld rfl (by omega) | exact .eptr rfl (by omega) | exact .osl0 | exact .snil_sl | exact .to_any | (refine .tupL ?_; repeat' (first | exact True.intro | exact LeV.freezeE (by simp) rfl (by simp) (List.take_of_length_le (by simp)) (rowsW_free _) | exact .ptr rfl (by omega) | exact .osl_of rfl (by omega) rfl | exact .fr rfl | exact LeL.fr rfl | exact .yld rfl (by omega) | exact .eptr rfl (by omega) | exact .osl0 | exact .snil_sl | exact .to_any | refine .aggL ?_ | refine ⟨?_, ?_⟩)) | (refine .aggL ?_; repeat' (first | exact True.intro | exact LeV.freezeE (by simp) rfl (by simp) (List.take_of_length_le (by simp)) (rowsW_free _) | exact .ptr rfl (by omega) | exact .osl_of rfl (by omega) rfl | exact .fr rfl | exact LeL.fr rfl | exact .yld rfl (by omega) | exact .eptr rfl (by omega) | exact .osl0 | exact .snil_sl | exact .to_any | refine ⟨?_, ?_⟩))) (by intro z hz; simp only [List.mem_cons, List.not_mem_nil, or_false] at hz; rcases hz with rfl <;> exact ne_none_of rfl))
  | false =>
    have fin : ∀ {s : St} {k : Nat} {l : List UInt32}, hget s.h 4 = some (.arr true false 22 1 (rowsW l ++ List.replicate k (List.replicate 1 V.any))) → l = insT a.tags t → a.tags.length < 16 →
        ∃ v1 h' nx', Ends 0 s (.tup [.agg [cB a.origin, encLegs true a.path, cW a.next, .bool a.hasMed, cW a.med, .bool a.hasPref, cW a.pref, .osl 4 1 0 (a.tags.length + 1)], .int .i64 0]) v1 h' nx' ∧ (v1 = tagV true a t ∧ h' = [] ∧ nx' = 0) := fun h4 hl hlt => by
      rw [tagV_new hr hc hlt]
      have hn : a.tags.length + 1 = (rowsW (insT a.tags t)).length := by simp [insT_len]
      refine Ends.pure [4] (.tupL ⟨.aggL ⟨.free .int, .free (encLegs_free _ _), .free .int, .free .bool, .free .int, .free .bool, .free .int, LeV.freezeE (by simp) h4 ?_ ?_ (rowsW_free _), trivial⟩, .free .int, trivial⟩) (by intro z hz; simp at hz; subst hz; rw [h4]; simp)
      · subst hl; rw [hn, List.length_append]; omega
      · subst hl
        rw [hn, List.drop_zero]
        exact List.take_left
    have long : ∀ {s : St} {v : V}, 16 ≤ a.tags.length → LeV s.h s.nx id 0 [] v (encA true noA) → ∃ v1 h' nx', Ends 0 s (.tup [v, .int .i64 3]) v1 h' nx' ∧ (v1 = tagV true a t ∧ h' = [] ∧ nx' = 0) := fun hl hv => by
      rw [tagV_long hr hc hl]
      exact Ends.pure [] (.tupL ⟨hv, .free .int, trivial⟩) (by simp)
    have hrow : ∀ v ∈ [cW t], Free v := by intro v hv; simp at hv; subst hv; exact .int
    have hins : rowsW (insT a.tags t) = (rowsW a.tags).take i ++ [[cW t]] ++ (rowsW a.tags).drop i := by
      rw [← ins_eq hi lo hi' hc]; simp
    (conv => whnf)
    by_cases hne : a.tags = []
    · refine callV_frame (nx := 4) (n0 := 2) (renOf [(0, 2), ( 1, 3)]) (insertW_ok (rowsW a.tags) [cW t] (rowsW_free _) hrow false (fun h => absurd (by simp [hne]) h) i 0 (by simp; omega) (by simp; exact hi)) (by repeat' (first | exact True.intro | exact .osl_of rfl (by omega) (by simp) | exact LeB.arrE (by simp) (rowsW_free a.tags) id id | exact LeB.arrE rfl (rowsW_free [t]) id id | exact .ptr rfl (by omega) | exact .osl_of rfl (by omega) rfl | exact .fr rfl | exact LeL.fr rfl | exact .yld rfl (by omega) | exact .eptr rfl (by omega) | exact .osl0 | exact .snil_sl | exact .to_any | refine ⟨?_, ?_⟩)) (LeH.of (by repeat' (first | exact True.intro | exact id | exact rfl | decide | exact Nat.le_of_ble_eq_true rfl | exact .osl_of rfl (by omega) (by simp) | exact LeB.arrE (by simp) (rowsW_free a.tags) id id | exact LeB.arrE rfl (rowsW_free [t]) id id | exact .ptr rfl (by omega) | exact .osl_of rfl (by omega) rfl | exact .fr rfl | exact LeL.fr rfl | exact .yld rfl (by omega) | exact .eptr rfl (by omega) | exact .osl0 | exact .snil_sl | exact .to_any | exact LeB.fr rfl id id | exact LeB.fr (by simp; done) id id | refine Or.inl ⟨by simp, _, rfl, ?_⟩ | exact Or.inr ⟨by simp, _, _, _, _, rfl⟩ | refine ⟨rfl, rfl, rfl, rfl, rfl, rfl, ?_⟩ | refine ⟨?_, ?_⟩)) (show ∀ b ∈ ([0, 1] : List Nat), ∀ b' ∈ ([0, 1] : List Nat), (renOf [(0, 2), ( 1, 3)]) b = (renOf [(0, 2), ( 1, 3)]) b' → b = b' by decide) (fun _ h => by omega) (by omega) (by simp)) (fun b hb => by match b, hb with | 0, _ => exact ne_none_of rfl | 1, _ => exact ne_none_of rfl) (by decide) ?_
      rintro v h' nx' ⟨k', rfl, rfl, rfl⟩ _
      refine ⟨.osl 4 1 0 (a.tags.length + 1), [(4, some (.arr true false 22 1 (rowsW (insT a.tags t) ++ List.replicate k' (List.replicate 1 .any)))), (0, some _), (1, some _)], by rw [show (rowsW a.tags).length = a.tags.length by simp]; exact Ren.osl rfl, (by repeat' (first | exact True.intro | exact Or.inr ⟨by decide, rfl⟩ | exact Or.inl ⟨2, rfl, by omega, _, rfl, by rw [hins]; exact RenB.arr (insRows_free' (rowsW_free _) hrow)⟩ | refine ⟨?_, ?_⟩)), ?_⟩
      (conv => whnf)
      intro _
      (conv => whnf)
      split
      · rename_i h16
        (conv => whnf)
        exact long (by simp at h16; omega) .noA
      · rename_i h16
        (conv => whnf)
        exact fin rfl rfl (by simp at h16; omega)
    · refine callV_open rfl (by decide) (by simpa using hne) 0 rfl (List.length_pos_iff.2 hne) fun k => ?_
      refine callV_frame (nx := 4) (n0 := 2) (renOf [(0, 2), ( 1, 3)]) (insertW_ok (rowsW a.tags) [cW t] (rowsW_free _) hrow true (fun _ => rfl) i k (by simp; omega) (by simp; exact hi)) (by repeat' (first | exact True.intro | exact .osl_of rfl (by omega) (by simp) | exact LeB.arrE rfl (openW_free a.tags k) id id | exact LeB.arrE rfl (rowsW_free [t]) id id | exact .ptr rfl (by omega) | exact .osl_of rfl (by omega) rfl | exact .fr rfl | exact LeL.fr rfl | exact .yld rfl (by omega) | exact .eptr rfl (by omega) | exact .osl0 | exact .snil_sl | exact .to_any | refine ⟨?_, ?_⟩)) (LeH.of (by repeat' (first | exact True.intro | exact id | exact rfl | decide | exact Nat.le_of_ble_eq_true rfl | exact .osl_of rfl (by omega) (by simp) | exact LeB.arrE rfl (openW_free a.tags k) id id | exact LeB.arrE rfl (rowsW_free [t]) id id | exact .ptr rfl (by omega) | exact .osl_of rfl (by omega) rfl | exact .fr rfl | exact LeL.fr rfl | exact .yld rfl (by omega) | exact .eptr rfl (by omega) | exact .osl0 | exact .snil_sl | exact .to_any | exact LeB.fr rfl id id | exact LeB.fr (by simp; done) id id | refine Or.inl ⟨by simp, _, rfl, ?_⟩ | exact Or.inr ⟨by simp, _, _, _, _, rfl⟩ | refine ⟨rfl, rfl, rfl, rfl, rfl, rfl, ?_⟩ | refine ⟨?_, ?_⟩)) (show ∀ b ∈ ([0, 1] : List Nat), ∀ b' ∈ ([0, 1] : List Nat), (renOf [(0, 2), ( 1, 3)]) b = (renOf [(0, 2), ( 1, 3)]) b' → b = b' by decide) (fun _ h => by omega) (by omega) (by simp)) (fun b hb => by match b, hb with | 0, _ => exact ne_none_of rfl | 1, _ => exact ne_none_of rfl) (by decide) ?_
      rintro v h' nx' ⟨k', rfl, rfl, rfl⟩ _
      refine ⟨.osl 4 1 0 (a.tags.length + 1), [(4, some (.arr true false 22 1 (rowsW (insT a.tags t) ++ List.replicate k' (List.replicate 1 .any)))), (0, some _), (1, some _)], by rw [show (rowsW a.tags).length = a.tags.length by simp]; exact Ren.osl rfl, (by repeat' (first | exact True.intro | exact Or.inr ⟨by decide, rfl⟩ | exact Or.inl ⟨2, rfl, by omega, _, rfl, by rw [hins]; exact RenB.arr (insRows_free' (rowsW_free _) hrow)⟩ | refine ⟨?_, ?_⟩)), ?_⟩
      (conv => whnf)
      intro _
      (conv => whnf)
      split
      · rename_i h16
        (conv => whnf)
        exact long (by simp at h16; omega) .noA
      · rename_i h16
        (conv => whnf)
        exact fin rfl rfl (by simp at h16; omega)
end Go.Proofs.YtjpfofmkgdjelaaGreat
/- Contract: a system laid ahead of a path, as the program does it. -/
set_option linter.unusedVariables false
set_option linter.unusedSimpArgs false
namespace Go.Proofs.YtjpfofmkgdjelaaGreat
open Go.RowKit
open Go.Proofs.Tryz (prog)
attribute [local irreducible] CallV RoundV

theorem openL_free {rows : List (List V)} (hf : ∀ x ∈ rows, ∀ v ∈ x, Free v) (k : Nat) : ∀ x ∈ rows ++ List.replicate k (List.replicate 2 V.any), ∀ v ∈ x, Free v := by
  intro x hx v hv
  rcases List.mem_append.1 hx with h | h
  · exact hf x h v hv
  · rw [List.eq_of_mem_replicate h] at hv
    rw [List.eq_of_mem_replicate hv]
    exact .any
theorem rowsLegs_ff (l : List Leg) : ∀ x ∈ l.map (encLeg true), ∀ v ∈ x, Free v ∧ Fresh v := by
  intro x hx v hv
  obtain ⟨p, _, rfl⟩ := List.mem_map.1 hx
  simp [encLeg] at hv
  rcases hv with rfl | rfl
  · exact ⟨.bool, .bool⟩
  · exact ⟨encW_free _ _, encW_fresh _⟩
theorem pre_cons {l : List Leg} {x : UInt32} {n : Nat} (h : l = [] ∨ ∃ ns r, l = ⟨true, ns⟩ :: r) : prePath l x n = ⟨false, List.replicate n x⟩ :: l := by
  rcases h with rfl | ⟨ns, r, rfl⟩ <;> rfl
set_option maxRecDepth 100000 in
set_option maxHeartbeats 4000000 in
theorem prepend_ok (fr : Bool) (a : Attrs) (x : UInt32) (n : Int) : PCon prog 47 [encA fr a, cW x, .int .i64 n] (prepV true a x n) := by
  have bad : ∀ {s : St} {v : V}, badPre a x n = true → LeV s.h s.nx id 0 [] v (encA true noA) → ∃ v1 h' nx', Ends 0 s (.tup [v, .int .i64 2]) v1 h' nx' ∧ (v1 = prepV true a x n ∧ h' = [] ∧ nx' = 0) := fun hb hv => by
    rw [prepV_bad hb]
    exact Ends.pure [] (.tupL ⟨hv, .free .int, trivial⟩) (by simp)
  refine callV_of (fn := Go.Proofs.Tryz.f47) (body := _) tab_ok mixed rfl rfl (by decide) (by simp [Go.Proofs.Tryz.f47]) ?_
  (conv => whnf)
  refine callV_pure (check_ok fr a) ⟨.free (encA_free _ _), trivial⟩ ?_
  cases hr : rightA a with
  | false =>
    rw [checkA_no hr]
    (conv => whnf)
    exact bad (by simp [badPre, hr]) .noA
  | true =>
  rw [checkA_yes hr]
  obtain ⟨hpl, hp, htl, hri⟩ := few_of_right hr
  (conv => whnf)
  cases hx : ((x.toNat : Int) == 0) with
  | true =>
    (conv => whnf)
    exact bad (by rw [u32_eq] at hx; simp [badPre, hx]) .noA
  | false =>
  (conv => whnf)
  cases hn : decide (n < 0) with
  | true =>
    (conv => whnf)
    exact bad (by simp [badPre, hn]) .noA
  | false =>
  (conv => whnf)
  cases h8 : decide (8 < n) with
  | true =>
    (conv => whnf)
    exact bad (by simp [badPre, h8]) .noA
  | false =>
  have hb : badPre a x n = false := by rw [u32_eq] at hx; simp [badPre, hr, hx, hn, h8]
  (conv => whnf)
  refine callV_vown (nx := 2) [] (copy_ok false a (by omega) (fun p h => by have := hp p h; omega) (by omega)) ⟨.less (.free (encA_free fr a)) (less_encA fr), trivial⟩ (by intro v hv; simp at hv; subst hv; exact encA_cold _) (by simp) (rowsLegs_ff _) (ownA_mov a) ?_
  (conv => whnf)
  cases h0 : (n == 0) with
  | true =>
    have h0 : n = 0 := by simpa using h0
    subst h0
    rw [prepV_zero hb]
    (conv => whnf)
    exact (Ends.pure [2] (by first | exact LeV.freezeE (by simp) rfl (by simp) (List.take_of_length_le (by simp)) (rowsLegs_free _ _) | exact .ptr rfl (by omega) | exact .osl_of rfl (by omega) rfl | exact .fr rfl | exact LeL.fr rfl | exact .yld rfl (by omega) | exact .eptr rfl (by omega) | exact .osl0 | exact .snil_sl | exact .to_any | (refine .tupL ?_; repeat' (first | exact True.intro | exact LeV.freezeE (by simp) rfl (by simp) (List.take_of_length_le (by simp)) (rowsLegs_free _ _) | exact .ptr rfl (by omega) | exact .osl_of rfl (by omega) rfl | exact .fr rfl | exact LeL.fr rfl | exact .yld rfl (by omega) | exact .eptr rfl (by omega) | exact .osl0 | exact .snil_sl | exact .to_any | refine .aggL ?_ | refine ⟨?_, ?_⟩)) | (refine .aggL ?_; repeat' (first | exact True.intro | exact LeV.freezeE (by simp) rfl (by simp) (List.take_of_length_le (by simp)) (rowsLegs_free _ _) | exact .ptr rfl (by omega) | exact .osl_of rfl (by omega) rfl | exact .fr rfl | exact LeL.fr rfl | exact .yld rfl (by omega) | exact .eptr rfl (by omega) | exact .osl0 | exact .snil_sl | exact .to_any | refine ⟨?_, ?_⟩))) (by intro z hz; simp only [List.mem_cons, List.not_mem_nil, or_false] at hz; rcases hz with rfl <;> exact ne_none_of rfl))
  | false =>
  have h0 : n ≠ 0 := by simpa using h0
  obtain ⟨n, rfl⟩ : ∃ k : Nat, n = k := ⟨n.toNat, by have := of_decide_eq_false hn; omega⟩
  have hk : n ≤ 8 := by have := of_decide_eq_false h8; omega
  have hk0 : 0 < n := by omega
  have fin : ∀ {s : St} {vp : V} (Z : List Nat), pathOk (prePath a.path x n) = true → LeV s.h s.nx id 0 Z vp (encLegs true (prePath a.path x n)) → (∀ z ∈ Z, hget s.h z ≠ none) →
      ∃ v1 h' nx', Ends 0 s (.tup [.agg [cB a.origin, vp, cW a.next, .bool a.hasMed, cW a.med, .bool a.hasPref, cW a.pref, encW true a.tags], .int .i64 0]) v1 h' nx' ∧ (v1 = prepV true a x n ∧ h' = [] ∧ nx' = 0) := fun Z hlp hv hz => by
    rw [prepV_ok hb h0 hlp]
    exact Ends.pure Z (.tupL ⟨.aggL ⟨.free .int, hv, .free .int, .free .bool, .free .int, .free .bool, .free .int, .free (encW_free _ _), trivial⟩, .free .int, trivial⟩) hz
  have long : ∀ {s : St} {v : V}, pathOk (prePath a.path x n) = false → LeV s.h s.nx id 0 [] v (encA true noA) → ∃ v1 h' nx', Ends 0 s (.tup [v, .int .i64 3]) v1 h' nx' ∧ (v1 = prepV true a x n ∧ h' = [] ∧ nx' = 0) := fun hlp hv => by
    rw [prepV_long hb h0 hlp]
    exact Ends.pure [] (.tupL ⟨hv, .free .int, trivial⟩) (by simp)
  (conv => whnf)
  intro _
  (conv => whnf)
  obtain ⟨o, l, nn, hm, m, hq, q, tg⟩ := a
  simp only at hpl hp
  have hrow : ∀ v ∈ [V.bool false, V.snil], Free v := by intro v hv; simp at hv; rcases hv with rfl | rfl; exact .bool; exact .snil
  rcases l with _ | ⟨⟨st, ns⟩, r⟩
  · (conv => whnf)
    refine callV_frame (nx := 4) (n0 := 2) (renOf [(0, 2), ( 1, 3)]) (insertL_ok [] [.bool false, .snil] (by simp) hrow false (fun h => absurd rfl h) 0 0 (by simp) (by simp)) (by repeat' (first | exact True.intro | exact .osl_of rfl (by omega) (by simp) | exact LeB.arrE (xs := []) rfl (by simp) id id | exact LeB.arrE rfl (by intro y hy; simp only [List.mem_singleton] at hy; subst hy; exact hrow) id id | exact .ptr rfl (by omega) | exact .osl_of rfl (by omega) rfl | exact .fr rfl | exact LeL.fr rfl | exact .yld rfl (by omega) | exact .eptr rfl (by omega) | exact .osl0 | exact .snil_sl | exact .to_any | refine ⟨?_, ?_⟩)) (LeH.of (by repeat' (first | exact True.intro | exact id | exact rfl | decide | exact Nat.le_of_ble_eq_true rfl | exact .osl_of rfl (by omega) (by simp) | exact LeB.arrE (xs := []) rfl (by simp) id id | exact LeB.arrE rfl (by intro y hy; simp only [List.mem_singleton] at hy; subst hy; exact hrow) id id | exact .ptr rfl (by omega) | exact .osl_of rfl (by omega) rfl | exact .fr rfl | exact LeL.fr rfl | exact .yld rfl (by omega) | exact .eptr rfl (by omega) | exact .osl0 | exact .snil_sl | exact .to_any | exact LeB.fr rfl id id | exact LeB.fr (by simp; done) id id | refine Or.inl ⟨by simp, _, rfl, ?_⟩ | exact Or.inr ⟨by simp, _, _, _, _, rfl⟩ | refine ⟨rfl, rfl, rfl, rfl, rfl, rfl, ?_⟩ | refine ⟨?_, ?_⟩)) (show ∀ b ∈ ([0, 1] : List Nat), ∀ b' ∈ ([0, 1] : List Nat), (renOf [(0, 2), ( 1, 3)]) b = (renOf [(0, 2), ( 1, 3)]) b' → b = b' by decide) (fun _ h => by omega) (by omega) (by simp)) (fun b hb => by match b, hb with | 0, _ => exact ne_none_of rfl | 1, _ => exact ne_none_of rfl) (by decide) ?_
    rintro v h' nx' ⟨k', rfl, rfl, rfl⟩ _
    refine ⟨.osl 4 2 0 1, [(4, some (.arr true false 65 2 ([.bool false, .snil] :: List.replicate k' (List.replicate 2 .any)))), (0, some _), (1, some _)], Ren.osl rfl, (by repeat' (first | exact True.intro | exact Or.inr ⟨by decide, rfl⟩ | exact Or.inl ⟨2, rfl, by omega, _, rfl, RenB.arr (openL_free (rows := [[.bool false, .snil]]) (by intro y hy; simp only [List.mem_singleton] at hy; subst hy; exact hrow) k')⟩ | refine ⟨?_, ?_⟩)), ?_⟩
    (conv => whnf)
    refine ⟨encW true (List.replicate n x), [(5, some (.arr true true 22 1 (rowsW [x])))], fun h nx hrd => ?_, ?_, ?_⟩
    · have h8 := hrd 5 _ (List.mem_singleton.2 rfl)
      refine pureV_lend [5] (repeat_ok false x n hk) ⟨LeV.fresh_off (LeV.freeze_of (by simp) h8 (by simp) (rowsW_free [x]) rfl), .int_of rfl, trivial⟩ ?_ (one_none h8) (encW_fresh _)
      intro v hv
      simp at hv
      rcases hv with rfl | rfl
      · exact encW_cold _
      · exact .int
    · intro b ob hm
      obtain ⟨rfl, rfl⟩ : b = 5 ∧ ob = _ := by simpa using hm
      rfl
    (conv => whnf)
    refine ⟨rfl, ⟨by decide, by simp; try omega⟩, ?_⟩
    (conv => whnf)
    refine ⟨rfl, _, rfl, ?_⟩
    (conv => whnf)
    refine ⟨encW true (List.replicate n x ++ []), [(6, some (.arr true true 31 1 [[encW true (List.replicate n x)], [.snil]]))], fun h nx hrd => ?_, ?_, ?_⟩
    · have h9 := hrd 6 _ (List.mem_singleton.2 rfl)
      refine pureV_lend [6] (concat_ok false (List.replicate n x) [] .snil (by first | exact .inl rfl | exact .inr ⟨rfl, rfl⟩) (by simp; omega) (by first | omega | (simp; done))) ⟨.less (v1 := pairV true (List.replicate n x) .snil) (LeV.freeze_of (by simp) h9 (by simp) (encW_rows_free (vs := [encW true (List.replicate n x), .snil]) (by intro v hv; simp at hv; rcases hv with rfl | rfl; exact encW_free _ _; first | exact encW_free _ _ | exact .snil)) rfl) (.pair (by first | exact .encW | exact Less.refl _)), trivial⟩ ?_ (one_none h9) (encW_fresh _)
      intro v hv
      simp at hv
      subst hv
      exact pairV_cold (by first | exact .inl rfl | exact .inr ⟨rfl, rfl⟩)
    · intro b ob hm
      obtain ⟨rfl, rfl⟩ : b = 6 ∧ ob = _ := by simpa using hm
      rfl
    (conv => whnf)
    refine ⟨rfl, ⟨by decide, by simp; try omega⟩, ?_⟩
    (conv => whnf)
    refine ⟨rfl, _, rfl, ?_⟩
    (conv => whnf)
    refine ⟨by kernel_rfl, ?_⟩
    (conv => whnf)
    have hfz : ∀ {h : Heap} {nx nx' : Nat} {ρ : Nat → Nat} {Z : List Nat} {e2 : Bool}, 4 ∈ Z → hget h 4 = some (.arr true e2 65 2 ([.bool false, encW true (List.replicate n x ++ [])] :: List.replicate k' (List.replicate 2 .any))) → LeV h nx ρ nx' Z (.osl 4 2 0 1) (encLegs true (prePath (⟨o, [], nn, hm, m, hq, q, tg⟩ : Attrs).path x n)) := fun hz hb => LeV.freezeE hz hb (by simp) (by simp [prePath, encLeg]) (rowsLegs_free _ _)
    refine callV_lend [4] (path_ok false (prePath (⟨o, [], nn, hm, m, hq, q, tg⟩ : Attrs).path x n)) ⟨.less (v1 := encLegs true (prePath (⟨o, [], nn, hm, m, hq, q, tg⟩ : Attrs).path x n)) (hfz (by simp) rfl) .legs, trivial⟩ (by intro v hv; simp at hv; subst hv; exact encLegs_cold _) (one_none rfl) .bool ?_
    cases hpo : pathOk (prePath (⟨o, [], nn, hm, m, hq, q, tg⟩ : Attrs).path x n) with
    | false =>
      (conv => whnf)
      exact long hpo .noA
    | true =>
      (conv => whnf)
      exact fin [4] hpo (hfz (by simp) rfl) (by intro z hz; simp only [List.mem_cons, List.not_mem_nil, or_false] at hz; rcases hz with rfl <;> exact ne_none_of rfl)
  · simp only [List.length_cons] at hpl
    have hns := hp ⟨st, ns⟩ (by simp)
    simp only at hns
    cases st with
    | true =>
      (conv => whnf)
      refine ⟨rfl, ⟨by simp, by simp; try omega⟩, ?_⟩
      (conv => whnf)
      refine ⟨rfl, _, rfl, ?_⟩
      (conv => whnf)
      refine callV_open rfl (by decide) (by simp) 0 rfl (by simp) fun k => ?_
      refine callV_frame (nx := 4) (n0 := 2) (renOf [(0, 2), ( 1, 3)]) (insertL_ok (List.map (encLeg true) (⟨true, ns⟩ :: r)) [.bool false, .snil] (rowsLegs_free _ _) hrow true (fun _ => rfl) 0 k (by simp; omega) (by simp)) (by repeat' (first | exact True.intro | exact .osl_of rfl (by omega) (by simp) | exact LeB.arrE rfl (openL_free (rowsLegs_free true (⟨true, ns⟩ :: r)) k) id id | exact LeB.arrE rfl (by intro y hy; simp only [List.mem_singleton] at hy; subst hy; exact hrow) id id | exact .ptr rfl (by omega) | exact .osl_of rfl (by omega) rfl | exact .fr rfl | exact LeL.fr rfl | exact .yld rfl (by omega) | exact .eptr rfl (by omega) | exact .osl0 | exact .snil_sl | exact .to_any | refine ⟨?_, ?_⟩)) (LeH.of (by repeat' (first | exact True.intro | exact id | exact rfl | decide | exact Nat.le_of_ble_eq_true rfl | exact .osl_of rfl (by omega) (by simp) | exact LeB.arrE rfl (openL_free (rowsLegs_free true (⟨true, ns⟩ :: r)) k) id id | exact LeB.arrE rfl (by intro y hy; simp only [List.mem_singleton] at hy; subst hy; exact hrow) id id | exact .ptr rfl (by omega) | exact .osl_of rfl (by omega) rfl | exact .fr rfl | exact LeL.fr rfl | exact .yld rfl (by omega) | exact .eptr rfl (by omega) | exact .osl0 | exact .snil_sl | exact .to_any | exact LeB.fr rfl id id | exact LeB.fr (by simp; done) id id | refine Or.inl ⟨by simp, _, rfl, ?_⟩ | exact Or.inr ⟨by simp, _, _, _, _, rfl⟩ | refine ⟨rfl, rfl, rfl, rfl, rfl, rfl, ?_⟩ | refine ⟨?_, ?_⟩)) (show ∀ b ∈ ([0, 1] : List Nat), ∀ b' ∈ ([0, 1] : List Nat), (renOf [(0, 2), ( 1, 3)]) b = (renOf [(0, 2), ( 1, 3)]) b' → b = b' by decide) (fun _ h => by omega) (by omega) (by simp)) (fun b hb => by match b, hb with | 0, _ => exact ne_none_of rfl | 1, _ => exact ne_none_of rfl) (by decide) ?_
      rintro v h' nx' ⟨k', rfl, rfl, rfl⟩ _
      refine ⟨.osl 4 2 0 (r.length + 1 + 1), [(4, some (.arr true false 65 2 ([.bool false, .snil] :: List.map (encLeg true) (⟨true, ns⟩ :: r) ++ List.replicate k' (List.replicate 2 .any)))), (0, some _), (1, some _)], by rw [List.length_map, List.length_cons]; exact Ren.osl rfl, (by repeat' (first | exact True.intro | exact Or.inr ⟨by decide, rfl⟩ | exact Or.inl ⟨2, rfl, by omega, _, rfl, RenB.arr (openL_free (insRows_free (i := 0) (rowsLegs_free true (⟨true, ns⟩ :: r)) hrow) k')⟩ | refine ⟨?_, ?_⟩)), ?_⟩
      (conv => whnf)
      refine ⟨encW true (List.replicate n x), [(5, some (.arr true true 22 1 (rowsW [x])))], fun h nx hrd => ?_, ?_, ?_⟩
      · have h8 := hrd 5 _ (List.mem_singleton.2 rfl)
        refine pureV_lend [5] (repeat_ok false x n hk) ⟨LeV.fresh_off (LeV.freeze_of (by simp) h8 (by simp) (rowsW_free [x]) rfl), .int_of rfl, trivial⟩ ?_ (one_none h8) (encW_fresh _)
        intro v hv
        simp at hv
        rcases hv with rfl | rfl
        · exact encW_cold _
        · exact .int
      · intro b ob hm
        obtain ⟨rfl, rfl⟩ : b = 5 ∧ ob = _ := by simpa using hm
        rfl
      (conv => whnf)
      refine ⟨rfl, ⟨by decide, by simp; try omega⟩, ?_⟩
      (conv => whnf)
      refine ⟨rfl, _, rfl, ?_⟩
      (conv => whnf)
      refine ⟨encW true (List.replicate n x ++ []), [(6, some (.arr true true 31 1 [[encW true (List.replicate n x)], [.snil]]))], fun h nx hrd => ?_, ?_, ?_⟩
      · have h9 := hrd 6 _ (List.mem_singleton.2 rfl)
        refine pureV_lend [6] (concat_ok false (List.replicate n x) [] .snil (by first | exact .inl rfl | exact .inr ⟨rfl, rfl⟩) (by simp; omega) (by first | omega | (simp; done))) ⟨.less (v1 := pairV true (List.replicate n x) .snil) (LeV.freeze_of (by simp) h9 (by simp) (encW_rows_free (vs := [encW true (List.replicate n x), .snil]) (by intro v hv; simp at hv; rcases hv with rfl | rfl; exact encW_free _ _; first | exact encW_free _ _ | exact .snil)) rfl) (.pair (by first | exact .encW | exact Less.refl _)), trivial⟩ ?_ (one_none h9) (encW_fresh _)
        intro v hv
        simp at hv
        subst hv
        exact pairV_cold (by first | exact .inl rfl | exact .inr ⟨rfl, rfl⟩)
      · intro b ob hm
        obtain ⟨rfl, rfl⟩ : b = 6 ∧ ob = _ := by simpa using hm
        rfl
      (conv => whnf)
      refine ⟨rfl, ⟨by decide, by simp; try omega⟩, ?_⟩
      (conv => whnf)
      refine ⟨rfl, _, rfl, ?_⟩
      (conv => whnf)
      refine ⟨by kernel_rfl, ?_⟩
      (conv => whnf)
      have hfz : ∀ {h : Heap} {nx nx' : Nat} {ρ : Nat → Nat} {Z : List Nat} {e2 : Bool}, 4 ∈ Z → hget h 4 = some (.arr true e2 65 2 ([.bool false, encW true (List.replicate n x ++ [])] :: List.map (encLeg true) (⟨true, ns⟩ :: r) ++ List.replicate k' (List.replicate 2 .any))) → LeV h nx ρ nx' Z (.osl 4 2 0 (r.length + 1 + 1)) (encLegs true (prePath (⟨o, (⟨true, ns⟩ :: r), nn, hm, m, hq, q, tg⟩ : Attrs).path x n)) := fun hz hb => LeV.freezeE hz hb (by simp) (by simp [prePath, encLeg]) (rowsLegs_free _ _)
      refine callV_lend [4] (path_ok false (prePath (⟨o, (⟨true, ns⟩ :: r), nn, hm, m, hq, q, tg⟩ : Attrs).path x n)) ⟨.less (v1 := encLegs true (prePath (⟨o, (⟨true, ns⟩ :: r), nn, hm, m, hq, q, tg⟩ : Attrs).path x n)) (hfz (by simp) rfl) .legs, trivial⟩ (by intro v hv; simp at hv; subst hv; exact encLegs_cold _) (one_none rfl) .bool ?_
      cases hpo : pathOk (prePath (⟨o, (⟨true, ns⟩ :: r), nn, hm, m, hq, q, tg⟩ : Attrs).path x n) with
      | false =>
        (conv => whnf)
        exact long hpo .noA
      | true =>
        (conv => whnf)
        exact fin [4] hpo (hfz (by simp) rfl) (by intro z hz; simp only [List.mem_cons, List.not_mem_nil, or_false] at hz; rcases hz with rfl <;> exact ne_none_of rfl)
    | false =>
      (conv => whnf)
      refine ⟨rfl, ⟨by simp, by simp; try omega⟩, ?_⟩
      (conv => whnf)
      refine ⟨rfl, _, rfl, ?_⟩
      (conv => whnf)
      refine ⟨encW true (List.replicate n x), [(3, some (.arr true true 22 1 (rowsW [x])))], fun h nx hrd => ?_, ?_, ?_⟩
      · have h8 := hrd 3 _ (List.mem_singleton.2 rfl)
        refine pureV_lend [3] (repeat_ok false x n hk) ⟨LeV.fresh_off (LeV.freeze_of (by simp) h8 (by simp) (rowsW_free [x]) rfl), .int_of rfl, trivial⟩ ?_ (one_none h8) (encW_fresh _)
        intro v hv
        simp at hv
        rcases hv with rfl | rfl
        · exact encW_cold _
        · exact .int
      · intro b ob hm
        obtain ⟨rfl, rfl⟩ : b = 3 ∧ ob = _ := by simpa using hm
        rfl
      (conv => whnf)
      refine ⟨rfl, ⟨by decide, by simp; try omega⟩, ?_⟩
      (conv => whnf)
      refine ⟨rfl, _, rfl, ?_⟩
      (conv => whnf)
      refine ⟨encW true (List.replicate n x ++ ns), [(4, some (.arr true true 31 1 [[encW true (List.replicate n x)], [(encW true ns)]]))], fun h nx hrd => ?_, ?_, ?_⟩
      · have h9 := hrd 4 _ (List.mem_singleton.2 rfl)
        refine pureV_lend [4] (concat_ok false (List.replicate n x) ns (encW false ns) (by first | exact .inl rfl | exact .inr ⟨rfl, rfl⟩) (by simp; omega) (by first | omega | (simp; done))) ⟨.less (v1 := pairV true (List.replicate n x) (encW true ns)) (LeV.freeze_of (by simp) h9 (by simp) (encW_rows_free (vs := [encW true (List.replicate n x), (encW true ns)]) (by intro v hv; simp at hv; rcases hv with rfl | rfl; exact encW_free _ _; first | exact encW_free _ _ | exact .snil)) rfl) (.pair (by first | exact .encW | exact Less.refl _)), trivial⟩ ?_ (one_none h9) (encW_fresh _)
        intro v hv
        simp at hv
        subst hv
        exact pairV_cold (by first | exact .inl rfl | exact .inr ⟨rfl, rfl⟩)
      · intro b ob hm
        obtain ⟨rfl, rfl⟩ : b = 4 ∧ ob = _ := by simpa using hm
        rfl
      (conv => whnf)
      refine ⟨rfl, ⟨by decide, by simp; try omega⟩, ?_⟩
      (conv => whnf)
      refine ⟨rfl, _, rfl, ?_⟩
      (conv => whnf)
      refine ⟨by kernel_rfl, ?_⟩
      (conv => whnf)
      have hfz : ∀ {h : Heap} {nx nx' : Nat} {ρ : Nat → Nat} {Z : List Nat} {e2 : Bool}, 2 ∈ Z → hget h 2 = some (.arr true e2 65 2 ([.bool false, encW true (List.replicate n x ++ ns)] :: List.map (encLeg true) r)) → LeV h nx ρ nx' Z (.osl 2 2 0 (r.length + 1)) (encLegs true (prePath (⟨o, (⟨false, ns⟩ :: r), nn, hm, m, hq, q, tg⟩ : Attrs).path x n)) := fun hz hb => LeV.freezeE hz hb (by simp) (by simp [prePath, encLeg]; exact List.take_of_length_le (by simp)) (rowsLegs_free _ _)
      refine callV_lend [2] (path_ok false (prePath (⟨o, (⟨false, ns⟩ :: r), nn, hm, m, hq, q, tg⟩ : Attrs).path x n)) ⟨.less (v1 := encLegs true (prePath (⟨o, (⟨false, ns⟩ :: r), nn, hm, m, hq, q, tg⟩ : Attrs).path x n)) (hfz (by simp) rfl) .legs, trivial⟩ (by intro v hv; simp at hv; subst hv; exact encLegs_cold _) (one_none rfl) .bool ?_
      cases hpo : pathOk (prePath (⟨o, (⟨false, ns⟩ :: r), nn, hm, m, hq, q, tg⟩ : Attrs).path x n) with
      | false =>
        (conv => whnf)
        exact long hpo .noA
      | true =>
        (conv => whnf)
        exact fin [2] hpo (hfz (by simp) rfl) (by intro z hz; simp only [List.mem_cons, List.not_mem_nil, or_false] at hz; rcases hz with rfl <;> exact ne_none_of rfl)
end Go.Proofs.YtjpfofmkgdjelaaGreat
/- The plain law: reading what was written, and writing what was read. -/
set_option linter.unusedVariables false
set_option linter.unusedSimpArgs false
namespace Go.Proofs.YtjpfofmkgdjelaaGreat
open Go.RowKit

theorem wordOf_four (x : UInt32) : wordOf (fourB x) = x := by
  apply UInt32.toNat_inj.1
  have hx := x.toNat_lt
  simp [wordOf, fourB, UInt32.toNat_add, UInt32.toNat_mul, UInt32.toNat_shiftRight, Nat.shiftRight_eq_div_pow]
  omega
theorem four_word {v : List UInt8} (h : v.length = 4) : fourB (wordOf v) = v := by
  obtain ⟨a, b, c, d, rfl⟩ : ∃ a b c d, v = [a, b, c, d] := by
    rcases v with _ | ⟨a, _ | ⟨b, _ | ⟨c, _ | ⟨d, _ | ⟨e, v⟩⟩⟩⟩⟩ <;> simp at h
    exact ⟨a, b, c, d, rfl⟩
  have ha := a.toNat_lt
  have hb := b.toNat_lt
  have hc := c.toNat_lt
  have hd := d.toNat_lt
  simp only [fourB, List.cons.injEq, and_true]
  refine ⟨?_, ?_, ?_, ?_⟩ <;> apply UInt8.toNat_inj.1 <;> simp [wordOf, UInt32.toNat_add, UInt32.toNat_mul, UInt32.toNat_shiftRight, Nat.shiftRight_eq_div_pow] <;> omega
theorem numsK_all (l : List UInt32) (r : List UInt8) : numsK (allB l ++ r) l.length = l := by
  induction l generalizing r with
  | nil => rfl
  | cons x l ih =>
    have h4 : (fourB x).length = 4 := rfl
    have hs : numsK (allB (x :: l) ++ r) (l.length + 1) = wordOf (fourB x) :: numsK (allB l ++ r) l.length := by
      simp only [numsK, List.range_succ_eq_map, List.map_cons, List.map_map]
      have e : allB (x :: l) ++ r = fourB x ++ (allB l ++ r) := by simp [allB]
      rw [e]
      congr 1
      try
        refine List.map_congr_left fun j _ => ?_
        simp only [Function.comp]
        congr 2
    rw [List.length_cons, hs, wordOf_four, ih]
theorem all_nums (v : List UInt8) (m : Nat) (h : v.length = 4 * m) : allB (numsK v m) = v := by
  induction m generalizing v with
  | zero => obtain rfl : v = [] := List.eq_nil_of_length_eq_zero (by omega); rfl
  | succ m ih =>
    have hs : numsK v (m + 1) = wordOf (v.take 4) :: numsK (v.drop 4) m := by
      simp only [numsK, List.range_succ_eq_map, List.map_cons, List.map_map]
      congr 1
      refine List.map_congr_left fun j _ => ?_
      simp only [Function.comp]
      rw [show 4 * (j + 1) = 4 + 4 * j by omega, ← List.drop_drop]
    rw [hs]
    show fourB (wordOf (v.take 4)) ++ allB (numsK (v.drop 4) m) = v
    rw [four_word (by simp; omega), ih (v.drop 4) (by simp; omega), List.take_append_drop]
theorem legs_path : ∀ (l : List Leg), (∀ p ∈ l, p.ns.length ≤ 32) → legs (pathB l) = some (l.map fun p => (kindB p, p.ns))
  | [], _ => by simp [pathB, legs_nil]
  | p :: l, h => by
    have hp := h p (by simp)
    have hn : (UInt8.ofNat p.ns.length).toNat = p.ns.length := by simp [UInt8.toNat_ofNat']; omega
    have e : pathB (p :: l) = kindB p :: UInt8.ofNat p.ns.length :: (allB p.ns ++ pathB l) := by simp [pathB, legB]
    have hl : (allB p.ns ++ pathB l).length = 4 * p.ns.length + (pathB l).length := by rw [List.length_append, allB_len]
    rw [e, legs_go (by rw [hn]; omega), hn, List.drop_left' (by rw [allB_len]), legs_path l (fun q hq => h q (by simp [hq])), numsK_all]
    rfl
theorem legOf_kind (p : Leg) : legOf (kindB p, p.ns) = p := by
  obtain ⟨s, ns⟩ := p
  cases s <;> simp [legOf, kindB]
theorem kindOk_kind (p : Leg) : kindOk (kindB p) = true := by
  obtain ⟨s, ns⟩ := p
  cases s <;> simp [kindOk, kindB]
theorem path_legs : ∀ (n : Nat) (v : List UInt8), v.length = n → ∀ l, legs v = some l → (∀ p ∈ l, kindOk p.1 = true) → (∀ p ∈ l, p.2.length ≤ 255) ∧ pathB (l.map legOf) = v := by
  intro n
  induction n using Nat.strongRecOn with
  | ind n ih =>
    intro v hn l hl hk
    rcases v with _ | ⟨x, _ | ⟨m, r⟩⟩
    · rw [legs_nil] at hl; cases hl; exact ⟨by simp, rfl⟩
    · rw [legs_one] at hl; cases hl
    · by_cases hr : r.length < 4 * m.toNat
      · rw [legs_no hr] at hl; cases hl
      rw [legs_go hr] at hl
      cases hq : legs (r.drop (4 * m.toNat)) with
      | none => rw [hq] at hl; cases hl
      | some l' =>
        rw [hq] at hl
        simp only [Option.map_some, Option.some.injEq] at hl
        subst hl
        obtain ⟨h1, h2⟩ := ih (r.drop (4 * m.toNat)).length (by rw [← hn]; simp; omega) _ rfl l' hq (fun p hp => hk p (by simp [hp]))
        have hm := m.toNat_lt
        have hx := hk (x, numsK r m.toNat) (by simp)
        refine ⟨fun p hp => ?_, ?_⟩
        · rcases List.mem_cons.1 hp with rfl | hp
          · simp [numsK_len]; omega
          · exact h1 p hp
        · show legB (legOf (x, numsK r m.toNat)) ++ pathB (l'.map legOf) = _
          rw [h2]
          have hkb : kindB (legOf (x, numsK r m.toNat)) = x := by
            simp only [kindOk, Bool.or_eq_true, beq_iff_eq] at hx
            rcases hx with rfl | rfl <;> simp [legOf, kindB]
          have e : allB (numsK r m.toNat) = r.take (4 * m.toNat) := by
            have := all_nums (r.take (4 * m.toNat)) m.toNat (by simp; omega)
            rw [numsK_take _ _ _ (Nat.le_refl _)] at this
            exact this
          simp only [legB, hkb]
          have hne : (legOf (x, numsK r m.toNat)).ns = numsK r m.toNat := rfl
          rw [hne, numsK_len, e]
          have hmm : UInt8.ofNat m.toNat = m := by simp
          rw [hmm]
          simp
end Go.Proofs.YtjpfofmkgdjelaaGreat
/- The plain law: one attribute's head. -/
set_option linter.unusedVariables false
set_option linter.unusedSimpArgs false
namespace Go.Proofs.YtjpfofmkgdjelaaGreat
open Go.RowKit

theorem drop2 {α : Type} {a b c : α} {l : List α} : (a :: b :: c :: l).drop 3 = l := rfl
theorem head_attr {f c : UInt8} {v rest : List UInt8} {last : Nat} (hf : flagsI c.toNat = f.toNat) (hf3 : f = 64 ∨ f = 128 ∨ f = 192) (hc : last < c.toNat) (hv : v.length < 65536) :
    attrB f c v ++ rest ≠ [] ∧ headE (attrB f c v ++ rest) last = 0 ∧ byteN (attrB f c v ++ rest) 1 = c.toNat ∧ valB (attrB f c v ++ rest) = v ∧ restB (attrB f c v ++ rest) = rest := by
  have hfl : 0 ≤ flagsI c.toNat := by rw [hf]; omega
  by_cases hl : 255 < v.length
  · have e : attrB f c v ++ rest = (f + 16) :: c :: UInt8.ofNat (v.length / 256) :: UInt8.ofNat (v.length % 256) :: (v ++ rest) := by simp [attrB, hl]
    have h0 : (f + 16).toNat = f.toNat + 16 := by rcases hf3 with rfl | rfl | rfl <;> rfl
    have b0 : byteN (attrB f c v ++ rest) 0 = f.toNat + 16 := by rw [e]; simp [byteN, h0]
    have b1 : byteN (attrB f c v ++ rest) 1 = c.toNat := by rw [e]; simp [byteN]
    have b2 : byteN (attrB f c v ++ rest) 2 = v.length / 256 := by rw [e]; simp [byteN, UInt8.toNat_ofNat']; omega
    have b3 : byteN (attrB f c v ++ rest) 3 = v.length % 256 := by rw [e]; simp [byteN, UInt8.toNat_ofNat']
    have lg : lngB (attrB f c v ++ rest) = true := by rw [lngB, b0]; rcases hf3 with rfl | rfl | rfl <;> rfl
    have nb : numB (attrB f c v ++ rest) = v.length := by simp only [numB, lg, if_true, b2, b3]; omega
    have at' : atB (attrB f c v ++ rest) = 4 := by simp [atB, lg]
    have len : (attrB f c v ++ rest).length = 4 + v.length + rest.length := by rw [e]; simp; omega
    refine ⟨by rw [e]; simp, ?_, b1, ?_, ?_⟩
    · unfold headE
      rw [if_neg (by omega), if_neg (by rw [len]; omega), if_neg (by rw [at', nb]; omega), if_neg (by rw [b1]; omega), if_neg, if_neg (by rw [b1]; omega)]
      rw [b0, b1, lg, nb, hf]
      simp [hl]
    · rw [valB, at', nb, e]; simp
    · rw [restB, at', nb, e, ← List.drop_drop]; simp
  · have e : attrB f c v ++ rest = f :: c :: UInt8.ofNat v.length :: (v ++ rest) := by simp [attrB, hl]
    have b0 : byteN (attrB f c v ++ rest) 0 = f.toNat := by rw [e]; simp [byteN]
    have b1 : byteN (attrB f c v ++ rest) 1 = c.toNat := by rw [e]; simp [byteN]
    have b2 : byteN (attrB f c v ++ rest) 2 = v.length := by rw [e]; simp [byteN, UInt8.toNat_ofNat']; omega
    have lg : lngB (attrB f c v ++ rest) = false := by rw [lngB, b0]; rcases hf3 with rfl | rfl | rfl <;> rfl
    have nb : numB (attrB f c v ++ rest) = v.length := by simp [numB, lg, b2]
    have at' : atB (attrB f c v ++ rest) = 3 := by simp [atB, lg]
    have len : (attrB f c v ++ rest).length = 3 + v.length + rest.length := by rw [e]; simp; omega
    refine ⟨by rw [e]; simp, ?_, b1, ?_, ?_⟩
    · unfold headE
      rw [if_neg (by omega), if_neg (by rw [lg]; simp), if_neg (by rw [at', nb]; omega), if_neg (by rw [b1]; omega), if_neg, if_neg (by rw [b1]; omega)]
      rw [b0, b1, lg, nb, hf]
      simp [hl]
    · rw [valB, at', nb, e]; simp
    · rw [restB, at', nb, e, ← List.drop_drop]; simp
theorem head_inv {b : List UInt8} {last : Nat} (h : headE b last = 0) : ∃ f c : UInt8, flagsI c.toNat = f.toNat ∧ b = attrB f c (valB b) ++ restB b ∧ last < c.toNat ∧ byteN b 1 = c.toNat ∧ (valB b).length < 65536 := by
  unfold headE at h
  split at h
  · cases h
  split at h
  · cases h
  split at h
  · cases h
  split at h
  · cases h
  rename_i h1 h2 h3 h4
  by_cases h5 : ((byteN b 0 : Int) - (if lngB b then 16 else 0) ≠ flagsI (byteN b 1) ∨ lngB b ≠ decide (255 < numB b))
  · rw [if_pos h5] at h; cases h
  rw [if_neg h5] at h
  split at h
  · cases h
  rename_i h6
  obtain ⟨x, c, n, r, rfl⟩ : ∃ x c n r, b = x :: c :: n :: r := by
    rcases b with _ | ⟨x, _ | ⟨c, _ | ⟨n, r⟩⟩⟩ <;> simp at h1
    exact ⟨x, c, n, r, rfl⟩
  have b0 : byteN (x :: c :: n :: r) 0 = x.toNat := by simp [byteN]
  have b1 : byteN (x :: c :: n :: r) 1 = c.toNat := by simp [byteN]
  have b2 : byteN (x :: c :: n :: r) 2 = n.toNat := by simp [byteN]
  rw [b0, b1] at h5
  rw [b1] at h6 h4
  have hn := n.toNat_lt
  have hx := x.toNat_lt
  cases lg : lngB (x :: c :: n :: r) with
  | false =>
    have nb : numB (x :: c :: n :: r) = n.toNat := by simp [numB, lg, b2]
    have at' : atB (x :: c :: n :: r) = 3 := by simp [atB, lg]
    rw [at', nb] at h3
    have hlen : n.toNat ≤ r.length := by simp at h3; omega
    have hv : valB (x :: c :: n :: r) = r.take n.toNat := by rw [valB, at', nb]; rfl
    have hr : restB (x :: c :: n :: r) = r.drop n.toNat := by rw [restB, at', nb, ← List.drop_drop]; rfl
    rw [lg, nb] at h5
    refine ⟨x, c, ?_, ?_, by omega, b1, ?_⟩
    · simp at h5; omega
    · rw [hv, hr, attrB, if_neg (by simp; omega)]
      simp [Nat.min_eq_left hlen]
    · rw [hv]; simp; omega
  | true =>
    obtain ⟨m, r, rfl⟩ : ∃ m r', r = m :: r' := by
      rcases r with _ | ⟨m, r⟩
      · simp [lg] at h2
      · exact ⟨m, r, rfl⟩
    have hm := m.toNat_lt
    have b3 : byteN (x :: c :: n :: m :: r) 3 = m.toNat := by simp [byteN]
    have nb : numB (x :: c :: n :: m :: r) = 256 * n.toNat + m.toNat := by simp [numB, lg, b2, b3]
    have at' : atB (x :: c :: n :: m :: r) = 4 := by simp [atB, lg]
    rw [at', nb] at h3
    have hlen : 256 * n.toNat + m.toNat ≤ r.length := by simp at h3; omega
    have hv : valB (x :: c :: n :: m :: r) = r.take (256 * n.toNat + m.toNat) := by rw [valB, at', nb]; rfl
    have hr : restB (x :: c :: n :: m :: r) = r.drop (256 * n.toNat + m.toNat) := by rw [restB, at', nb, ← List.drop_drop]; rfl
    rw [lg, nb] at h5
    have hx16 : 16 ≤ x.toNat := by
      rw [lngB, b0] at lg
      simp at lg
      omega
    have hbig : 255 < 256 * n.toNat + m.toNat := by simp at h5; omega
    have hx' : (x - 16).toNat = x.toNat - 16 := by rw [UInt8.toNat_sub_of_le]; rfl; rw [UInt8.le_iff_toNat_le]; exact hx16
    refine ⟨x - 16, c, ?_, ?_, by omega, b1, ?_⟩
    · rw [hx']; simp at h5; omega
    · rw [hv, hr, attrB, if_pos (by simp; omega)]
      have hl2 : (r.take (256 * n.toNat + m.toNat)).length = 256 * n.toNat + m.toNat := by simp; omega
      rw [hl2, show (256 * n.toNat + m.toNat) / 256 = n.toNat by omega, show (256 * n.toNat + m.toNat) % 256 = m.toNat by omega]
      simp
    · rw [hv]; simp; omega
end Go.Proofs.YtjpfofmkgdjelaaGreat
/- The plain law: there and back. -/
set_option linter.unusedVariables false
set_option linter.unusedSimpArgs false
namespace Go.Proofs.YtjpfofmkgdjelaaGreat
open Go.RowKit

theorem parse_step {f c : UInt8} {v rest : List UInt8} {last seen : Nat} {a : Attrs} (hf : flagsI c.toNat = f.toNat) (hf3 : f = 64 ∨ f = 128 ∨ f = 192) (hc : last < c.toNat) (hv : v.length < 65536) (he : lowE c.toNat v = 0) :
    parseA (attrB f c v ++ rest) last seen a = parseA rest c.toNat (if c.toNat ≤ 3 then seen + 1 else seen) (lowA c.toNat a v) := by
  obtain ⟨h1, h2, h3, h4, h5⟩ := head_attr (rest := rest) hf hf3 hc hv
  rw [parseA_go h1 h2 (by rw [h3, h4]; exact he), h3, h4, h5]
theorem rightA_parts {a : Attrs} (h : rightA a = true) : a.origin.toNat ≤ 2 ∧ pathOk a.path = true ∧ a.next ≠ 0 ∧ (a.hasMed = false → a.med = 0) ∧ (a.hasPref = false → a.pref = 0) ∧ a.tags.length ≤ 16 ∧ rises a.tags = true := by
  simp only [rightA, Bool.and_eq_true, decide_eq_true_eq, Bool.or_eq_true, bne_iff_ne, ne_eq, beq_iff_eq] at h
  obtain ⟨⟨⟨⟨⟨⟨h1, h2⟩, h3⟩, h4⟩, h5⟩, h6⟩, h7⟩ := h
  refine ⟨by omega, h2, h3, fun e => ?_, fun e => ?_, by omega, h7⟩
  · rcases h4 with h | h
    · rw [e] at h; cases h
    · exact h
  · rcases h5 with h | h
    · rw [e] at h; cases h
    · exact h
theorem rightA_of {a : Attrs} (h1 : a.origin.toNat ≤ 2) (h2 : pathOk a.path = true) (h3 : a.next ≠ 0) (h4 : a.hasMed = false → a.med = 0) (h5 : a.hasPref = false → a.pref = 0) (h6 : a.tags.length ≤ 16) (h7 : rises a.tags = true) : rightA a = true := by
  simp only [rightA, Bool.and_eq_true, decide_eq_true_eq, Bool.or_eq_true, bne_iff_ne, ne_eq, beq_iff_eq]
  refine ⟨⟨⟨⟨⟨⟨by omega, h2⟩, h3⟩, ?_⟩, ?_⟩, by omega⟩, h7⟩
  · cases e : a.hasMed with
    | true => exact .inl rfl
    | false => exact .inr (h4 e)
  · cases e : a.hasPref with
    | true => exact .inl rfl
    | false => exact .inr (h5 e)
theorem pathE_ok {l : List Leg} (h : pathOk l = true) : pathE (pathB l) = 0 ∧ pathA (pathB l) = l := by
  have hall := (pathOk_all h).2
  have hl := legs_path l (fun p hp => (legOk_ns (hall p hp)).2.1)
  have hm : (l.map fun p => (kindB p, p.ns)).map legOf = l := by
    rw [List.map_map]
    conv => rhs; rw [← List.map_id l]
    exact List.map_congr_left fun p _ => legOf_kind p
  constructor
  · rw [pathE, hl]
    simp only
    rw [hm, h]
    have : (l.map fun p => (kindB p, p.ns)).all (fun p => kindOk p.1) = true := by
      rw [List.all_eq_true]
      intro p hp
      obtain ⟨q, _, rfl⟩ := List.mem_map.1 hp
      exact kindOk_kind q
    rw [this]; rfl
  · rw [pathA, hl]; exact hm
theorem pathB_short {l : List Leg} (h : pathOk l = true) : (pathB l).length < 65536 := by
  have h1 := pathOk_all h
  have := pathB_len (l := l) (fun p hp => by have := (legOk_ns (h1.2 p hp)).2.1; omega)
  omega
theorem low8 {v : List UInt8} (h1 : v.length ≠ 0) (h2 : v.length % 4 = 0) (h3 : v.length / 4 ≤ 16) (h4 : rises (numsK v (v.length / 4)) = true) : lowE 8 v = 0 := by
  have h5 : ¬ (16 < v.length / 4 ∨ rises (numsK v (v.length / 4)) = false) := by rw [h4]; simp; omega
  have h6 : ¬ (v.length = 0 ∨ v.length % 4 ≠ 0) := by omega
  simp only [lowE]
  rw [if_neg (by decide), if_neg (by decide), if_neg (by decide), if_neg (by decide), if_neg (by decide), if_neg h6, if_neg h5]
theorem low3 {v : List UInt8} (h1 : v.length = 4) (h2 : wordOf v ≠ 0) : lowE 3 v = 0 := by simp [lowE, h1, h2]
theorem tagsE {l : List UInt32} (h0 : l ≠ []) (h16 : l.length ≤ 16) (hr : rises l = true) : lowE 8 (allB l) = 0 ∧ numsK (allB l) ((allB l).length / 4) = l := by
  have hl := allB_len l
  have hn : numsK (allB l) l.length = l := by have := numsK_all l []; rwa [List.append_nil] at this
  have hp := List.length_pos_iff.2 h0
  have hd : (allB l).length / 4 = l.length := by omega
  constructor
  · refine low8 (by omega) (by omega) (by omega) ?_
    rw [hd, hn]; exact hr
  · rw [hd, hn]
/-- WHAT WAS WRITTEN IS READ. -/
theorem raw_parse {a : Attrs} (h : rightA a = true) : parseA (rawA a) 0 0 noA = (a, 0) := by
  obtain ⟨h1, h2, h3, h4, h5, h6, h7⟩ := rightA_parts h
  obtain ⟨p1, p2⟩ := pathE_ok h2
  simp only [rawA, rawO, List.append_assoc]
  rw [parse_step (f := 64) (c := 1) rfl (by decide) (by decide) (by simp) (by simp [lowE]; omega)]
  rw [parse_step (f := 64) (c := 2) rfl (by decide) (by decide) (pathB_short h2) (by simpa [lowE] using p1)]
  rw [parse_step (f := 64) (c := 3) rfl (by decide) (by decide) (by simp [fourB]) (low3 rfl (by rw [wordOf_four]; exact h3))]
  obtain ⟨o, l, nn, hm, m, hq, q, tg⟩ := a
  simp only at *
  have e1 : lowA (UInt8.toNat 3) (lowA (UInt8.toNat 2) (lowA (UInt8.toNat 1) noA [o]) (pathB l)) (fourB nn) = ⟨o, l, nn, false, 0, false, 0, []⟩ := by
    simp [lowA, noA, p2, wordOf_four]
  rw [e1]
  have s1 : (if UInt8.toNat 3 ≤ 3 then (if UInt8.toNat 2 ≤ 3 then (if UInt8.toNat 1 ≤ 3 then 0 + 1 else 0) + 1 else if UInt8.toNat 1 ≤ 3 then 0 + 1 else 0) + 1 else if UInt8.toNat 2 ≤ 3 then (if UInt8.toNat 1 ≤ 3 then 0 + 1 else 0) + 1 else if UInt8.toNat 1 ≤ 3 then 0 + 1 else 0) = 3 := rfl
  rw [s1]
  have last : ∀ k, k < 8 → parseA (if 0 < tg.length then attrB 192 8 (allB tg) else []) k 3 ⟨o, l, nn, hm, m, hq, q, []⟩ = (⟨o, l, nn, hm, m, hq, q, tg⟩, 0) := by
    intro k hk
    rcases tg with _ | ⟨t, tg⟩
    · simp [parseA_nil]
    · obtain ⟨t1, t2⟩ := tagsE (l := t :: tg) (by simp) h6 h7
      have := parse_step (f := 192) (c := 8) (v := allB (t :: tg)) (rest := []) (last := k) (seen := 3) (a := ⟨o, l, nn, hm, m, hq, q, []⟩) rfl (by decide) (by simpa using hk) (by rw [allB_len]; omega) t1
      rw [List.append_nil] at this
      rw [if_pos (by simp), this, parseA_nil]
      simp [lowA, t2]
  have pref : ∀ k, k < 5 → parseA ((if hq then attrB 64 5 (fourB q) else []) ++ (if 0 < tg.length then attrB 192 8 (allB tg) else [])) k 3 ⟨o, l, nn, hm, m, false, 0, []⟩ = (⟨o, l, nn, hm, m, hq, q, tg⟩, 0) := by
    intro k hk
    cases hq with
    | false =>
      obtain rfl := h5 rfl
      simpa using last k (by omega)
    | true =>
      rw [if_pos rfl, parse_step (f := 64) (c := 5) rfl (by decide) (by simpa using hk) (by simp [fourB]) (by simp [lowE, fourB])]
      have := last 5 (by omega)
      simpa [lowA, wordOf_four] using this
  cases hm with
  | false =>
    obtain rfl := h4 rfl
    simpa using pref 3 (by omega)
  | true =>
    rw [if_pos rfl, parse_step (f := 128) (c := 4) rfl (by decide) (by decide) (by simp [fourB]) (by simp [lowE, fourB])]
    have := pref 4 (by omega)
    simpa [lowA, wordOf_four] using this
end Go.Proofs.YtjpfofmkgdjelaaGreat
/- The plain law: what was read is written as it was. -/
set_option linter.unusedVariables false
set_option linter.unusedSimpArgs false
namespace Go.Proofs.YtjpfofmkgdjelaaGreat
open Go.RowKit

/-- What is written of the attributes behind a code. -/
def tailB (x : Attrs) (last : Nat) (p1 p2 p3 : Bool) : List UInt8 :=
  (if p1 then attrB 64 1 [x.origin] else []) ++ ((if p2 then attrB 64 2 (pathB x.path) else []) ++ ((if p3 then attrB 64 3 (fourB x.next) else []) ++
    ((if decide (last < 4) && x.hasMed then attrB 128 4 (fourB x.med) else []) ++ ((if decide (last < 5) && x.hasPref then attrB 64 5 (fourB x.pref) else []) ++ (if decide (last < 8) && decide (0 < x.tags.length) then attrB 192 8 (allB x.tags) else [])))))
structure Inv (a : Attrs) (last : Nat) : Prop where
  med : last < 4 → a.hasMed = false ∧ a.med = 0
  pref : last < 5 → a.hasPref = false ∧ a.pref = 0
  tags : last < 8 → a.tags = []
structure Rd (b : List UInt8) (last seen : Nat) (a x : Attrs) (p1 p2 p3 : Bool) : Prop where
  l1 : p1 = true → last < 1
  l2 : p2 = true → last < 2
  l3 : p3 = true → last < 3
  n : seen + p1.toNat + p2.toNat + p3.toNat = 3
  eq : b = tailB x last p1 p2 p3
  o : p1 = false → x.origin = a.origin
  p : p2 = false → x.path = a.path
  nx : p3 = false → x.next = a.next
  med : 4 ≤ last → x.hasMed = a.hasMed ∧ x.med = a.med
  pref : 5 ≤ last → x.hasPref = a.hasPref ∧ x.pref = a.pref
  tags : 8 ≤ last → x.tags = a.tags
  vo : p1 = true → x.origin.toNat ≤ 2
  vp : p2 = true → pathOk x.path = true
  vn : p3 = true → x.next ≠ 0
  vm : last < 4 → x.hasMed = false → x.med = 0
  vq : last < 5 → x.hasPref = false → x.pref = 0
  vt : last < 8 → x.tags.length ≤ 16 ∧ rises x.tags = true
theorem low1_inv {v : List UInt8} (h : lowE 1 v = 0) : ∃ o, v = [o] ∧ o.toNat ≤ 2 := by
  rcases v with _ | ⟨o, _ | ⟨q, v⟩⟩
  · simp [lowE] at h
  · refine ⟨o, rfl, ?_⟩
    simp [lowE] at h
    omega
  · simp [lowE] at h
theorem low2_inv {v : List UInt8} (h : lowE 2 v = 0) : pathOk (pathA v) = true ∧ pathB (pathA v) = v := by
  simp only [lowE] at h
  rw [if_neg (by decide), if_pos trivial, pathE] at h
  rw [pathA]
  cases hl : legs v with
  | none => rw [hl] at h; cases h
  | some l =>
    rw [hl] at h
    simp only at h ⊢
    split at h
    · rename_i hh
      rw [Bool.and_eq_true] at hh
      exact ⟨hh.2, (path_legs _ v rfl l hl (List.all_eq_true.1 hh.1)).2⟩
    · cases h
theorem low3_inv {v : List UInt8} (h : lowE 3 v = 0) : v.length = 4 ∧ wordOf v ≠ 0 := by
  simp only [lowE] at h
  rw [if_neg (by decide), if_neg (by decide), if_pos trivial] at h
  split at h
  · cases h
  split at h
  · cases h
  rename_i h1 h2
  exact ⟨by omega, h2⟩
theorem low45_inv {c : Nat} (hc : c = 4 ∨ c = 5) {v : List UInt8} (h : lowE c v = 0) : v.length = 4 := by
  rcases hc with rfl | rfl
  · simp only [lowE] at h
    rw [if_neg (by decide), if_neg (by decide), if_neg (by decide), if_pos trivial] at h
    split at h
    · cases h
    · omega
  · simp only [lowE] at h
    rw [if_neg (by decide), if_neg (by decide), if_neg (by decide), if_neg (by decide), if_pos trivial] at h
    split at h
    · cases h
    · omega
theorem low8_inv {v : List UInt8} (h : lowE 8 v = 0) : v.length ≠ 0 ∧ v.length % 4 = 0 ∧ v.length / 4 ≤ 16 ∧ rises (numsK v (v.length / 4)) = true := by
  simp only [lowE] at h
  rw [if_neg (by decide), if_neg (by decide), if_neg (by decide), if_neg (by decide), if_neg (by decide)] at h
  split at h
  · cases h
  split at h
  · cases h
  rename_i h1 h2
  refine ⟨by omega, by omega, by omega, ?_⟩
  cases hr : rises (numsK v (v.length / 4)) with
  | true => rfl
  | false => exact absurd (.inr hr) h2
theorem flags_codes {c f : UInt8} (h : flagsI c.toNat = f.toNat) : (c = 1 ∧ f = 64) ∨ (c = 2 ∧ f = 64) ∨ (c = 3 ∧ f = 64) ∨ (c = 4 ∧ f = 128) ∨ (c = 5 ∧ f = 64) ∨ (c = 8 ∧ f = 192) := by
  have key : ∀ (k : Nat) (g : Nat), k < 256 → g < 256 → c.toNat = k → f.toNat = g → c = UInt8.ofNat k ∧ f = UInt8.ofNat g := fun k g hk hg h1 h2 => ⟨by rw [← h1]; simp, by rw [← h2]; simp⟩
  have hf := f.toNat_lt
  unfold flagsI at h
  split at h
  · rename_i e; exact .inl (key 1 64 (by omega) (by omega) e (by omega))
  split at h
  · rename_i e; exact .inr (.inl (key 2 64 (by omega) (by omega) e (by omega)))
  split at h
  · rename_i e; exact .inr (.inr (.inl (key 3 64 (by omega) (by omega) e (by omega))))
  split at h
  · rename_i e; exact .inr (.inr (.inr (.inr (.inl (key 5 64 (by omega) (by omega) e (by omega))))))
  split at h
  · rename_i e; exact .inr (.inr (.inr (.inl (key 4 128 (by omega) (by omega) e (by omega)))))
  split at h
  · rename_i e; exact .inr (.inr (.inr (.inr (.inr (key 8 192 (by omega) (by omega) e (by omega))))))
  · omega
theorem parse_rd : ∀ (n : Nat) (b : List UInt8), b.length = n → ∀ (last seen : Nat) (a x : Attrs), Inv a last → parseA b last seen a = (x, 0) → ∃ p1 p2 p3, Rd b last seen a x p1 p2 p3 := by
  intro n
  induction n using Nat.strongRecOn with
  | ind n ih =>
    intro b hn last seen a x hi hp
    by_cases hb : b = []
    · subst hb
      rw [parseA_nil] at hp
      split at hp
      · rename_i h3
        obtain rfl : a = x := by cases hp; rfl
        refine ⟨false, false, false, ⟨by simp, by simp, by simp, by simpa using h3, ?_, fun _ => rfl, fun _ => rfl, fun _ => rfl, fun _ => ⟨rfl, rfl⟩, fun _ => ⟨rfl, rfl⟩, fun _ => rfl, by simp, by simp, by simp, fun h _ => (hi.med h).2, fun h _ => (hi.pref h).2, fun h => by rw [hi.tags h]; simp [rises]⟩⟩
        have e1 : (decide (last < 4) && a.hasMed) = false := by
          by_cases h : last < 4
          · simp [(hi.med h).1]
          · simp [h]
        have e2 : (decide (last < 5) && a.hasPref) = false := by
          by_cases h : last < 5
          · simp [(hi.pref h).1]
          · simp [h]
        have e3 : (decide (last < 8) && decide (0 < a.tags.length)) = false := by
          by_cases h : last < 8
          · simp [hi.tags h]
          · simp [h]
        simp only [tailB, e1, e2, e3]; rfl
      · cases hp
    by_cases hh : headE b last = 0
    case neg =>
      rw [parseA_head hb hh] at hp
      exact absurd (congrArg Prod.snd hp) hh
    obtain ⟨f, c, hf, hbe, hlc, hb1, hvl⟩ := head_inv hh
    by_cases hw : lowE (byteN b 1) (valB b) = 0
    case neg =>
      rw [parseA_low hb hh hw] at hp
      exact absurd (congrArg Prod.snd hp) hw
    rw [parseA_go hb hh hw, hb1] at hp
    rw [hb1] at hw
    have hlt := restB_lt hb
    rw [hn] at hlt
    generalize hv : valB b = v at *
    generalize hr : restB b = r at *
    rcases flags_codes hf with ⟨rfl, rfl⟩ | ⟨rfl, rfl⟩ | ⟨rfl, rfl⟩ | ⟨rfl, rfl⟩ | ⟨rfl, rfl⟩ | ⟨rfl, rfl⟩
    · obtain ⟨o, rfl, ho⟩ := low1_inv hw
      have hlast : last = 0 := by have : (1 : UInt8).toNat = 1 := rfl; omega
      subst hlast
      obtain ⟨p1, p2, p3, R⟩ := ih _ hlt r rfl 1 (seen + 1) (lowA 1 a [o]) x ⟨fun _ => hi.med (by omega), fun _ => hi.pref (by omega), fun _ => hi.tags (by omega)⟩ hp
      have hp1 : p1 = false := by cases p1 with | false => rfl | true => have := R.l1 rfl; omega
      subst hp1
      have hxo : x.origin = o := R.o rfl
      refine ⟨true, p2, p3, ⟨fun _ => by omega, fun _ => by omega, fun _ => by omega, by have := R.n; simp at this ⊢; omega, ?_, by simp, R.p, R.nx, by simp, by simp, by simp, fun _ => by rw [hxo]; exact ho, R.vp, R.vn, fun _ => R.vm (by omega), fun _ => R.vq (by omega), fun _ => R.vt (by omega)⟩⟩
      rw [hbe, R.eq]
      simp [tailB, hxo]
    · obtain ⟨ho, hpb⟩ := low2_inv hw
      have hlast : last < 2 := hlc
      obtain ⟨p1, p2, p3, R⟩ := ih _ hlt r rfl 2 (seen + 1) (lowA 2 a v) x ⟨fun _ => hi.med (by omega), fun _ => hi.pref (by omega), fun _ => hi.tags (by omega)⟩ hp
      have hp1 : p1 = false := by cases p1 with | false => rfl | true => have := R.l1 rfl; omega
      have hp2 : p2 = false := by cases p2 with | false => rfl | true => have := R.l2 rfl; omega
      subst hp1 hp2
      have hxo : x.path = pathA v := R.p rfl
      refine ⟨false, true, p3, ⟨by simp, fun _ => hlast, fun h => by omega, by have := R.n; simp at this ⊢; omega, ?_, fun _ => R.o rfl, by simp, R.nx, fun h => by omega, fun h => by omega, fun h => by omega, by simp, fun _ => by rw [hxo]; exact ho, R.vn, fun _ => R.vm (by omega), fun _ => R.vq (by omega), fun _ => R.vt (by omega)⟩⟩
      rw [hbe, R.eq]
      simp [tailB, hxo, hpb, show last < 4 by omega, show last < 5 by omega, show last < 8 by omega]
    · obtain ⟨h4, ho⟩ := low3_inv hw
      have hlast : last < 3 := hlc
      obtain ⟨p1, p2, p3, R⟩ := ih _ hlt r rfl 3 (seen + 1) (lowA 3 a v) x ⟨fun _ => hi.med (by omega), fun _ => hi.pref (by omega), fun _ => hi.tags (by omega)⟩ hp
      have hp1 : p1 = false := by cases p1 with | false => rfl | true => have := R.l1 rfl; omega
      have hp2 : p2 = false := by cases p2 with | false => rfl | true => have := R.l2 rfl; omega
      have hp3 : p3 = false := by cases p3 with | false => rfl | true => have := R.l3 rfl; omega
      subst hp1 hp2 hp3
      have hxo : x.next = wordOf v := R.nx rfl
      refine ⟨false, false, true, ⟨by simp, by simp, fun _ => hlast, by have := R.n; simp at this ⊢; omega, ?_, fun _ => R.o rfl, fun _ => R.p rfl, by simp, fun h => by omega, fun h => by omega, fun h => by omega, by simp, by simp, fun _ => by rw [hxo]; exact ho, fun _ => R.vm (by omega), fun _ => R.vq (by omega), fun _ => R.vt (by omega)⟩⟩
      rw [hbe, R.eq]
      simp [tailB, hxo, four_word h4, show last < 4 by omega, show last < 5 by omega, show last < 8 by omega]
    · have h4 := low45_inv (.inl rfl) hw
      have hlast : last < 4 := hlc
      obtain ⟨p1, p2, p3, R⟩ := ih _ hlt r rfl 4 seen (lowA 4 a v) x ⟨fun h => absurd h (by omega), fun _ => hi.pref (by omega), fun _ => hi.tags (by omega)⟩ hp
      have hp1 : p1 = false := by cases p1 with | false => rfl | true => have := R.l1 rfl; omega
      have hp2 : p2 = false := by cases p2 with | false => rfl | true => have := R.l2 rfl; omega
      have hp3 : p3 = false := by cases p3 with | false => rfl | true => have := R.l3 rfl; omega
      subst hp1 hp2 hp3
      obtain ⟨hx1, hx2⟩ : x.hasMed = true ∧ x.med = wordOf v := R.med (by omega)
      refine ⟨false, false, false, ⟨by simp, by simp, by simp, R.n, ?_, fun _ => R.o rfl, fun _ => R.p rfl, fun _ => R.nx rfl, fun h => by omega, fun h => by omega, fun h => by omega, by simp, by simp, by simp, fun _ h => (by rw [hx1] at h; cases h), fun _ => R.vq (by omega), fun _ => R.vt (by omega)⟩⟩
      rw [hbe, R.eq]
      simp [tailB, hx1, hx2, four_word h4, hlast, show last < 5 by omega, show last < 8 by omega]
    · have h4 := low45_inv (.inr rfl) hw
      have hlast : last < 5 := hlc
      obtain ⟨p1, p2, p3, R⟩ := ih _ hlt r rfl 5 seen (lowA 5 a v) x ⟨fun h => absurd h (by omega), fun h => absurd h (by omega), fun _ => hi.tags (by omega)⟩ hp
      have hp1 : p1 = false := by cases p1 with | false => rfl | true => have := R.l1 rfl; omega
      have hp2 : p2 = false := by cases p2 with | false => rfl | true => have := R.l2 rfl; omega
      have hp3 : p3 = false := by cases p3 with | false => rfl | true => have := R.l3 rfl; omega
      subst hp1 hp2 hp3
      obtain ⟨hx1, hx2⟩ : x.hasPref = true ∧ x.pref = wordOf v := R.pref (by omega)
      obtain ⟨hx3, hx4⟩ : x.hasMed = a.hasMed ∧ x.med = a.med := R.med (by omega)
      refine ⟨false, false, false, ⟨by simp, by simp, by simp, R.n, ?_, fun _ => R.o rfl, fun _ => R.p rfl, fun _ => R.nx rfl, fun h => ⟨hx3, hx4⟩, fun h => by omega, fun h => by omega, by simp, by simp, by simp, fun h _ => by rw [hx4]; exact (hi.med h).2, fun _ h => (by rw [hx1] at h; cases h), fun _ => R.vt (by omega)⟩⟩
      rw [hbe, R.eq]
      have e1 : (decide (last < 4) && x.hasMed) = false := by
        by_cases h : last < 4
        · rw [hx3]; simp [(hi.med h).1]
        · simp [h]
      simp [tailB, e1, hx1, hx2, four_word h4, hlast, show last < 8 by omega]
    · obtain ⟨h0, h4, h16, hri⟩ := low8_inv hw
      have hlast : last < 8 := hlc
      obtain ⟨p1, p2, p3, R⟩ := ih _ hlt r rfl 8 seen (lowA 8 a v) x ⟨fun h => absurd h (by omega), fun h => absurd h (by omega), fun h => absurd h (by omega)⟩ hp
      have hp1 : p1 = false := by cases p1 with | false => rfl | true => have := R.l1 rfl; omega
      have hp2 : p2 = false := by cases p2 with | false => rfl | true => have := R.l2 rfl; omega
      have hp3 : p3 = false := by cases p3 with | false => rfl | true => have := R.l3 rfl; omega
      subst hp1 hp2 hp3
      have hxt : x.tags = numsK v (v.length / 4) := R.tags (by omega)
      obtain ⟨hx1, hx2⟩ : x.hasPref = a.hasPref ∧ x.pref = a.pref := R.pref (by omega)
      obtain ⟨hx3, hx4⟩ : x.hasMed = a.hasMed ∧ x.med = a.med := R.med (by omega)
      refine ⟨false, false, false, ⟨by simp, by simp, by simp, R.n, ?_, fun _ => R.o rfl, fun _ => R.p rfl, fun _ => R.nx rfl, fun h => ⟨hx3, hx4⟩, fun h => ⟨hx1, hx2⟩, fun h => by omega, by simp, by simp, by simp, fun h _ => by rw [hx4]; exact (hi.med h).2, fun h _ => by rw [hx2]; exact (hi.pref h).2, fun _ => by rw [hxt]; exact ⟨by rw [numsK_len]; exact h16, hri⟩⟩⟩
      rw [hbe, R.eq]
      have e1 : (decide (last < 4) && x.hasMed) = false := by
        by_cases h : last < 4
        · rw [hx3]; simp [(hi.med h).1]
        · simp [h]
      have e2 : (decide (last < 5) && x.hasPref) = false := by
        by_cases h : last < 5
        · rw [hx1]; simp [(hi.pref h).1]
        · simp [h]
      have e3 : allB (numsK v (v.length / 4)) = v := all_nums v _ (by omega)
      simp [tailB, e1, e2, hxt, numsK_len, e3, hlast]
      omega
/-- WHAT WAS READ IS WRITTEN AS IT WAS. -/
theorem parse_raw {b : List UInt8} {x : Attrs} (h : parseA b 0 0 noA = (x, 0)) : rightA x = true ∧ rawA x = b := by
  obtain ⟨p1, p2, p3, R⟩ := parse_rd _ b rfl 0 0 noA x ⟨fun _ => ⟨rfl, rfl⟩, fun _ => ⟨rfl, rfl⟩, fun _ => rfl⟩ h
  obtain ⟨rfl, rfl, rfl⟩ : p1 = true ∧ p2 = true ∧ p3 = true := by
    have := R.n
    cases p1 <;> cases p2 <;> cases p3 <;> simp at this ⊢
  refine ⟨rightA_of (R.vo rfl) (R.vp rfl) (R.vn rfl) (R.vm (by omega)) (R.vq (by omega)) (R.vt (by omega)).1 (R.vt (by omega)).2, ?_⟩
  rw [R.eq]
  simp [rawA, rawO, tailB]
end Go.Proofs.YtjpfofmkgdjelaaGreat
/- The plain law: what a system laid ahead, and a tag, leave. -/
set_option linter.unusedVariables false
set_option linter.unusedSimpArgs false
namespace Go.Proofs.YtjpfofmkgdjelaaGreat
open Go.RowKit

theorem lt_of_not {t z : UInt32} (h : ¬ t < z) (hne : t ≠ z) : z < t := by
  rw [UInt32.lt_iff_toNat_lt] at *
  have : t.toNat ≠ z.toNat := fun e => hne (UInt32.toNat_inj.1 e)
  omega
theorem rises_cons_ins {t : UInt32} : ∀ {l : List UInt32} {y : UInt32}, rises (y :: l) = true → y < t → (∀ z ∈ l, t ≠ z) → rises (y :: insT l t) = true
  | [], y, _, hy, _ => by simp [insT, rises, hy]
  | z :: r, y, h, hy, hno => by
    simp only [rises, Bool.and_eq_true, decide_eq_true_eq] at h
    simp only [insT]
    split
    · rename_i hz
      simp [rises, hy, hz, h.2]
    · rename_i hz
      have := rises_cons_ins h.2 (lt_of_not hz (hno z (by simp))) (fun w hw => hno w (by simp [hw]))
      simp [rises, h.1, this]
theorem rises_insT {t : UInt32} {l : List UInt32} (h : rises l = true) (hno : ∀ z ∈ l, t ≠ z) : rises (insT l t) = true := by
  cases l with
  | nil => rfl
  | cons z r =>
    simp only [insT]
    split
    · rename_i hz; simp [rises, hz, h]
    · rename_i hz; exact rises_cons_ins h (lt_of_not hz (hno z (by simp))) (fun w hw => hno w (by simp [hw]))
theorem insT_mem {t : UInt32} (l : List UInt32) : t ∈ insT l t := by
  induction l with
  | nil => simp [insT]
  | cons z r ih => simp only [insT]; split <;> simp [ih]
theorem rightA_with {a : Attrs} {l : List UInt32} (h : rightA a = true) (h6 : l.length ≤ 16) (h7 : rises l = true) : rightA { a with tags := l } = true := by
  obtain ⟨h1, h2, h3, h4, h5, _, _⟩ := rightA_parts h
  exact rightA_of h1 h2 h3 h4 h5 h6 h7
theorem rightA_path {a : Attrs} {l : List Leg} (h : rightA a = true) (hp : pathOk l = true) : rightA { a with path := l } = true := by
  obtain ⟨h1, _, h3, h4, h5, h6, h7⟩ := rightA_parts h
  exact rightA_of h1 hp h3 h4 h5 h6 h7
theorem tag_err {a : Attrs} {t : UInt32} (h : rightA a = true) (he : tagE a t ≠ 0) : tagE a t = 3 ∧ a.tags.length = 16 := by
  have h6 := (rightA_parts h).2.2.2.2.2.1
  unfold tagE at he ⊢
  rw [h] at he ⊢
  simp only [Bool.not_true, Bool.false_eq_true, if_false] at he ⊢
  split at he
  · exact absurd rfl he
  · rename_i h1
    rw [if_neg h1]
    split at he
    · rename_i h2; rw [if_pos h2]; exact ⟨rfl, by omega⟩
    · exact absurd rfl he
theorem tag_fine {a : Attrs} {t : UInt32} (h : rightA a = true) (he : tagE a t = 0) : rightA (tagA a t) = true ∧ (tagA a t).tags.contains t = true ∧ { tagA a t with tags := a.tags } = a := by
  obtain ⟨_, _, _, _, _, h6, h7⟩ := rightA_parts h
  cases hc : a.tags.contains t with
  | true =>
    have : tagA a t = a := by
      unfold tagA
      rw [if_neg (by simp [he]), if_pos hc]
    rw [this]
    exact ⟨h, hc, rfl⟩
  | false =>
    have hl : a.tags.length + 1 ≤ 16 := by
      unfold tagE at he
      rw [h, hc] at he
      simp only [Bool.not_true, Bool.false_eq_true, if_false] at he
      split at he
      · cases he
      · omega
    have e : tagA a t = { a with tags := insT a.tags t } := by
      unfold tagA
      rw [if_neg (by simp [he]), hc]
      rfl
    rw [e]
    refine ⟨rightA_with h (by rw [insT_len]; exact hl) (rises_insT h7 fun z hz e => ?_), ?_, rfl⟩
    · subst e; simp at hc; exact hc hz
    · simpa using insT_mem a.tags
theorem lengthOf_cons (p : Leg) (l : List Leg) : lengthOf (p :: l) = lenOf p + lengthOf l := by simp [lengthOf]
theorem prePath_len {l : List Leg} {x : UInt32} {n : Nat} : lengthOf (prePath l x n) = lengthOf l + n := by
  unfold prePath
  split
  · rename_i ns r
    rw [lengthOf_cons, lengthOf_cons]
    simp [lenOf]; omega
  · rw [lengthOf_cons]
    simp [lenOf]; omega
theorem prePath_first {l : List Leg} {x : UInt32} {n : Nat} (hn : 0 < n) : hasA (prePath l x n) x = true ∧ ∃ ns r, prePath l x n = ⟨false, x :: ns⟩ :: r := by
  obtain ⟨m, rfl⟩ : ∃ m, n = m + 1 := ⟨n - 1, by omega⟩
  unfold prePath
  split
  · rename_i ns r
    exact ⟨by simp [hasA, hasN, List.replicate_succ], _, _, by rw [List.replicate_succ]; rfl⟩
  · exact ⟨by simp [hasA, hasN, List.replicate_succ], _, _, by rw [List.replicate_succ]⟩
theorem prep_fine {a : Attrs} {x : UInt32} {n : Int} (he : prepE a x n = 0) : rightA a = true ∧ 0 ≤ n ∧ n ≤ 8 ∧ rightA (prepA a x n) = true ∧ lengthOf (prepA a x n).path = lengthOf a.path + n.toNat ∧ (0 < n → firstOf (prepA a x n) = x ∧ hasA (prepA a x n).path x = true) ∧ { prepA a x n with path := a.path } = a := by
  cases hb : badPre a x n with
  | true => simp [prepE, hb] at he
  | false =>
    obtain ⟨h, _, h0, h8⟩ := badPre_no hb
    by_cases hz : n = 0
    · subst hz
      have : prepA a x 0 = a := by simp [prepA, he]
      rw [this]
      exact ⟨h, h0, h8, h, by simp, fun h => absurd h (by omega), rfl⟩
    · have hp : pathOk (prePath a.path x n.toNat) = true := by
        simp only [prepE, hb, hz, if_false, Bool.false_eq_true] at he
        split at he
        · assumption
        · cases he
      have e : prepA a x n = { a with path := prePath a.path x n.toNat } := by simp [prepA, he, hz]
      rw [e]
      refine ⟨h, h0, h8, rightA_path h hp, prePath_len, fun hn => ?_, rfl⟩
      obtain ⟨h1, ns, r, h2⟩ := prePath_first (l := a.path) (x := x) (n := n.toNat) (by omega)
      refine ⟨?_, h1⟩
      show firstOf { a with path := prePath a.path x n.toNat } = x
      rw [h2]; rfl
end Go.Proofs.YtjpfofmkgdjelaaGreat
/- Contract: the law AttrsBack. -/
set_option linter.unusedVariables false
set_option linter.unusedSimpArgs false
namespace Go.Proofs.YtjpfofmkgdjelaaGreat
open Go.RowKit
open Go.Proofs.Tryz (prog)
attribute [local irreducible] CallV RoundV

theorem fewA_right {a : Attrs} (h : rightA a = true) : fewA a = true := by
  obtain ⟨h1, h2, h3, _⟩ := few_of_right h
  have : a.path.all (fun p => decide (p.ns.length ≤ 60)) = true := by
    rw [List.all_eq_true]
    intro p hp
    have := h2 p hp
    simp; omega
  simp [fewA, this]
  omega
theorem hasN_take_succ {l : List UInt32} (t : UInt32) {k : Nat} (hk : k < l.length) : hasN (l.take (k + 1)) t = (hasN (l.take k) t || l[k] == t) := by
  unfold hasN
  rw [List.take_succ_eq_append_getElem hk, List.any_append]
  simp
end Go.Proofs.YtjpfofmkgdjelaaGreat
