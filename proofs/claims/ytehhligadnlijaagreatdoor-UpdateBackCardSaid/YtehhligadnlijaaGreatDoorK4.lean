/- Joined: C3, C4, C5, C6, C7, C8, C9, C10, C11, C12, C13, C14, D1, C15, C17, C18, C19, C20, C21, C23, D2, E1, E2, E3, E4, E5, E6, F2, G3, G4, L0. -/
import Derived.Test.YtehhligadnlijaaGreatDoorK3
import Derived.Laws.BitsLemmas
set_option linter.unusedVariables false
set_option linter.unusedSimpArgs false
namespace Go.Proofs.YtehhligadnlijaaGreatDoor
open Go.RowKit
open Go.Proofs.Tryz (prog)
attribute [local irreducible] CallV RoundV
set_option maxRecDepth 100000 in
theorem index_ok (fr : Bool) (l : List UInt32) (x : UInt32) : PCon prog 189 [encW fr l, cW x] (.int .i64 (if l.all (· != x) then -1 else (l.findIdx (· == x) : Nat))) := by
  refine callV_of (fn := Go.Proofs.Tryz.f189) (body := _) tab_ok mixed rfl rfl (by decide) (by simp [Go.Proofs.Tryz.f189]) ?_
  (conv => whnf)
  intro hl
  have hl : l.length ≤ maxLen := by simpa [gd] using hl
  (conv => whnf)
  refine vcg_loop tab_ok mixed (fun i : {i : Nat // i ≤ l.length ∧ (l.take i).all (· != x) = true} => ⟨[(0, encW fr l), (1, cW x), (7, cI l.length), (8, cI i.1)], [], 0⟩) (fun i => l.length - i.1) ⟨0, by omega, rfl⟩ (Wk.of id [] ⟨?_, ?_, ?_, ?_, trivial⟩ (LeH.nil (Nat.le_refl _) (fun b h => by omega) (by simp))) (fun i => ?_)
  · exact .free (encW_free _ _)
  · exact .int_of rfl
  · exact .int_of (by simp)
  · exact .int_of rfl
  obtain ⟨i, hi, hz⟩ := i
  (conv => whnf)
  split
  · rename_i hc
    have hc : i < l.length := by simpa using hc
    (conv => whnf)
    refine ⟨rfl, _, ⟨by simp only; omega, idxW hc⟩, ?_⟩
    (conv => whnf)
    split
    · rename_i h1
      have h1 : l[i] = x := by simp at h1; exact UInt32.toNat_inj.1 (by omega)
      (conv => whnf)
      refine Ends.pure [] (.int_of ?_) (by simp)
      have := all_false (p := (· != x)) hc (by simp [h1])
      rw [if_neg (by rw [this]; simp)]
      congr 1
      symm
      rw [List.findIdx_eq hc]
      refine ⟨by simp [h1], fun j hj => ?_⟩
      rw [List.all_eq_true] at hz
      have := hz (l[j]'(by omega)) (by rw [List.mem_take_iff_getElem]; exact ⟨j, by omega, rfl⟩)
      simpa using this
    · rename_i h1
      (conv => whnf)
      refine ⟨⟨i + 1, by omega, ?_⟩, Wk.of id [] ⟨?_, ?_, ?_, ?_, trivial⟩ (LeH.nil (Nat.le_refl _) (fun b h => by omega) (by simp)), by simp only; omega⟩
      · rw [all_take_succ hc, hz]
        simp at h1
        simp only [Bool.true_and, bne_iff_ne, ne_eq]
        intro e
        rw [e] at h1
        simp at h1
      · exact .free (encW_free _ _)
      · exact .int_of rfl
      · exact .int_of rfl
      · exact .int_of (wrap64_succ hc hl)
  · rename_i hc
    have hc : i = l.length := by simp at hc; omega
    subst hc
    (conv => whnf)
    refine Ends.pure [] (.int_of ?_) (by simp)
    rw [List.take_length] at hz
    rw [if_pos hz]
set_option maxRecDepth 100000 in
theorem contains_ok (fr : Bool) (l : List UInt32) (x : UInt32) : PCon prog 136 [encW fr l, cW x] (.bool (!l.all (· != x))) := by
  refine callV_of (fn := Go.Proofs.Tryz.f136) (body := _) tab_ok mixed rfl rfl (by decide) (by simp [Go.Proofs.Tryz.f136]) ?_
  (conv => whnf)
  refine callV_pure (index_ok fr l x) ⟨.free (encW_free _ _), .free .int, trivial⟩ ?_
  (conv => whnf)
  refine Ends.pure [] (.bool_of ?_) (by simp)
  split
  · rename_i h; simp [h]
  · rename_i h; simp at h; simp [h]
set_option maxRecDepth 100000 in
theorem path1_ok (fr : Bool) (p : Leg) : PCon prog 135 [.agg (encLeg fr p)] (.bool (!legOk p)) := by
  refine callV_of (fn := Go.Proofs.Tryz.f135) (body := _) tab_ok mixed rfl rfl (by decide) (by simp [Go.Proofs.Tryz.f135]) ?_
  (conv => whnf)
  intro hl
  have hl : p.ns.length ≤ maxLen := by simpa [gd] using hl
  have fin : ∀ {s : St} {b : Bool}, legOk p = !b → ∃ v1 h' nx', Ends 0 s (.bool b) v1 h' nx' ∧ (v1 = .bool (!legOk p) ∧ h' = [] ∧ nx' = 0) := fun h => Ends.pure [] (.bool_of (by rw [h]; simp)) (by simp)
  (conv => whnf)
  split
  · rename_i h0
    (conv => whnf)
    exact fin (by simp at h0; simp [legOk]; omega)
  rename_i h0
  have h0 : 1 ≤ p.ns.length := by simp at h0; omega
  (conv => whnf)
  intro _
  (conv => whnf)
  split
  · rename_i h1
    (conv => whnf)
    exact fin (by simp at h1; simp [legOk]; omega)
  rename_i h1
  have h1 : p.ns.length ≤ 32 := by simp at h1; omega
  (conv => whnf)
  refine callV_pure (contains_ok fr p.ns 0) ⟨.free (encW_free _ _), .free .int, trivial⟩ ?_
  (conv => whnf)
  split
  · rename_i h2
    (conv => whnf)
    exact fin (by simp at h2; simp [legOk]; intros; assumption)
  rename_i h2
  (conv => whnf)
  split
  · rename_i h3
    (conv => whnf)
    refine callV_pure (rise_ok fr p.ns) ⟨.free (encW_free _ _), trivial⟩ ?_
    (conv => whnf)
    refine fin ?_
    simp at h2
    simp [legOk, h0, h1, h3]
    exact fun _ => h2
  · rename_i h3
    (conv => whnf)
    refine fin ?_
    simp at h2
    simp [legOk, h0, h1, h3]
    exact h2
end Go.Proofs.YtehhligadnlijaaGreatDoor
set_option linter.unusedVariables false
set_option linter.unusedSimpArgs false
namespace Go.Proofs.YtehhligadnlijaaGreatDoor
open Go.RowKit
open Go.Proofs.Tryz (prog)
attribute [local irreducible] CallV RoundV
set_option maxRecDepth 100000 in
theorem indexFunc_ok (fr : Bool) (l : List Leg) : ∃ n : Int, PCon prog 190 [encLegs fr l, .fn (.func 135) [] []] (.int .i64 n) ∧ (0 ≤ n ↔ l.all legOk = false) := by
  refine ⟨if l.all legOk then -1 else (l.findIdx (!legOk ·) : Nat), ?_, by split <;> rename_i h <;> simp [h]⟩
  refine callV_of (fn := Go.Proofs.Tryz.f190) (body := _) tab_ok mixed rfl rfl (by decide) (by simp [Go.Proofs.Tryz.f190]) ?_
  (conv => whnf)
  intro hl
  have hl : l.length ≤ maxLen := by simpa [gd] using hl
  (conv => whnf)
  refine vcg_loop tab_ok mixed (fun i : {i : Nat // i ≤ l.length ∧ (l.take i).all legOk = true} => ⟨[(0, encLegs fr l), (1, .fn (.func 135) [] []), (7, cI l.length), (8, cI i.1)], [], 0⟩) (fun i => l.length - i.1) ⟨0, by omega, rfl⟩ (Wk.of id [] ⟨?_, ?_, ?_, ?_, trivial⟩ (LeH.nil (Nat.le_refl _) (fun b h => by omega) (by simp))) (fun i => ?_)
  · exact .free (encLegs_free _ _)
  · exact .free (.fn (by simp) (by simp))
  · exact .int_of (by simp)
  · exact .int_of rfl
  obtain ⟨i, hi, hz⟩ := i
  (conv => whnf)
  split
  · rename_i hc
    have hc : i < l.length := by simpa using hc
    (conv => whnf)
    refine ⟨rfl, _, ⟨by simp only; omega, idxL hc⟩, ?_⟩
    (conv => whnf)
    refine callV_pure (path1_ok fr l[i]) ⟨.free (.agg (encLeg_free _ _)), trivial⟩ ?_
    (conv => whnf)
    split
    · rename_i h1
      (conv => whnf)
      refine Ends.pure [] (.int_of ?_) (by simp)
      have h1 : legOk l[i] = false := by simpa using h1
      have := all_false (p := legOk) hc h1
      rw [if_neg (by rw [this]; simp)]
      congr 1
      symm
      rw [List.findIdx_eq hc]
      refine ⟨by simp [h1], fun j hj => ?_⟩
      rw [List.all_eq_true] at hz
      have := hz (l[j]'(by omega)) (by rw [List.mem_take_iff_getElem]; exact ⟨j, by omega, rfl⟩)
      simpa using this
    · rename_i h1
      (conv => whnf)
      refine ⟨⟨i + 1, by omega, ?_⟩, Wk.of id [] ⟨?_, ?_, ?_, ?_, trivial⟩ (LeH.nil (Nat.le_refl _) (fun b h => by omega) (by simp)), by simp only; omega⟩
      · rw [all_take_succ hc, hz]; simpa using h1
      · exact .free (encLegs_free _ _)
      · exact .free (.fn (by simp) (by simp))
      · exact .int_of rfl
      · exact .int_of (wrap64_succ hc hl)
  · rename_i hc
    have hc : i = l.length := by simp at hc; omega
    subst hc
    (conv => whnf)
    refine Ends.pure [] (.int_of ?_) (by simp)
    rw [List.take_length] at hz
    rw [if_pos hz]
set_option maxRecDepth 100000 in
theorem containsFunc_ok (fr : Bool) (l : List Leg) : PCon prog 137 [encLegs fr l, .fn (.func 135) [] []] (.bool (!l.all legOk)) := by
  obtain ⟨n, hn, hiff⟩ := indexFunc_ok fr l
  refine callV_of (fn := Go.Proofs.Tryz.f137) (body := _) tab_ok mixed rfl rfl (by decide) (by simp [Go.Proofs.Tryz.f137]) ?_
  (conv => whnf)
  refine callV_pure hn ⟨.free (encLegs_free _ _), .free (.fn (by simp) (by simp)), trivial⟩ ?_
  (conv => whnf)
  refine Ends.pure [] (.bool_of ?_) (by simp)
  cases hb : l.all legOk with
  | true => rw [hb] at hiff; simp at hiff; simp; omega
  | false => have := hiff.2 hb; simp; omega
set_option maxRecDepth 100000 in
theorem path_ok (fr : Bool) (l : List Leg) : PCon prog 102 [encLegs fr l] (.bool (pathOk l)) := by
  refine callV_of (fn := Go.Proofs.Tryz.f102) (body := _) tab_ok mixed rfl rfl (by decide) (by simp [Go.Proofs.Tryz.f102]) ?_
  (conv => whnf)
  intro hl
  (conv => whnf)
  split
  · rename_i h0
    (conv => whnf)
    refine callV_pure (containsFunc_ok fr l) ⟨.free (encLegs_free _ _), .free (.fn (by simp) (by simp)), trivial⟩ ?_
    (conv => whnf)
    refine Ends.pure [] (.bool_of ?_) (by simp)
    simp at h0
    simp [pathOk]
    omega
  · rename_i h0
    (conv => whnf)
    refine Ends.pure [] (.bool_of ?_) (by simp)
    simp at h0
    simp [pathOk]
    omega
def rightA (a : Attrs) : Bool := decide ((a.origin.toNat : Int) ≤ 2) && pathOk a.path && a.next != 0 && (a.hasMed || a.med == 0) && (a.hasPref || a.pref == 0) && decide ((a.tags.length : Int) ≤ 16) && rises a.tags
theorem u32_ne {x : UInt32} : ((x.toNat : Int) != 0) = (x != 0) := by
  cases h : x != 0 with
  | true => simp only [bne_iff_ne, ne_eq] at h ⊢; intro e; exact h (UInt32.toNat_inj.1 (by simp; omega))
  | false => simp only [bne_eq_false_iff_eq] at h ⊢; subst h; rfl
theorem u32_eq {x : UInt32} : ((x.toNat : Int) == 0) = (x == 0) := by
  have := congrArg (!·) (u32_ne (x := x))
  simpa [bne] using this
def checkA (a : Attrs) : Int := if rightA a then 0 else 2
theorem checkA_no {a : Attrs} (h : rightA a = false) : checkA a = 2 := by simp [checkA, h]
theorem checkA_yes {a : Attrs} (h : rightA a = true) : checkA a = 0 := by simp [checkA, h]
set_option maxRecDepth 100000 in
set_option maxHeartbeats 8000000 in
theorem check_ok (fr : Bool) (a : Attrs) : PCon prog 59 [encA fr a] (.int .i64 (checkA a)) := by
  refine callV_of (fn := Go.Proofs.Tryz.f59) (body := _) tab_ok mixed rfl rfl (by decide) (by simp [Go.Proofs.Tryz.f59]) ?_
  have fin0 : ∀ {s : St}, rightA a = true → ∃ v1 h' nx', Ends 0 s (.int .i64 0) v1 h' nx' ∧ (v1 = .int .i64 (checkA a) ∧ h' = [] ∧ nx' = 0) := fun h => Ends.pure [] (.int_of (checkA_yes h).symm) (by simp)
  have fin2 : ∀ {s : St}, rightA a = false → ∃ v1 h' nx', Ends 0 s (.int .i64 2) v1 h' nx' ∧ (v1 = .int .i64 (checkA a) ∧ h' = [] ∧ nx' = 0) := fun h => Ends.pure [] (.int_of (checkA_no h).symm) (by simp)
  (conv => whnf)
  repeat' first
    | refine fin0 ?_
    | refine fin2 ?_
    | (split <;> (conv => whnf))
    | (intro _; (conv => whnf))
    | (refine ⟨by kernel_rfl, ?_⟩; (conv => whnf))
    | (refine callV_pure (path_ok fr a.path) ⟨.free (encLegs_free _ _), trivial⟩ ?_; (conv => whnf))
    | (refine callV_pure (rise_ok fr a.tags) ⟨.free (encW_free _ _), trivial⟩ ?_; (conv => whnf))
  all_goals (clear fin0 fin2; try simp only [u32_ne, u32_eq] at *)
  all_goals (try simp_all [rightA])
  all_goals (try (intros; exfalso; omega))
end Go.Proofs.YtehhligadnlijaaGreatDoor
set_option linter.unusedVariables false
set_option linter.unusedSimpArgs false
namespace Go.Proofs.YtehhligadnlijaaGreatDoor
open Go.RowKit
open Go.Proofs.Tryz (prog)
attribute [local irreducible] CallV RoundV
theorem u32_neq {x y : UInt32} : ((x.toNat : Int) != (y.toNat : Int)) = (x != y) := by
  cases h : x != y with
  | true => simp only [bne_iff_ne, ne_eq] at h ⊢; intro e; exact h (UInt32.toNat_inj.1 (by omega))
  | false => simp only [bne_eq_false_iff_eq] at h ⊢; subst h; rfl
theorem u8_neq {x y : UInt8} : ((x.toNat : Int) != (y.toNat : Int)) = (x != y) := by
  cases h : x != y with
  | true => simp only [bne_iff_ne, ne_eq] at h ⊢; intro e; exact h (UInt8.toNat_inj.1 (by omega))
  | false => simp only [bne_eq_false_iff_eq] at h ⊢; subst h; rfl
def sameA (a b : Attrs) : Bool := decide (a = b)
set_option maxRecDepth 100000 in
set_option maxHeartbeats 4000000 in
theorem ref_same_ok (fr fr' : Bool) (a b : Attrs) : PCon prog 37 [encA fr a, encA fr' b] (.bool (sameA a b)) := by
  refine callV_of (fn := Go.Proofs.Tryz.f37) (body := _) tab_ok mixed rfl rfl (by decide) (by simp [Go.Proofs.Tryz.f37]) ?_
  have fin : ∀ {s : St} {r : Bool}, sameA a b = r → ∃ v1 h' nx', Ends 0 s (.bool r) v1 h' nx' ∧ (v1 = .bool (sameA a b) ∧ h' = [] ∧ nx' = 0) := fun h => Ends.pure [] (.bool_of h.symm) (by simp)
  (conv => whnf)
  repeat' first
    | refine fin ?_
    | (split <;> (conv => whnf))
    | (refine fun (_ : gd none _) => ?_; (conv => whnf))
    | (refine callV_pure (words_ok fr fr' a.tags b.tags) ⟨.free (encW_free _ _), .free (encW_free _ _), trivial⟩ ?_; (conv => whnf))
  any_goals (simp only [sameA, decide_eq_false_iff_not]; rintro rfl; simp_all; done)
  have hlen : a.path.length = b.path.length := by
    have := ‹((((a.path.map (encLeg fr)).length : Nat) : Int) != (((b.path.map (encLeg fr')).length : Nat) : Int)) = false›
    simp at this
    omega
  have hall : a.origin = b.origin ∧ a.next = b.next ∧ a.hasMed = b.hasMed ∧ a.med = b.med ∧ a.hasPref = b.hasPref ∧ a.pref = b.pref ∧ a.tags = b.tags := by
    clear fin
    simp_all [u32_neq, u8_neq]
  have hl : a.path.length ≤ maxLen := by
    have := ‹gd none ((a.path.map (encLeg fr)).length ≤ maxLen)›
    simpa [gd] using this
  have cell : ∀ {fr0 : Bool} {x : Attrs}, FreeB (.var true 45 (cellsA fr0 x)) := fun {fr0 x} => cellsA_free fr0 x
  refine vcg_loop tab_ok mixed (fun i : {i : Nat // i ≤ a.path.length ∧ a.path.take i = b.path.take i} => ⟨[(2, .ptr 0 0), (3, .ptr 1 0), (5, cI i.1)], [(0, some (.var true 45 (cellsA fr a))), (1, some (.var true 45 (cellsA fr' b)))], 2⟩) (fun i => a.path.length - i.1) ⟨0, by omega, rfl⟩ (Wk.of id [] ⟨?_, ?_, ?_, trivial⟩ (LeH.same ⟨⟨rfl, cell, by omega⟩, ⟨rfl, cell, by omega⟩, trivial⟩ (by omega))) (fun i => ?_)
  · exact .ptr rfl (by omega)
  · exact .ptr rfl (by omega)
  · exact .int_of rfl
  obtain ⟨i, hi, hr⟩ := i
  (conv => whnf)
  refine fun (_ : gd none _) => ?_
  (conv => whnf)
  split
  · rename_i hc
    have hc : i < a.path.length := by simpa using hc
    have hc' : i < b.path.length := by omega
    have hdif : a.path[i] ≠ b.path[i] → sameA a b = false := by
      intro h
      simp only [sameA, decide_eq_false_iff_not]
      rintro rfl
      exact h rfl
    (conv => whnf)
    refine ⟨rfl, _, ⟨by simp only; omega, idxL hc⟩, ?_⟩
    (conv => whnf)
    refine ⟨rfl, _, ⟨by simp only; omega, idxL hc'⟩, ?_⟩
    (conv => whnf)
    split
    · rename_i h1
      (conv => whnf)
      refine ⟨by kernel_rfl, ?_⟩
      (conv => whnf)
      refine fin (hdif fun e => ?_)
      simp [e] at h1
    · rename_i h1
      (conv => whnf)
      refine ⟨rfl, _, ⟨by simp only; omega, idxL hc⟩, ?_⟩
      (conv => whnf)
      refine ⟨rfl, _, ⟨by simp only; omega, idxL hc'⟩, ?_⟩
      (conv => whnf)
      refine ⟨.bool (decide (a.path[i].ns = b.path[i].ns)), [], fun h nx _ => ?_, by simp, ?_⟩
      · refine pureV_pure (words_ok fr fr' a.path[i].ns b.path[i].ns) ?_
        exact ⟨.free (encW_free _ _), .free (encW_free _ _), trivial⟩
      (conv => whnf)
      refine ⟨by kernel_rfl, ?_⟩
      (conv => whnf)
      split
      · rename_i h2
        (conv => whnf)
        refine fin (hdif fun e => ?_)
        simp [e] at h2
      · rename_i h2
        (conv => whnf)
        refine ⟨⟨i + 1, by omega, ?_⟩, Wk.of id [] ⟨?_, ?_, ?_, trivial⟩ (LeH.same ⟨⟨rfl, cell, by omega⟩, ⟨rfl, cell, by omega⟩, trivial⟩ (by omega)), by simp only; omega⟩
        · rw [List.take_succ_eq_append_getElem hc, List.take_succ_eq_append_getElem hc', hr]
          have e1 : a.path[i].set = b.path[i].set := by simpa using h1
          have e2 : a.path[i].ns = b.path[i].ns := by simpa using h2
          have : a.path[i] = b.path[i] := by
            cases ha : a.path[i]; cases hb : b.path[i]
            simp_all
          rw [this]
        · exact .ptr rfl (by omega)
        · exact .ptr rfl (by omega)
        · exact .int_of (wrap64_succ hc hl)
  · rename_i hc
    have hc : i = a.path.length := by simp at hc; omega
    subst hc
    (conv => whnf)
    refine fin ?_
    rw [List.take_length, hlen, List.take_length] at hr
    obtain ⟨q1, q2, q3, q4, q5, q6, q7⟩ := hall
    simp only [sameA, decide_eq_true_eq]
    cases a; cases b
    simp_all
end Go.Proofs.YtehhligadnlijaaGreatDoor
set_option linter.unusedVariables false
set_option linter.unusedSimpArgs false
namespace Go.Proofs.YtehhligadnlijaaGreatDoor
open Go.RowKit
open Go.Proofs.Tryz (prog)
attribute [local irreducible] CallV RoundV
def fewA (a : Attrs) : Bool := a.path.all (fun p => decide (p.ns.length ≤ 60)) && decide (a.path.length ≤ 20) && decide (a.tags.length ≤ 60)
def zeroA : List V := [.int .u8 0, .snil, .int .u32 0, .bool false, .int .u32 0, .bool false, .int .u32 0, .snil]
theorem zeroA_free : ∀ v ∈ zeroA, Free v := by
  intro v hv
  simp [zeroA] at hv
  rcases hv with rfl | rfl | rfl | rfl | rfl | rfl | rfl | rfl <;> first | exact .int | exact .bool | exact .snil
theorem fewA_out {a : Attrs} (h : fewA a = true) : (∀ p ∈ a.path, p.ns.length ≤ 60) ∧ a.path.length ≤ 20 ∧ a.tags.length ≤ 60 := by
  simp only [fewA, Bool.and_eq_true, List.all_eq_true, decide_eq_true_eq] at h
  exact ⟨h.1.1, h.1.2, h.2⟩
end Go.Proofs.YtehhligadnlijaaGreatDoor
set_option linter.unusedVariables false
set_option linter.unusedSimpArgs false
namespace Go.Proofs.YtehhligadnlijaaGreatDoor
open Go.RowKit
open Go.Proofs.Tryz (prog)
attribute [local irreducible] CallV RoundV
def fourB (x : UInt32) : List UInt8 := [(x >>> 24).toUInt8, (x >>> 16).toUInt8, (x >>> 8).toUInt8, x.toUInt8]
def highRows (x : UInt32) : Nat → List (List V)
  | 0 => [[.int .u8 0], [.int .u8 0], [.int .u8 0], [.int .u8 0]]
  | 1 => [[.int .u8 0], [.int .u8 0], [.int .u8 0], [cB x.toUInt8]]
  | 2 => [[.int .u8 0], [.int .u8 0], [cB (x >>> 8).toUInt8], [cB x.toUInt8]]
  | 3 => [[.int .u8 0], [cB (x >>> 16).toUInt8], [cB (x >>> 8).toUInt8], [cB x.toUInt8]]
  | _ => [[cB (x >>> 24).toUInt8], [cB (x >>> 16).toUInt8], [cB (x >>> 8).toUInt8], [cB x.toUInt8]]
def shr8 (x : UInt32) : Nat → Int
  | 0 => x.toNat
  | 1 => (x >>> 8).toNat
  | 2 => (x >>> 16).toNat
  | 3 => (x >>> 24).toNat
  | _ => ((0 : UInt32).toNat : Int)
theorem highRows_free (x : UInt32) (k : Nat) : ∀ r ∈ highRows x k, ∀ v ∈ r, Free v := by
  intro r hr v hv
  unfold highRows at hr
  split at hr <;> (simp at hr; rcases hr with rfl | rfl | rfl | rfl <;> (simp at hv; subst hv; exact .int))
theorem LeB.eq_of {h : Heap} {nx nx' : Nat} {ρ : Nat → Nat} {Z : List Nat} {b b' : Blk} (e : b = b') (hf : FreeB b') : LeB h nx ρ nx' Z b b' := by subst e; exact LeB.free hf
theorem sh_step {x y : UInt32} (h : y.toNat = x.toNat / 256) : IntKind.u32.wrap ((IntKind.u64.wrap (x.toNat : Int)).fdiv (2 ^ (min (Int.toNat 8) IntKind.u64.bits))) = (y.toNat : Int) := by
  have h1 : IntKind.u64.wrap (x.toNat : Int) = x.toNat := by
    rw [wrapu64]
    have := x.toNat_lt
    omega
  rw [h1, wrap32, h]
  have e : (2 : Int) ^ (min (Int.toNat 8) IntKind.u64.bits) = 256 := by decide
  rw [e, Int.fdiv_eq_ediv_of_nonneg _ (by decide)]
  have := x.toNat_lt
  omega
set_option maxRecDepth 100000 in
theorem high_ok (x : UInt32) : PCon prog 175 [cW x, .int .i64 4] (encB true (fourB x)) := by
  refine callV_of (fn := Go.Proofs.Tryz.f175) (body := _) tab_ok mixed rfl rfl (by decide) (by simp [Go.Proofs.Tryz.f175]) ?_
  (conv => whnf)
  refine ⟨⟨by omega, by omega, by simp [tab, tabOf, nth], by omega⟩, ?_⟩
  (conv => whnf)
  refine callV_of (fn := Go.Proofs.Tryz.f82) (body := _) tab_ok mixed rfl rfl (by decide) (by simp [Go.Proofs.Tryz.f82]) ?_
  (conv => whnf)
  refine ⟨_, _, _, Ends.here, ?_⟩
  (conv => whnf)
  refine callV_loop [(2, .ptr 0 0), (5, .ptr 2 0)] ⟨rfl, rfl, trivial⟩ fun asg' body' hasg hbody => ?_
  refine callV_of (fn := Go.Proofs.Tryz.f122) (body := _) tab_ok mixed rfl rfl (by decide) (by simp [Go.Proofs.Tryz.f122]) ?_
  (conv => whnf)
  intro _
  (conv => whnf)
  refine vcg_loop tab_ok mixed (fun k : {k : Nat // k ≤ 4} => ⟨[(0, .yld 4), (1, .ptr 3 0), (3, .int .i64 (3 - k.1))], [(4, some (.loop 23 [(2, .ptr 0 0), (5, .ptr 2 0)] [11, 12] asg' body' .ready none)), (0, some (.var true 22 [.int .u32 (shr8 x k.1)])), (1, some (.arr true true 5 1 (highRows x k.1))), (2, some (.var true 50 [.osl 1 1 0 4])), (3, some (.var true 50 [.osl 1 1 0 4]))], 5⟩) (fun k => 4 - k.1) ⟨0, by omega⟩ ?_ (fun k => ?_)
  · refine Wk.of id [] ⟨?_, ?_, ?_, trivial⟩ (LeH.of ⟨⟨by omega, .inl ⟨by simp, _, rfl, ?_⟩⟩, ⟨by omega, .inl ⟨by simp, _, rfl, ?_⟩⟩, ⟨by omega, .inl ⟨by simp, _, rfl, ?_⟩⟩, ⟨by omega, .inl ⟨by simp, _, rfl, ?_⟩⟩, ⟨by omega, .inl ⟨by simp, _, rfl, ?_⟩⟩, trivial⟩ (fun _ _ _ _ h => h) (fun _ _ => rfl) (by omega) (by simp))
    · exact .yld rfl (by omega)
    · exact .ptr rfl (by omega)
    · exact .int_of rfl
    · exact ⟨rfl, rfl, rfl, rfl, rfl, rfl, .ptr rfl (by omega), .ptr rfl (by omega), trivial⟩
    · exact ⟨id, rfl, .int_of rfl, trivial⟩
    · exact LeB.free (blk := .arr true true 5 1 (highRows x 0)) (highRows_free x 0)
    · exact ⟨id, rfl, .osl_of rfl (by omega) rfl, trivial⟩
    · exact ⟨id, rfl, .osl_of rfl (by omega) rfl, trivial⟩
  obtain ⟨k, hk⟩ := k
  rcases k with _ | _ | _ | _ | _ | k
  case succ.succ.succ.succ.succ => omega
  case succ.succ.succ.succ.zero =>
    (conv => whnf)
    refine ⟨_, _, _, Ends.here, ?_⟩
    (conv => whnf)
    refine Ends.pure [1] ?_ ?_
    · refine LeV.freeze_of (by simp) rfl (by simp [highRows]) (highRows_free x 4) ?_
      simp [highRows, fourB]
    · intro z hz
      obtain rfl := List.mem_singleton.1 hz
      exact ne_none_of rfl
  · (conv => whnf)
    refine ⟨rfl, ⟨by simp, by simp⟩, ?_⟩
    (conv => whnf)
    refine ⟨rfl, _, rfl, ?_⟩
    (conv => whnf)
    subst hasg hbody
    refine roundV_of tab_ok mixed rfl (by simp) (show 4 < 5 by omega) ?_
    (conv => whnf)
    refine ⟨rfl, ?_⟩
    (conv => whnf)
    refine ⟨rfl, ⟨by simp, by simp⟩, ?_⟩
    (conv => whnf)
    refine ⟨rfl, _, rfl, ?_⟩
    (conv => whnf)
    refine ⟨by decide, ?_⟩
    (conv => whnf)
    refine ⟨rfl, ?_⟩
    (conv => whnf)
    refine ⟨⟨1, by omega⟩, Wk.of id [] ⟨.yld rfl (by omega), .ptr rfl (by omega), .int_of ?_, trivial⟩ (LeH.of ⟨⟨by omega, .inl ⟨by simp, _, rfl, rfl, rfl, rfl, rfl, rfl, rfl, .ptr rfl (by omega), .ptr rfl (by omega), trivial⟩⟩, ⟨by omega, .inl ⟨by simp, _, rfl, id, rfl, .int_of ?_, trivial⟩⟩, ⟨by omega, .inl ⟨by simp, _, rfl, LeB.eq_of ?_ (highRows_free x 1)⟩⟩, ⟨by omega, .inl ⟨by simp, _, rfl, id, rfl, .osl_of rfl (by omega) rfl, trivial⟩⟩, ⟨by omega, .inl ⟨by simp, _, rfl, id, rfl, .osl_of rfl (by omega) rfl, trivial⟩⟩, trivial⟩ (fun _ _ _ _ h => h) (fun _ _ => rfl) (by omega) (by simp)), ?_⟩
    · simp [wrap64']
    · refine sh_step ?_
      have := x.toNat_lt
      simp [UInt32.toNat_shiftRight, Nat.shiftRight_eq_div_pow, Nat.div_div_eq_div_mul] <;> omega
    · simp [highRows, shr8, cB, wrap8]
    · simp
  · (conv => whnf)
    refine ⟨rfl, ⟨by simp, by simp⟩, ?_⟩
    (conv => whnf)
    refine ⟨rfl, _, rfl, ?_⟩
    (conv => whnf)
    subst hasg hbody
    refine roundV_of tab_ok mixed rfl (by simp) (show 4 < 5 by omega) ?_
    (conv => whnf)
    refine ⟨rfl, ?_⟩
    (conv => whnf)
    refine ⟨rfl, ⟨by simp, by simp⟩, ?_⟩
    (conv => whnf)
    refine ⟨rfl, _, rfl, ?_⟩
    (conv => whnf)
    refine ⟨by decide, ?_⟩
    (conv => whnf)
    refine ⟨rfl, ?_⟩
    (conv => whnf)
    refine ⟨⟨2, by omega⟩, Wk.of id [] ⟨.yld rfl (by omega), .ptr rfl (by omega), .int_of ?_, trivial⟩ (LeH.of ⟨⟨by omega, .inl ⟨by simp, _, rfl, rfl, rfl, rfl, rfl, rfl, rfl, .ptr rfl (by omega), .ptr rfl (by omega), trivial⟩⟩, ⟨by omega, .inl ⟨by simp, _, rfl, id, rfl, .int_of ?_, trivial⟩⟩, ⟨by omega, .inl ⟨by simp, _, rfl, LeB.eq_of ?_ (highRows_free x 2)⟩⟩, ⟨by omega, .inl ⟨by simp, _, rfl, id, rfl, .osl_of rfl (by omega) rfl, trivial⟩⟩, ⟨by omega, .inl ⟨by simp, _, rfl, id, rfl, .osl_of rfl (by omega) rfl, trivial⟩⟩, trivial⟩ (fun _ _ _ _ h => h) (fun _ _ => rfl) (by omega) (by simp)), ?_⟩
    · simp [wrap64']
    · refine sh_step ?_
      have := x.toNat_lt
      simp [UInt32.toNat_shiftRight, Nat.shiftRight_eq_div_pow, Nat.div_div_eq_div_mul] <;> omega
    · simp [highRows, shr8, cB, wrap8]
    · simp
  · (conv => whnf)
    refine ⟨rfl, ⟨by simp, by simp⟩, ?_⟩
    (conv => whnf)
    refine ⟨rfl, _, rfl, ?_⟩
    (conv => whnf)
    subst hasg hbody
    refine roundV_of tab_ok mixed rfl (by simp) (show 4 < 5 by omega) ?_
    (conv => whnf)
    refine ⟨rfl, ?_⟩
    (conv => whnf)
    refine ⟨rfl, ⟨by simp, by simp⟩, ?_⟩
    (conv => whnf)
    refine ⟨rfl, _, rfl, ?_⟩
    (conv => whnf)
    refine ⟨by decide, ?_⟩
    (conv => whnf)
    refine ⟨rfl, ?_⟩
    (conv => whnf)
    refine ⟨⟨3, by omega⟩, Wk.of id [] ⟨.yld rfl (by omega), .ptr rfl (by omega), .int_of ?_, trivial⟩ (LeH.of ⟨⟨by omega, .inl ⟨by simp, _, rfl, rfl, rfl, rfl, rfl, rfl, rfl, .ptr rfl (by omega), .ptr rfl (by omega), trivial⟩⟩, ⟨by omega, .inl ⟨by simp, _, rfl, id, rfl, .int_of ?_, trivial⟩⟩, ⟨by omega, .inl ⟨by simp, _, rfl, LeB.eq_of ?_ (highRows_free x 3)⟩⟩, ⟨by omega, .inl ⟨by simp, _, rfl, id, rfl, .osl_of rfl (by omega) rfl, trivial⟩⟩, ⟨by omega, .inl ⟨by simp, _, rfl, id, rfl, .osl_of rfl (by omega) rfl, trivial⟩⟩, trivial⟩ (fun _ _ _ _ h => h) (fun _ _ => rfl) (by omega) (by simp)), ?_⟩
    · simp [wrap64']
    · refine sh_step ?_
      have := x.toNat_lt
      simp [UInt32.toNat_shiftRight, Nat.shiftRight_eq_div_pow, Nat.div_div_eq_div_mul] <;> omega
    · simp [highRows, shr8, cB, wrap8]
    · simp
  · (conv => whnf)
    refine ⟨rfl, ⟨by simp, by simp⟩, ?_⟩
    (conv => whnf)
    refine ⟨rfl, _, rfl, ?_⟩
    (conv => whnf)
    subst hasg hbody
    refine roundV_of tab_ok mixed rfl (by simp) (show 4 < 5 by omega) ?_
    (conv => whnf)
    refine ⟨rfl, ?_⟩
    (conv => whnf)
    refine ⟨rfl, ⟨by simp, by simp⟩, ?_⟩
    (conv => whnf)
    refine ⟨rfl, _, rfl, ?_⟩
    (conv => whnf)
    refine ⟨by decide, ?_⟩
    (conv => whnf)
    refine ⟨rfl, ?_⟩
    (conv => whnf)
    refine ⟨⟨4, by omega⟩, Wk.of id [] ⟨.yld rfl (by omega), .ptr rfl (by omega), .int_of ?_, trivial⟩ (LeH.of ⟨⟨by omega, .inl ⟨by simp, _, rfl, rfl, rfl, rfl, rfl, rfl, rfl, .ptr rfl (by omega), .ptr rfl (by omega), trivial⟩⟩, ⟨by omega, .inl ⟨by simp, _, rfl, id, rfl, .int_of ?_, trivial⟩⟩, ⟨by omega, .inl ⟨by simp, _, rfl, LeB.eq_of ?_ (highRows_free x 4)⟩⟩, ⟨by omega, .inl ⟨by simp, _, rfl, id, rfl, .osl_of rfl (by omega) rfl, trivial⟩⟩, ⟨by omega, .inl ⟨by simp, _, rfl, id, rfl, .osl_of rfl (by omega) rfl, trivial⟩⟩, trivial⟩ (fun _ _ _ _ h => h) (fun _ _ => rfl) (by omega) (by simp)), ?_⟩
    · simp [wrap64']
    · refine sh_step ?_
      have := x.toNat_lt
      simp [UInt32.toNat_shiftRight, Nat.shiftRight_eq_div_pow, Nat.div_div_eq_div_mul] <;> omega
    · simp [highRows, shr8, cB, wrap8]
    · simp
end Go.Proofs.YtehhligadnlijaaGreatDoor
set_option linter.unusedVariables false
set_option linter.unusedSimpArgs false
namespace Go.Proofs.YtehhligadnlijaaGreatDoor
open Go.RowKit
open Go.Proofs.Tryz (prog)
attribute [local irreducible] CallV RoundV
abbrev rowsB (b : List UInt8) : List (List V) := b.map fun x => [V.int .u8 x.toNat]
theorem LeV.freezeB {h : Heap} {nx nx' : Nat} {ρ : Nat → Nat} {Z : List Nat} {b n : Nat} {fr ex : Bool} {ty : TypeId} {rows : List (List V)} {bs : List UInt8} (hz : b ∈ Z) (hb : hget h b = some (.arr fr ex ty 1 rows)) (e : rows = rowsB bs) (hn : n = bs.length) :
    LeV h nx ρ nx' Z (.osl b 1 0 n) (encB fr bs) := by
  subst e
  exact LeV.freeze_of hz hb (by simp [hn]) (rowsB_free _) (by simp only [List.drop_zero]; exact List.take_of_length_le (by simp [hn]))
theorem one_none {h : Heap} {b : Nat} {x : Blk} (hb : hget h b = some x) : ∀ z ∈ [b], hget h z ≠ none := fun z hz => by
  obtain rfl := List.mem_singleton.1 hz
  exact ne_none_of hb
theorem u8_nat (n : Nat) : IntKind.u8.wrap (n : Int) = (UInt8.ofNat n).toNat := by
  rw [wrap8]; simp
def allB (l : List UInt32) : List UInt8 := l.flatMap fourB
theorem allB_len (l : List UInt32) : (allB l).length = 4 * l.length := by
  induction l with
  | nil => rfl
  | cons x l ih =>
    have e : allB (x :: l) = fourB x ++ allB l := by unfold allB; rw [List.flatMap_cons]
    have e4 : (fourB x).length = 4 := rfl
    rw [e, List.length_append, e4, ih, List.length_cons]
    omega
theorem allB_succ {l : List UInt32} {i : Nat} (h : i < l.length) : allB (l.take (i + 1)) = allB (l.take i) ++ fourB l[i] := by
  unfold allB
  rw [List.take_succ_eq_append_getElem h, List.flatMap_append, List.flatMap_cons, List.flatMap_nil, List.append_nil]
set_option maxRecDepth 100000 in
theorem all_ok (fr : Bool) (l : List UInt32) (hb : l.length ≤ 1000) : PCon prog 186 [encW fr l] (encB true (allB l)) := by
  refine callV_of (fn := Go.Proofs.Tryz.f186) (body := _) tab_ok mixed rfl rfl (by decide) (by simp [Go.Proofs.Tryz.f186]) ?_
  (conv => whnf)
  intro _
  (conv => whnf)
  refine vcg_loop tab_ok mixed (fun i : {i : Nat // i ≤ l.length} => ⟨[(2, .osl 0 1 0 (4 * i.1)), (5, encW fr l), (6, cI l.length), (7, cI i.1)], [(0, some (.arr true false 5 1 (rowsB (allB (l.take i.1)))))], 1⟩) (fun i => l.length - i.1) ⟨0, by omega⟩ ?_ (fun i => ?_)
  · refine Wk.of id [] ⟨?_, ?_, ?_, ?_, trivial⟩ (LeH.of ⟨⟨by omega, .inr ⟨by simp, _, _, _, _, rfl⟩⟩, trivial⟩ (fun _ _ _ _ h => h) (fun _ _ => rfl) (by omega) (by simp))
    · exact .osl0
    · exact .free (encW_free _ _)
    · exact .int_of (by simp)
    · exact .int_of rfl
  obtain ⟨i, hi⟩ := i
  (conv => whnf)
  split
  · rename_i hc
    have hc : i < l.length := by simpa using hc
    (conv => whnf)
    refine ⟨rfl, _, ⟨by simp only; omega, idxW hc⟩, ?_⟩
    (conv => whnf)
    refine callV_pure (high_ok l[i]) ⟨.free .int, .free .int, trivial⟩ ?_
    (conv => whnf)
    have hlen := allB_len (l.take i)
    rw [List.length_take, Nat.min_eq_left hi] at hlen
    refine ⟨⟨rfl, rfl, rfl, rfl, by decide⟩, by simp [rowsB, hlen], ⟨by simp [tab, tabOf, nth, fourB]; omega, by simp [fourB]; omega⟩, ?_⟩
    (conv => whnf)
    refine ⟨⟨i + 1, by omega⟩, Wk.of (renOf [(0, 1)]) [] ⟨?_, ?_, ?_, ?_, trivial⟩ (LeH.of ⟨⟨by omega, .inl ⟨by simp, _, rfl, LeB.eq_of ?_ ?_⟩⟩, trivial⟩ (by simp) (fun b hb => by omega) (by omega) (by simp)), by simp only; omega⟩
    · exact .osl_of rfl (by omega) (by simp [fourB]; omega)
    · exact .free (encW_free _ _)
    · exact .int_of rfl
    · exact .int_of (wrap64_succ hc (show l.length ≤ maxLen by unfold maxLen; omega))
    · simp only
      rw [allB_succ hc, List.take_of_length_le (by simp [rowsB, hlen])]
      simp [rowsB]
    · exact rowsB_free _
  · rename_i hc
    have hc : i = l.length := by simp at hc; omega
    subst hc
    (conv => whnf)
    refine Ends.pure [0] ?_ ?_
    · refine LeV.freeze_of (by simp) rfl ?_ (rowsB_free _) ?_
      · simp [rowsB, allB_len]
      · simp only [List.take_length, List.drop_zero]
        exact List.take_of_length_le (by simp [rowsB, allB_len])
    · intro z hz
      obtain rfl := List.mem_singleton.1 hz
      exact ne_none_of rfl
end Go.Proofs.YtehhligadnlijaaGreatDoor
set_option linter.unusedVariables false
set_option linter.unusedSimpArgs false
namespace Go.Proofs.YtehhligadnlijaaGreatDoor
open Go.RowKit
open Go.Proofs.Tryz (prog)
attribute [local irreducible] CallV RoundV
def attrB (f c : UInt8) (v : List UInt8) : List UInt8 :=
  if 255 < v.length then [f + 16, c, UInt8.ofNat (v.length / 256), UInt8.ofNat (v.length % 256)] ++ v else [f, c, UInt8.ofNat v.length] ++ v
end Go.Proofs.YtehhligadnlijaaGreatDoor
set_option linter.unusedVariables false
set_option linter.unusedSimpArgs false
namespace Go.Proofs.YtehhligadnlijaaGreatDoor
open Go.RowKit
open Go.Proofs.Tryz (prog)
attribute [local irreducible] CallV RoundV
def kindB (p : Leg) : UInt8 := if p.set then 1 else 2
def legB (p : Leg) : List UInt8 := [kindB p, UInt8.ofNat p.ns.length] ++ allB p.ns
def pathB (l : List Leg) : List UInt8 := l.flatMap legB
theorem pathB_succ {l : List Leg} {i : Nat} (h : i < l.length) : pathB (l.take (i + 1)) = pathB (l.take i) ++ legB l[i] := by
  unfold pathB
  rw [List.take_succ_eq_append_getElem h, List.flatMap_append, List.flatMap_cons, List.flatMap_nil, List.append_nil]
theorem legB_len (p : Leg) : (legB p).length = 2 + 4 * p.ns.length := by simp [legB, allB_len]; omega
theorem pathB_len {l : List Leg} (h : ∀ p ∈ l, p.ns.length ≤ 60) : (pathB l).length ≤ 242 * l.length := by
  induction l with
  | nil => simp [pathB]
  | cons p l ih =>
    have e : pathB (p :: l) = legB p ++ pathB l := by unfold pathB; rw [List.flatMap_cons]
    have := ih (fun q hq => h q (by simp [hq]))
    have := h p (by simp)
    rw [e, List.length_append, legB_len, List.length_cons]
    omega
def rawO (a : Attrs) : List UInt8 := attrB 64 1 [a.origin] ++ attrB 64 2 (pathB a.path) ++ attrB 64 3 (fourB a.next) ++ (if a.hasMed then attrB 128 4 (fourB a.med) else []) ++ (if a.hasPref then attrB 64 5 (fourB a.pref) else [])
def rawA (a : Attrs) : List UInt8 := rawO a ++ (if 0 < a.tags.length then attrB 192 8 (allB a.tags) else [])
end Go.Proofs.YtehhligadnlijaaGreatDoor
set_option linter.unusedVariables false
set_option linter.unusedSimpArgs false
namespace Go.Proofs.YtehhligadnlijaaGreatDoor
open Go.RowKit
open Go.Proofs.Tryz (prog)
attribute [local irreducible] CallV RoundV
set_option maxRecDepth 100000 in
set_option maxHeartbeats 2000000 in
theorem route_ok (fr : Bool) (a : Attrs) (hf : fewA a = true) : PCon prog 172 [encA fr a] (encB true (pathB a.path)) := by
  obtain ⟨hp, hpl, htl⟩ := fewA_out hf
  have cell : ∀ {fr0 : Bool} {x : Attrs}, FreeB (.var true 45 (cellsA fr0 x)) := fun {fr0 x} => cellsA_free fr0 x
  refine callV_of (fn := Go.Proofs.Tryz.f172) (body := _) tab_ok mixed rfl rfl (by decide) (by simp [Go.Proofs.Tryz.f172]) ?_
  (conv => whnf)
  intro hl
  have hl : a.path.length ≤ maxLen := by simpa [gd] using hl
  (conv => whnf)
  refine vcg_loop tab_ok mixed (fun i : {i : Nat // i ≤ a.path.length} => ⟨[(2, .osl 1 1 0 (pathB (a.path.take i.1)).length), (7, encLegs fr a.path), (8, cI a.path.length), (9, cI i.1)], [(1, some (.arr true false 5 1 (rowsB (pathB (a.path.take i.1)))))], 2⟩) (fun i => a.path.length - i.1) ⟨0, by omega⟩ ?_ (fun i => ?_)
  · refine Wk.of id [] ⟨?_, ?_, ?_, ?_, trivial⟩ (LeH.of ⟨⟨by omega, .inr ⟨by simp, _, _, _, _, rfl⟩⟩, trivial⟩ (fun _ _ _ _ h => h) (fun _ _ => rfl) (by omega) (by simp))
    · exact .osl0
    · exact .free (encLegs_free _ _)
    · exact .int_of (by simp)
    · exact .int_of rfl
  obtain ⟨i, hi⟩ := i
  (conv => whnf)
  split
  · rename_i hc
    have hc : i < a.path.length := by simpa using hc
    have hpi := hp a.path[i] (List.getElem_mem hc)
    have hpb : (pathB (a.path.take i)).length ≤ 242 * i := by
      have := pathB_len (l := a.path.take i) (fun p hp' => hp p (List.mem_of_mem_take hp'))
      rw [List.length_take, Nat.min_eq_left hi] at this
      exact this
    (conv => whnf)
    refine ⟨rfl, _, ⟨by first | omega | (simp only; omega), idxL hc⟩, ?_⟩
    (conv => whnf)
    split
    case' h_1 => rename_i hk; have hkind : kindB a.path[i] = 1 := by simp [kindB, hk]
    case' h_2 => rename_i hk; have hkind : kindB a.path[i] = 2 := by simp [kindB, hk]
    all_goals
      (conv => whnf)
      refine ⟨rfl, by simp, ⟨rfl, rfl, rfl, rfl, by decide⟩, by simp, ⟨by simp [tab, tabOf, nth]; omega, by simp; omega⟩, ?_⟩
      (conv => whnf)
      refine ⟨encB true (allB a.path[i].ns), [], fun h nx _ => ?_, by simp, ?_⟩
      · refine pureV_pure (all_ok fr a.path[i].ns (by omega)) ?_
        exact ⟨.free (encW_free _ _), trivial⟩
      (conv => whnf)
      refine ⟨⟨rfl, rfl, rfl, rfl, by decide⟩, by simp, ⟨by simp [tab, tabOf, nth, allB_len]; omega, by simp [allB_len]; omega⟩, ?_⟩
      (conv => whnf)
      refine ⟨by kernel_rfl, ?_⟩
      (conv => whnf)
      refine ⟨⟨i + 1, by omega⟩, Wk.of (renOf [(1, 5)]) [] ⟨?_, ?_, ?_, ?_, trivial⟩ (LeH.of ⟨⟨by omega, .inl ⟨by simp, _, rfl, LeB.eq_of ?_ (rowsB_free _)⟩⟩, trivial⟩ (show ∀ b ∈ [1], ∀ b' ∈ [1], renOf [(1, 5)] b = renOf [(1, 5)] b' → b = b' by decide) (fun b hb => by omega) (by omega) (by simp)), by simp only; omega⟩
      · exact .osl_of rfl (by omega) (by simp only; rw [pathB_succ hc, List.length_append, legB_len]; simp [allB_len]; omega)
      · exact .free (encLegs_free _ _)
      · exact .int_of rfl
      · exact .int_of (wrap64_succ hc hl)
      · simp only [List.length_map, u8_nat]
        rw [pathB_succ hc]
        simp [rowsB, legB, hkind, List.take_of_length_le]
  · rename_i hc
    have hc : i = a.path.length := by simp at hc; omega
    subst hc
    (conv => whnf)
    refine Ends.pure [1] (.freezeB (bs := pathB a.path) (by simp) rfl (by simp) (by simp)) (one_none rfl)
set_option maxRecDepth 100000 in
theorem always_ok (fr : Bool) (a : Attrs) : PCon prog 169 [encA fr a] (.bool true) := by
  refine callV_of (fn := Go.Proofs.Tryz.f169) (body := _) tab_ok mixed rfl rfl (by decide) (by simp [Go.Proofs.Tryz.f169]) ?_
  (conv => whnf)
  exact Ends.pure [] (.bool_of rfl) (by simp)
set_option maxRecDepth 100000 in
theorem hasMed_ok (fr : Bool) (a : Attrs) : PCon prog 178 [encA fr a] (.bool a.hasMed) := by
  refine callV_of (fn := Go.Proofs.Tryz.f178) (body := _) tab_ok mixed rfl rfl (by decide) (by simp [Go.Proofs.Tryz.f178]) ?_
  (conv => whnf)
  exact Ends.pure [] (.bool_of rfl) (by simp)
set_option maxRecDepth 100000 in
theorem hasPref_ok (fr : Bool) (a : Attrs) : PCon prog 181 [encA fr a] (.bool a.hasPref) := by
  refine callV_of (fn := Go.Proofs.Tryz.f181) (body := _) tab_ok mixed rfl rfl (by decide) (by simp [Go.Proofs.Tryz.f181]) ?_
  (conv => whnf)
  exact Ends.pure [] (.bool_of rfl) (by simp)
set_option maxRecDepth 100000 in
theorem hasTags_ok (fr : Bool) (a : Attrs) : PCon prog 184 [encA fr a] (.bool (decide (0 < a.tags.length))) := by
  refine callV_of (fn := Go.Proofs.Tryz.f184) (body := _) tab_ok mixed rfl rfl (by decide) (by simp [Go.Proofs.Tryz.f184]) ?_
  (conv => whnf)
  intro _
  (conv => whnf)
  exact Ends.pure [] (.bool_of (by simp)) (by simp)
set_option maxRecDepth 100000 in
theorem vOrigin_ok (fr : Bool) (a : Attrs) : PCon prog 170 [encA fr a] (encB true [a.origin]) := by
  refine callV_of (fn := Go.Proofs.Tryz.f170) (body := _) tab_ok mixed rfl rfl (by decide) (by simp [Go.Proofs.Tryz.f170]) ?_
  (conv => whnf)
  exact Ends.pure [1] (.freezeB (bs := [a.origin]) (by simp) rfl rfl rfl) (one_none rfl)
set_option maxRecDepth 100000 in
theorem vNext_ok (fr : Bool) (a : Attrs) : PCon prog 174 [encA fr a] (encB true (fourB a.next)) := by
  refine callV_of (fn := Go.Proofs.Tryz.f174) (body := _) tab_ok mixed rfl rfl (by decide) (by simp [Go.Proofs.Tryz.f174]) ?_
  (conv => whnf)
  refine callV_pure (high_ok _) ⟨.free .int, .free .int, trivial⟩ ?_
  (conv => whnf)
  exact Ends.pure [] (.free (encB_free _ _)) (by simp)
set_option maxRecDepth 100000 in
theorem vMed_ok (fr : Bool) (a : Attrs) : PCon prog 179 [encA fr a] (encB true (fourB a.med)) := by
  refine callV_of (fn := Go.Proofs.Tryz.f179) (body := _) tab_ok mixed rfl rfl (by decide) (by simp [Go.Proofs.Tryz.f179]) ?_
  (conv => whnf)
  refine callV_pure (high_ok _) ⟨.free .int, .free .int, trivial⟩ ?_
  (conv => whnf)
  exact Ends.pure [] (.free (encB_free _ _)) (by simp)
set_option maxRecDepth 100000 in
theorem vPref_ok (fr : Bool) (a : Attrs) : PCon prog 182 [encA fr a] (encB true (fourB a.pref)) := by
  refine callV_of (fn := Go.Proofs.Tryz.f182) (body := _) tab_ok mixed rfl rfl (by decide) (by simp [Go.Proofs.Tryz.f182]) ?_
  (conv => whnf)
  refine callV_pure (high_ok _) ⟨.free .int, .free .int, trivial⟩ ?_
  (conv => whnf)
  exact Ends.pure [] (.free (encB_free _ _)) (by simp)
set_option maxRecDepth 100000 in
theorem vTags_ok (fr : Bool) (a : Attrs) (hf : fewA a = true) : PCon prog 185 [encA fr a] (encB true (allB a.tags)) := by
  obtain ⟨_, _, htl⟩ := fewA_out hf
  refine callV_of (fn := Go.Proofs.Tryz.f185) (body := _) tab_ok mixed rfl rfl (by decide) (by simp [Go.Proofs.Tryz.f185]) ?_
  (conv => whnf)
  refine callV_pure (all_ok _ _ (by omega)) ⟨.free (encW_free _ _), trivial⟩ ?_
  (conv => whnf)
  exact Ends.pure [] (.free (encB_free _ _)) (by simp)
end Go.Proofs.YtehhligadnlijaaGreatDoor
set_option linter.unusedVariables false
set_option linter.unusedSimpArgs false
namespace Go.Proofs.YtehhligadnlijaaGreatDoor
open Go.RowKit
open Go.Proofs.Tryz (prog)
attribute [local irreducible] CallV RoundV
theorem LeV.fnL {h : Heap} {nx nx' : Nat} {ρ : Nat → Nat} {Z : List Nat} {f : Fn} {fs fs' cs cs' : List V} (h1 : LeL h nx ρ nx' Z fs fs') (h2 : LeL h nx ρ nx' Z cs cs') : LeV h nx ρ nx' Z (.fn f fs cs) (.fn f fs' cs') := fun G w u hr hv => by
  cases hv with
  | fn _ _ _ us ws q1 q2 q3 q4 =>
    have v1 := h1.vrs hr (us := us) ⟨q1, q3⟩
    have v2 := h2.vrs hr (us := ws) ⟨q2, q4⟩
    exact .fn _ _ _ us ws v1.1 v2.1 v1.2 v2.2
theorem LeV.freezePL {h : Heap} {nx nx' : Nat} {ρ : Nat → Nat} {Z : List Nat} {b : Nat} {fr : Bool} {ty : TypeId} {cells cells' : List V} (hz : b ∈ Z) (hb : hget h b = some (.var fr ty cells)) (hl : LeL h nx ρ nx' Z cells cells') :
    LeV h nx ρ nx' Z (.ptr b 0) (.iptr fr cells') := fun G w u hr hv => by
  have hown : Holds G w b fr true ty cells := hr.own b _ hb
  obtain ⟨c', cs, e1, hh, hle, hex, hfr, hcell, _⟩ := hown
  obtain ⟨l1, l2⟩ := hl.out
  cases hv with
  | ptr _ _ c hc =>
    rw [hc] at e1
    obtain rfl : c = c' := Option.some.inj e1
    have at' : ∀ (j : Nat) (v' : V), cells'[j]? = some v' → ∃ v u, cells[j]? = some v ∧ cs[j]? = some u ∧ u.oneCell' = true ∧ vr G w v u := by
      intro j v' hj
      have hlt : j < cells.length := by rw [l1]; exact (List.getElem?_eq_some_iff.1 hj).1
      obtain ⟨u, hu, h1, hv⟩ := hcell j _ (List.getElem?_eq_getElem hlt)
      exact ⟨_, u, List.getElem?_eq_getElem hlt, hu, h1, hv⟩
    refine .iptr fr cells' ⟨c, 0, none⟩ (fun j => cs[j]?.getD undef) rfl (fun j v' hj => ?_) (fun j v' hj => ?_)
    · obtain ⟨v, u, _, hu, h1, _⟩ := at' j v' hj
      exact ⟨by simp [rd, World.cell?, hh, hu], .inr ⟨b, hz, hc⟩, fun hf => ⟨hfr hf, by simp [World.frozen?, hh]⟩, by simp [hu, h1]⟩
    · obtain ⟨v, u, hv, hu, h1, hvr⟩ := at' j v' hj
      simp only [hu, Option.getD_some]
      exact l2 j v v' hv hj G w u hr hvr
abbrev fnV (n : Nat) : V := .fn (.func n) [] []
def fourV (n : Nat) : V := .fn (.func 204) [] [.iptr true [fnV n]]
set_option maxRecDepth 100000 in
theorem four_ok (n : Nat) : PCon prog 176 [fnV n] (fourV n) := by
  refine callV_of (fn := Go.Proofs.Tryz.f176) (body := _) tab_ok mixed rfl rfl (by decide) (by simp [Go.Proofs.Tryz.f176]) ?_
  (conv => whnf)
  refine Ends.pure [0] (.fnL trivial ⟨.freezePL (by simp) rfl ⟨.free (.fn (by simp) (by simp)), trivial⟩, trivial⟩) (one_none rfl)
theorem fourV_free (n : Nat) : Free (fourV n) := .fn (by simp) (by
  intro v hv
  simp at hv; subst hv
  refine .iptr ?_
  intro v hv
  simp at hv; subst hv
  exact .fn (by simp) (by simp))
def attrRows : List (List V) := [
  [.int .u8 1, .int .u8 64, fnV 169, fnV 170, fnV 171],
  [.int .u8 2, .int .u8 64, fnV 169, fnV 172, fnV 173],
  [.int .u8 3, .int .u8 64, fnV 169, fnV 174, fourV 177],
  [.int .u8 4, .int .u8 128, fnV 178, fnV 179, fourV 180],
  [.int .u8 5, .int .u8 64, fnV 181, fnV 182, fourV 183],
  [.int .u8 8, .int .u8 192, fnV 184, fnV 185, fnV 187]]
theorem fnV_free (n : Nat) : Free (fnV n) := .fn (by simp) (by simp)
theorem attrRows_free : ∀ x ∈ attrRows, ∀ v ∈ x, Free v := by
  intro x hx v hv
  simp only [attrRows, List.mem_cons, List.not_mem_nil, or_false] at hx
  rcases hx with rfl | rfl | rfl | rfl | rfl | rfl <;>
    (simp only [List.mem_cons, List.not_mem_nil, or_false] at hv; rcases hv with rfl | rfl | rfl | rfl | rfl <;> first | exact .int | exact fnV_free _ | exact fourV_free _)
def attributesV : V := .fn (.func 203) [] [.iptr true [.sl true 5 attrRows]]
set_option maxRecDepth 100000 in
theorem attributes_ok : PCon prog 129 [] attributesV := by
  refine callV_of (fn := Go.Proofs.Tryz.f129) (body := _) tab_ok mixed rfl rfl (by decide) (by simp [Go.Proofs.Tryz.f129]) ?_
  (conv => whnf)
  refine callV_pure (four_ok _) ⟨.free (fnV_free _), trivial⟩ ?_
  (conv => whnf)
  refine callV_pure (four_ok _) ⟨.free (fnV_free _), trivial⟩ ?_
  (conv => whnf)
  refine callV_pure (four_ok _) ⟨.free (fnV_free _), trivial⟩ ?_
  (conv => whnf)
  refine callV_of (fn := Go.Proofs.Tryz.f168) (body := _) tab_ok mixed rfl rfl (by decide) (by simp [Go.Proofs.Tryz.f168]) ?_
  (conv => whnf)
  refine ⟨_, _, _, Ends.here, ?_⟩
  (conv => whnf)
  refine Ends.pure [0, 1] (.fnL trivial ⟨.freezePL (by simp) rfl ⟨LeV.freeze_of (by simp) rfl (by simp) attrRows_free rfl, trivial⟩, trivial⟩) ?_
  intro z hz
  rcases List.mem_cons.1 hz with rfl | hz
  · exact ne_none_of rfl
  · exact one_none rfl z hz
end Go.Proofs.YtehhligadnlijaaGreatDoor
set_option linter.unusedVariables false
set_option linter.unusedSimpArgs false
namespace Go.Proofs.YtehhligadnlijaaGreatDoor
open Go.RowKit
open Go.Proofs.Tryz (prog)
attribute [local irreducible] CallV RoundV
def twoB (n : Nat) : List UInt8 := [UInt8.ofNat (n / 256), UInt8.ofNat n]
def twoRows (n : Nat) : Nat → List (List V)
  | 0 => [[.int .u8 0], [.int .u8 0]]
  | 1 => [[.int .u8 0], [cB (UInt8.ofNat n)]]
  | _ => [[cB (UInt8.ofNat (n / 256))], [cB (UInt8.ofNat n)]]
def shrI (n : Nat) : Nat → Int
  | 0 => n
  | 1 => (n / 256 : Nat)
  | _ => (n / 65536 : Nat)
theorem twoRows_free (n : Nat) (k : Nat) : ∀ r ∈ twoRows n k, ∀ v ∈ r, Free v := by
  intro r hr v hv
  unfold twoRows at hr
  split at hr <;> (simp at hr; rcases hr with rfl | rfl <;> (simp at hv; subst hv; exact .int))
theorem shI_step (n : Nat) {m : Nat} (h : m = n / 256) (hn : n < 65536) : IntKind.i64.wrap ((IntKind.u64.wrap (n : Int)).fdiv (2 ^ (min (Int.toNat 8) IntKind.u64.bits))) = (m : Int) := by
  have h1 : IntKind.u64.wrap (n : Int) = n := by rw [wrapu64]; omega
  have e : (2 : Int) ^ (min (Int.toNat 8) IntKind.u64.bits) = 256 := by decide
  rw [h1, e, h, Int.fdiv_eq_ediv_of_nonneg _ (by decide), wrap64 (by omega) (by omega)]
  omega
set_option maxRecDepth 100000 in
theorem highI_ok (n : Nat) (hn : n < 65536) : PCon prog 130 [cI n, .int .i64 2] (encB true (twoB n)) := by
  refine callV_of (fn := Go.Proofs.Tryz.f130) (body := _) tab_ok mixed rfl rfl (by decide) (by simp [Go.Proofs.Tryz.f130]) ?_
  (conv => whnf)
  refine ⟨⟨by omega, by omega, by simp [tab, tabOf, nth], by omega⟩, ?_⟩
  (conv => whnf)
  refine callV_of (fn := Go.Proofs.Tryz.f82) (body := _) tab_ok mixed rfl rfl (by decide) (by simp [Go.Proofs.Tryz.f82]) ?_
  (conv => whnf)
  refine ⟨_, _, _, Ends.here, ?_⟩
  (conv => whnf)
  refine callV_loop [(2, .ptr 0 0), (5, .ptr 2 0)] ⟨rfl, rfl, trivial⟩ fun asg' body' hasg hbody => ?_
  refine callV_of (fn := Go.Proofs.Tryz.f122) (body := _) tab_ok mixed rfl rfl (by decide) (by simp [Go.Proofs.Tryz.f122]) ?_
  (conv => whnf)
  intro _
  (conv => whnf)
  refine vcg_loop tab_ok mixed (fun k : {k : Nat // k ≤ 2} => ⟨[(0, .yld 4), (1, .ptr 3 0), (3, .int .i64 (1 - k.1))], [(4, some (.loop 23 [(2, .ptr 0 0), (5, .ptr 2 0)] [11, 12] asg' body' .ready none)), (0, some (.var true 3 [.int .i64 (shrI n k.1)])), (1, some (.arr true true 5 1 (twoRows n k.1))), (2, some (.var true 50 [.osl 1 1 0 2])), (3, some (.var true 50 [.osl 1 1 0 2]))], 5⟩) (fun k => 2 - k.1) ⟨0, by omega⟩ ?_ (fun k => ?_)
  · refine Wk.of id [] ⟨?_, ?_, ?_, trivial⟩ (LeH.of ⟨⟨by omega, .inl ⟨by simp, _, rfl, ?_⟩⟩, ⟨by omega, .inl ⟨by simp, _, rfl, ?_⟩⟩, ⟨by omega, .inl ⟨by simp, _, rfl, ?_⟩⟩, ⟨by omega, .inl ⟨by simp, _, rfl, ?_⟩⟩, ⟨by omega, .inl ⟨by simp, _, rfl, ?_⟩⟩, trivial⟩ (fun _ _ _ _ h => h) (fun _ _ => rfl) (by omega) (by simp))
    · exact .yld rfl (by omega)
    · exact .ptr rfl (by omega)
    · exact .int_of rfl
    · exact ⟨rfl, rfl, rfl, rfl, rfl, rfl, .ptr rfl (by omega), .ptr rfl (by omega), trivial⟩
    · exact ⟨id, rfl, .int_of rfl, trivial⟩
    · exact LeB.free (blk := .arr true true 5 1 (twoRows n 0)) (twoRows_free n 0)
    · exact ⟨id, rfl, .osl_of rfl (by omega) rfl, trivial⟩
    · exact ⟨id, rfl, .osl_of rfl (by omega) rfl, trivial⟩
  obtain ⟨k, hk⟩ := k
  rcases k with _ | _ | _ | k
  case succ.succ.succ => omega
  case succ.succ.zero =>
    (conv => whnf)
    refine ⟨_, _, _, Ends.here, ?_⟩
    (conv => whnf)
    refine Ends.pure [1] ?_ ?_
    · refine LeV.freeze_of (by simp) rfl (by simp [twoRows]) (twoRows_free n 2) ?_
      simp [twoRows, twoB]
    · intro z hz
      obtain rfl := List.mem_singleton.1 hz
      exact ne_none_of rfl
  · (conv => whnf)
    refine ⟨rfl, ⟨by simp, by simp⟩, ?_⟩
    (conv => whnf)
    refine ⟨rfl, _, rfl, ?_⟩
    (conv => whnf)
    subst hasg hbody
    refine roundV_of tab_ok mixed rfl (by simp) (show 4 < 5 by omega) ?_
    (conv => whnf)
    refine ⟨rfl, ?_⟩
    (conv => whnf)
    refine ⟨rfl, ⟨by simp, by simp⟩, ?_⟩
    (conv => whnf)
    refine ⟨rfl, _, rfl, ?_⟩
    (conv => whnf)
    refine ⟨by decide, ?_⟩
    (conv => whnf)
    refine ⟨rfl, ?_⟩
    (conv => whnf)
    refine ⟨⟨1, by omega⟩, Wk.of id [] ⟨.yld rfl (by omega), .ptr rfl (by omega), .int_of ?_, trivial⟩ (LeH.of ⟨⟨by omega, .inl ⟨by simp, _, rfl, rfl, rfl, rfl, rfl, rfl, rfl, .ptr rfl (by omega), .ptr rfl (by omega), trivial⟩⟩, ⟨by omega, .inl ⟨by simp, _, rfl, id, rfl, .int_of ?_, trivial⟩⟩, ⟨by omega, .inl ⟨by simp, _, rfl, LeB.eq_of ?_ (twoRows_free n 1)⟩⟩, ⟨by omega, .inl ⟨by simp, _, rfl, id, rfl, .osl_of rfl (by omega) rfl, trivial⟩⟩, ⟨by omega, .inl ⟨by simp, _, rfl, id, rfl, .osl_of rfl (by omega) rfl, trivial⟩⟩, trivial⟩ (fun _ _ _ _ h => h) (fun _ _ => rfl) (by omega) (by simp)), ?_⟩
    · simp [wrap64']
    · exact shI_step _ (by simp [Nat.div_div_eq_div_mul]) (by omega)
    · simp [twoRows, shrI, cB, wrap8]
    · simp
  · (conv => whnf)
    refine ⟨rfl, ⟨by simp, by simp⟩, ?_⟩
    (conv => whnf)
    refine ⟨rfl, _, rfl, ?_⟩
    (conv => whnf)
    subst hasg hbody
    refine roundV_of tab_ok mixed rfl (by simp) (show 4 < 5 by omega) ?_
    (conv => whnf)
    refine ⟨rfl, ?_⟩
    (conv => whnf)
    refine ⟨rfl, ⟨by simp, by simp⟩, ?_⟩
    (conv => whnf)
    refine ⟨rfl, _, rfl, ?_⟩
    (conv => whnf)
    refine ⟨by decide, ?_⟩
    (conv => whnf)
    refine ⟨rfl, ?_⟩
    (conv => whnf)
    refine ⟨⟨2, by omega⟩, Wk.of id [] ⟨.yld rfl (by omega), .ptr rfl (by omega), .int_of ?_, trivial⟩ (LeH.of ⟨⟨by omega, .inl ⟨by simp, _, rfl, rfl, rfl, rfl, rfl, rfl, rfl, .ptr rfl (by omega), .ptr rfl (by omega), trivial⟩⟩, ⟨by omega, .inl ⟨by simp, _, rfl, id, rfl, .int_of ?_, trivial⟩⟩, ⟨by omega, .inl ⟨by simp, _, rfl, LeB.eq_of ?_ (twoRows_free n 2)⟩⟩, ⟨by omega, .inl ⟨by simp, _, rfl, id, rfl, .osl_of rfl (by omega) rfl, trivial⟩⟩, ⟨by omega, .inl ⟨by simp, _, rfl, id, rfl, .osl_of rfl (by omega) rfl, trivial⟩⟩, trivial⟩ (fun _ _ _ _ h => h) (fun _ _ => rfl) (by omega) (by simp)), ?_⟩
    · simp [wrap64']
    · exact shI_step _ (by simp [Nat.div_div_eq_div_mul]) (by omega)
    · simp [twoRows, shrI, cB, wrap8]
    · simp
end Go.Proofs.YtehhligadnlijaaGreatDoor
set_option linter.unusedVariables false
set_option linter.unusedSimpArgs false
namespace Go.Proofs.YtehhligadnlijaaGreatDoor
open Go.RowKit
open Go.Proofs.Tryz (prog)
attribute [local irreducible] CallV RoundV
theorem LeV.snil_sl {h : Heap} {nx nx' : Nat} {ρ : Nat → Nat} {Z : List Nat} {fr : Bool} {sz : Nat} : LeV h nx ρ nx' Z .snil (.sl fr sz []) := fun G w u hr hv => by
  cases hv with
  | snil A => exact .sl fr sz [] A 0 (fun _ => undef) (Nat.le_refl _) (Nat.zero_le _) (fun h => absurd rfl h) (by simp) (by simp) (by simp)
def attrX (f c : UInt8) (v : List UInt8) : List UInt8 := (if 255 < v.length then [f + 16, c] ++ twoB v.length else [f, c, UInt8.ofNat v.length]) ++ v
def part (a : Attrs) : Nat → List UInt8
  | 0 => attrX 64 1 [a.origin]
  | 1 => attrX 64 2 (pathB a.path)
  | 2 => attrX 64 3 (fourB a.next)
  | 3 => if a.hasMed then attrX 128 4 (fourB a.med) else []
  | 4 => if a.hasPref then attrX 64 5 (fourB a.pref) else []
  | _ => if 0 < a.tags.length then attrX 192 8 (allB a.tags) else []
def rawP (a : Attrs) : Nat → List UInt8
  | 0 => []
  | k + 1 => rawP a k ++ part a k
def rawE (a : Attrs) : V := .tup [encB true (if rightA a then rawP a 6 else []), .int .i64 (checkA a)]
theorem rawE_no {a : Attrs} (h : rightA a = false) : rawE a = .tup [encB true [], .int .i64 2] := by simp [rawE, h, checkA]
theorem rawE_yes {a : Attrs} (h : rightA a = true) : rawE a = .tup [encB true (rawP a 6), .int .i64 0] := by simp [rawE, h, checkA]
set_option maxRecDepth 100000 in
set_option maxHeartbeats 4000000 in
theorem raw_ok (fr : Bool) (a : Attrs) (hf : fewA a = true) : PCon prog 91 [encA fr a] (rawE a) := by
  obtain ⟨hp, hpl, htl⟩ := fewA_out hf
  have cell : ∀ {fr0 : Bool} {x : Attrs}, FreeB (.var true 45 (cellsA fr0 x)) := fun {fr0 x} => cellsA_free fr0 x
  have f4 : ∀ x, (fourB x).length = 4 := fun _ => rfl
  have hbd : ∀ n : Nat, n ≤ 20000 → n * (tab 5).bytes ≤ 140737488355328 ∧ n ≤ 140737488355328 := fun n h => ⟨by simp [tab, tabOf, nth]; omega, by omega⟩
  have hpb := pathB_len hp
  have ax : ∀ {f c : UInt8} {v : List UInt8}, (attrX f c v).length ≤ 4 + v.length := fun {f c v} => by unfold attrX; split <;> simp [twoB] <;> omega
  have h4 : ∀ {b : Bool} {f c : UInt8} {x : UInt32}, (if b = true then attrX f c (fourB x) else []).length ≤ 8 := fun {b f c x} => by
    have := ax (f := f) (c := c) (v := fourB x)
    rw [f4] at this
    split <;> first | omega | simp
  have hT : (if 0 < a.tags.length then attrX 192 8 (allB a.tags) else []).length ≤ 4 + 4 * a.tags.length := by
    have := ax (f := 192) (c := 8) (v := allB a.tags)
    rw [allB_len] at this
    split <;> first | omega | simp
  have p0 : (rawP a 0).length = 0 := rfl
  have p1 : (rawP a 1).length = (rawP a 0).length + (attrX 64 1 [a.origin]).length := by show (rawP a 0 ++ part a 0).length = _; rw [List.length_append]; rfl
  have p2 : (rawP a 2).length = (rawP a 1).length + (attrX 64 2 (pathB a.path)).length := by show (rawP a 1 ++ part a 1).length = _; rw [List.length_append]; rfl
  have p3 : (rawP a 3).length = (rawP a 2).length + (attrX 64 3 (fourB a.next)).length := by show (rawP a 2 ++ part a 2).length = _; rw [List.length_append]; rfl
  have p4 : (rawP a 4).length = (rawP a 3).length + (if a.hasMed then attrX 128 4 (fourB a.med) else []).length := by show (rawP a 3 ++ part a 3).length = _; rw [List.length_append]; rfl
  have p5 : (rawP a 5).length = (rawP a 4).length + (if a.hasPref then attrX 64 5 (fourB a.pref) else []).length := by show (rawP a 4 ++ part a 4).length = _; rw [List.length_append]; rfl
  have a1 := ax (f := 64) (c := 1) (v := [a.origin])
  have a2 := ax (f := 64) (c := 2) (v := pathB a.path)
  have a3 := ax (f := 64) (c := 3) (v := fourB a.next)
  rw [f4] at a3
  have a4 := h4 (b := a.hasMed) (f := 128) (c := 4) (x := a.med)
  have a5 := h4 (b := a.hasPref) (f := 64) (c := 5) (x := a.pref)
  have hP : ∀ k, k ≤ 5 → (rawP a k).length ≤ 5000 := by
    intro k hk
    simp only [List.length_cons, List.length_nil] at a1
    rcases k with _ | _ | _ | _ | _ | _ | k <;> first | omega | (simp only [Nat.zero_add, Nat.reduceAdd]; omega)
  have or80 : bits BinOp.or IntKind.u8 64 16 = 80 := by decide
  have hP0 := hP 0 (by omega)
  have hP1 := hP 1 (by omega)
  have hP2 := hP 2 (by omega)
  have hP3 := hP 3 (by omega)
  have hP4 := hP 4 (by omega)
  have hP5 := hP 5 (by omega)
  clear p0 p1 p2 p3 p4 p5 a1 a2 a3 a4 a5 hT h4 hP
  cases hright : rightA a with
  | false =>
    rw [rawE_no hright]
    refine callV_of (fn := Go.Proofs.Tryz.f91) (body := _) tab_ok mixed rfl rfl (by decide) (by simp [Go.Proofs.Tryz.f91]) ?_
    (conv => whnf)
    refine callV_pure (check_ok fr a) ⟨.free (encA_free _ _), trivial⟩ ?_
    rw [checkA_no hright]
    (conv => whnf)
    exact Ends.pure [] (.tupL ⟨.snil_sl, .int_of rfl, trivial⟩) (by simp)
  | true =>
    rw [rawE_yes hright]
    refine callV_of (fn := Go.Proofs.Tryz.f91) (body := _) tab_ok mixed rfl rfl (by decide) (by simp [Go.Proofs.Tryz.f91]) ?_
    (conv => whnf)
    refine callV_pure (check_ok fr a) ⟨.free (encA_free _ _), trivial⟩ ?_
    rw [checkA_yes hright]
    (conv => whnf)
    refine callV_pure attributes_ok trivial ?_
    (conv => whnf)
    refine callV_loop [(1, .ptr 0 0), (2, .ptr 1 0)] ⟨rfl, rfl, trivial⟩ fun asg' body' hasg hbody => ?_
    refine callV_of (fn := Go.Proofs.Tryz.f203) (body := _) tab_ok mixed rfl rfl (by decide) (by simp [Go.Proofs.Tryz.f203]) ?_
    (conv => whnf)
    intro _
    (conv => whnf)
    refine vcg_loop tab_ok mixed (fun k : {k : Nat // k ≤ 6} => ⟨[(0, .yld 2), (5, .sl true 5 attrRows), (6, cI 6), (7, cI k.1)], [(2, some (.loop 52 [(1, .ptr 0 0), (2, .ptr 1 0)] [13] asg' body' .ready none)), (0, some (.var true 45 (cellsA fr a))), (1, some (.var true 50 [.osl 3 1 0 (rawP a k.1).length])), (3, some (.arr true false 5 1 (rowsB (rawP a k.1))))], 4⟩) (fun k => 6 - k.1) ⟨0, by omega⟩ ?_ (fun k => ?_)
    · refine Wk.of id [] ⟨.yld rfl (by omega), ?_, .int_of rfl, .int_of rfl, trivial⟩ (LeH.of ⟨⟨by omega, .inl ⟨by simp, _, rfl, rfl, rfl, rfl, rfl, rfl, rfl, .ptr rfl (by omega), .ptr rfl (by omega), trivial⟩⟩, ⟨by omega, .inl ⟨by simp, _, rfl, LeB.free cell⟩⟩, ⟨by omega, .inl ⟨by simp, _, rfl, id, rfl, .osl0, trivial⟩⟩, ⟨by omega, .inr ⟨by simp, _, _, _, _, rfl⟩⟩, trivial⟩ (fun _ _ _ _ h => h) (fun _ _ => rfl) (by omega) (by simp))
      exact .free (.sl attrRows_free)
    obtain ⟨k, hk⟩ := k
    rcases k with _ | _ | _ | _ | _ | _ | _ | k
    case succ.succ.succ.succ.succ.succ.succ => omega
    case succ.succ.succ.succ.succ.succ.zero =>
      (conv => whnf)
      refine ⟨_, _, _, Ends.here, ?_⟩
      (conv => whnf)
      exact Ends.pure [3] (.tupL ⟨.freezeB (bs := rawP a 6) (by simp) rfl rfl rfl, .int_of rfl, trivial⟩) (one_none rfl)
    case zero =>
      (conv => whnf)
      refine ⟨rfl, _, ⟨by simp, rfl⟩, ?_⟩
      (conv => whnf)
      subst hasg hbody
      refine roundV_of tab_ok mixed rfl (by simp) (show 2 < 5 by omega) ?_
      (conv => whnf)
      refine ⟨rfl, ?_⟩
      (conv => whnf)
      refine callV_pure (always_ok fr a) ⟨.free (encA_free _ _), trivial⟩ ?_
      (conv => whnf)
      (conv => whnf)
      refine callV_pure (vOrigin_ok fr a) ⟨.free (encA_free _ _), trivial⟩ ?_
      (conv => whnf)
      refine fun (_ : gd none _) => ?_
      (conv => whnf)
      refine fun (_ : gd none _) => ?_
      (conv => whnf)
      refine ⟨rfl, by simp, ⟨rfl, rfl, rfl, rfl, by decide⟩, by simp, hbd _ (by simp; omega), ?_⟩
      (conv => whnf)
      refine ⟨⟨rfl, rfl, rfl, rfl, by decide⟩, by simp, hbd _ (by simp [rawP]; try omega), ?_⟩
      (conv => whnf)
      refine ⟨rfl, ?_⟩
      (conv => whnf)
      refine ⟨⟨1, by omega⟩, Wk.of (renOf [(3, 8)]) [] ⟨.yld rfl (by omega), ?_, .int_of rfl, .int_of ?_, trivial⟩ (LeH.of ⟨⟨by omega, .inl ⟨by simp, _, rfl, rfl, rfl, rfl, rfl, rfl, rfl, .ptr rfl (by omega), .ptr rfl (by omega), trivial⟩⟩, ⟨by omega, .inl ⟨by simp, _, rfl, LeB.free cell⟩⟩, ⟨by omega, .inl ⟨by simp, _, rfl, id, rfl, .osl_of rfl (by omega) ?_, trivial⟩⟩, ⟨by omega, .inl ⟨by simp, _, rfl, LeB.eq_of ?_ (rowsB_free _)⟩⟩, trivial⟩ (show ∀ b ∈ [2, 0, 1, 3], ∀ b' ∈ [2, 0, 1, 3], renOf [(3, 8)] b = renOf [(3, 8)] b' → b = b' by decide) (show ∀ b, b < 3 → renOf [(3, 8)] b = b by decide) (by omega) (by simp)), by simp⟩
      · exact .free (.sl attrRows_free)
      · simp [wrap64']
      · (simp [rawP, part, attrX, cell, rawP, Nat.add_assoc]; try omega)
      · simp [rawP, part, attrX, rowsB, u8_nat, wrap8, cell, rawP, Nat.add_assoc, List.take_of_length_le]
    case succ.succ.zero =>
      (conv => whnf)
      refine ⟨rfl, _, ⟨by simp, rfl⟩, ?_⟩
      (conv => whnf)
      subst hasg hbody
      refine roundV_of tab_ok mixed rfl (by simp) (show 2 < 5 by omega) ?_
      (conv => whnf)
      refine ⟨rfl, ?_⟩
      (conv => whnf)
      refine callV_pure (always_ok fr a) ⟨.free (encA_free _ _), trivial⟩ ?_
      (conv => whnf)
      (conv => whnf)
      refine callV_pure (vNext_ok fr a) ⟨.free (encA_free _ _), trivial⟩ ?_
      (conv => whnf)
      refine fun (_ : gd none _) => ?_
      (conv => whnf)
      refine fun (_ : gd none _) => ?_
      (conv => whnf)
      refine ⟨rfl, by simp, ⟨rfl, rfl, rfl, rfl, by decide⟩, by simp, hbd _ (by simp; omega), ?_⟩
      (conv => whnf)
      refine ⟨⟨rfl, rfl, rfl, rfl, by decide⟩, by simp, hbd _ (by simp [f4]; try omega), ?_⟩
      (conv => whnf)
      refine ⟨rfl, ?_⟩
      (conv => whnf)
      refine ⟨⟨3, by omega⟩, Wk.of (renOf [(3, 8)]) [] ⟨.yld rfl (by omega), ?_, .int_of rfl, .int_of ?_, trivial⟩ (LeH.of ⟨⟨by omega, .inl ⟨by simp, _, rfl, rfl, rfl, rfl, rfl, rfl, rfl, .ptr rfl (by omega), .ptr rfl (by omega), trivial⟩⟩, ⟨by omega, .inl ⟨by simp, _, rfl, LeB.free cell⟩⟩, ⟨by omega, .inl ⟨by simp, _, rfl, id, rfl, .osl_of rfl (by omega) ?_, trivial⟩⟩, ⟨by omega, .inl ⟨by simp, _, rfl, LeB.eq_of ?_ (rowsB_free _)⟩⟩, trivial⟩ (show ∀ b ∈ [2, 0, 1, 3], ∀ b' ∈ [2, 0, 1, 3], renOf [(3, 8)] b = renOf [(3, 8)] b' → b = b' by decide) (show ∀ b, b < 3 → renOf [(3, 8)] b = b by decide) (by omega) (by simp)), by simp⟩
      · exact .free (.sl attrRows_free)
      · simp [wrap64']
      · (simp [rawP, part, attrX, cell, f4, Nat.add_assoc]; try omega)
      · simp [rawP, part, attrX, rowsB, u8_nat, wrap8, cell, f4, Nat.add_assoc, List.take_of_length_le]
    case succ.succ.succ.zero =>
      (conv => whnf)
      refine ⟨rfl, _, ⟨by simp, rfl⟩, ?_⟩
      (conv => whnf)
      subst hasg hbody
      refine roundV_of tab_ok mixed rfl (by simp) (show 2 < 5 by omega) ?_
      (conv => whnf)
      refine ⟨rfl, ?_⟩
      (conv => whnf)
      refine callV_pure (hasMed_ok fr a) ⟨.free (encA_free _ _), trivial⟩ ?_
      (conv => whnf)
      split
      · rename_i h
        have h : a.hasMed = false := by simpa using h
        (conv => whnf)
        refine ⟨rfl, ?_⟩
        (conv => whnf)
        refine ⟨⟨4, by omega⟩, Wk.of (renOf [(3, 3)]) [] ⟨.yld rfl (by omega), ?_, .int_of rfl, .int_of ?_, trivial⟩ (LeH.of ⟨⟨by omega, .inl ⟨by simp, _, rfl, rfl, rfl, rfl, rfl, rfl, rfl, .ptr rfl (by omega), .ptr rfl (by omega), trivial⟩⟩, ⟨by omega, .inl ⟨by simp, _, rfl, LeB.free cell⟩⟩, ⟨by omega, .inl ⟨by simp, _, rfl, id, rfl, .osl_of rfl (by omega) ?_, trivial⟩⟩, ⟨by omega, .inl ⟨by simp, _, rfl, LeB.eq_of ?_ (rowsB_free _)⟩⟩, trivial⟩ (show ∀ b ∈ [2, 0, 1, 3], ∀ b' ∈ [2, 0, 1, 3], renOf [(3, 3)] b = renOf [(3, 3)] b' → b = b' by decide) (show ∀ b, b < 3 → renOf [(3, 3)] b = b by decide) (by omega) (by simp)), by simp⟩
        · exact .free (.sl attrRows_free)
        · simp [wrap64']
        · (simp [rawP, part, attrX, h, cell, Nat.add_assoc]; try omega)
        · simp [rawP, part, attrX, rowsB, u8_nat, wrap8, h, cell, Nat.add_assoc, List.take_of_length_le]
      · rename_i h
        have h : a.hasMed = true := by simpa using h
        (conv => whnf)
        refine callV_pure (vMed_ok fr a) ⟨.free (encA_free _ _), trivial⟩ ?_
        (conv => whnf)
        refine fun (_ : gd none _) => ?_
        (conv => whnf)
        refine fun (_ : gd none _) => ?_
        (conv => whnf)
        refine ⟨rfl, by simp, ⟨rfl, rfl, rfl, rfl, by decide⟩, by simp, hbd _ (by simp; omega), ?_⟩
        (conv => whnf)
        refine ⟨⟨rfl, rfl, rfl, rfl, by decide⟩, by simp, hbd _ (by simp [f4]; try omega), ?_⟩
        (conv => whnf)
        refine ⟨rfl, ?_⟩
        (conv => whnf)
        refine ⟨⟨4, by omega⟩, Wk.of (renOf [(3, 8)]) [] ⟨.yld rfl (by omega), ?_, .int_of rfl, .int_of ?_, trivial⟩ (LeH.of ⟨⟨by omega, .inl ⟨by simp, _, rfl, rfl, rfl, rfl, rfl, rfl, rfl, .ptr rfl (by omega), .ptr rfl (by omega), trivial⟩⟩, ⟨by omega, .inl ⟨by simp, _, rfl, LeB.free cell⟩⟩, ⟨by omega, .inl ⟨by simp, _, rfl, id, rfl, .osl_of rfl (by omega) ?_, trivial⟩⟩, ⟨by omega, .inl ⟨by simp, _, rfl, LeB.eq_of ?_ (rowsB_free _)⟩⟩, trivial⟩ (show ∀ b ∈ [2, 0, 1, 3], ∀ b' ∈ [2, 0, 1, 3], renOf [(3, 8)] b = renOf [(3, 8)] b' → b = b' by decide) (show ∀ b, b < 3 → renOf [(3, 8)] b = b by decide) (by omega) (by simp)), by simp⟩
        · exact .free (.sl attrRows_free)
        · simp [wrap64']
        · (simp [rawP, part, attrX, h, f4, Nat.add_assoc]; try omega)
        · simp [rawP, part, attrX, rowsB, u8_nat, wrap8, h, f4, Nat.add_assoc, List.take_of_length_le]
    case succ.succ.succ.succ.zero =>
      (conv => whnf)
      refine ⟨rfl, _, ⟨by simp, rfl⟩, ?_⟩
      (conv => whnf)
      subst hasg hbody
      refine roundV_of tab_ok mixed rfl (by simp) (show 2 < 5 by omega) ?_
      (conv => whnf)
      refine ⟨rfl, ?_⟩
      (conv => whnf)
      refine callV_pure (hasPref_ok fr a) ⟨.free (encA_free _ _), trivial⟩ ?_
      (conv => whnf)
      split
      · rename_i h
        have h : a.hasPref = false := by simpa using h
        (conv => whnf)
        refine ⟨rfl, ?_⟩
        (conv => whnf)
        refine ⟨⟨5, by omega⟩, Wk.of (renOf [(3, 3)]) [] ⟨.yld rfl (by omega), ?_, .int_of rfl, .int_of ?_, trivial⟩ (LeH.of ⟨⟨by omega, .inl ⟨by simp, _, rfl, rfl, rfl, rfl, rfl, rfl, rfl, .ptr rfl (by omega), .ptr rfl (by omega), trivial⟩⟩, ⟨by omega, .inl ⟨by simp, _, rfl, LeB.free cell⟩⟩, ⟨by omega, .inl ⟨by simp, _, rfl, id, rfl, .osl_of rfl (by omega) ?_, trivial⟩⟩, ⟨by omega, .inl ⟨by simp, _, rfl, LeB.eq_of ?_ (rowsB_free _)⟩⟩, trivial⟩ (show ∀ b ∈ [2, 0, 1, 3], ∀ b' ∈ [2, 0, 1, 3], renOf [(3, 3)] b = renOf [(3, 3)] b' → b = b' by decide) (show ∀ b, b < 3 → renOf [(3, 3)] b = b by decide) (by omega) (by simp)), by simp⟩
        · exact .free (.sl attrRows_free)
        · simp [wrap64']
        · (simp [rawP, part, attrX, h, cell, Nat.add_assoc]; try omega)
        · simp [rawP, part, attrX, rowsB, u8_nat, wrap8, h, cell, Nat.add_assoc, List.take_of_length_le]
      · rename_i h
        have h : a.hasPref = true := by simpa using h
        (conv => whnf)
        refine callV_pure (vPref_ok fr a) ⟨.free (encA_free _ _), trivial⟩ ?_
        (conv => whnf)
        refine fun (_ : gd none _) => ?_
        (conv => whnf)
        refine fun (_ : gd none _) => ?_
        (conv => whnf)
        refine ⟨rfl, by simp, ⟨rfl, rfl, rfl, rfl, by decide⟩, by simp, hbd _ (by simp; omega), ?_⟩
        (conv => whnf)
        refine ⟨⟨rfl, rfl, rfl, rfl, by decide⟩, by simp, hbd _ (by simp [f4]; try omega), ?_⟩
        (conv => whnf)
        refine ⟨rfl, ?_⟩
        (conv => whnf)
        refine ⟨⟨5, by omega⟩, Wk.of (renOf [(3, 8)]) [] ⟨.yld rfl (by omega), ?_, .int_of rfl, .int_of ?_, trivial⟩ (LeH.of ⟨⟨by omega, .inl ⟨by simp, _, rfl, rfl, rfl, rfl, rfl, rfl, rfl, .ptr rfl (by omega), .ptr rfl (by omega), trivial⟩⟩, ⟨by omega, .inl ⟨by simp, _, rfl, LeB.free cell⟩⟩, ⟨by omega, .inl ⟨by simp, _, rfl, id, rfl, .osl_of rfl (by omega) ?_, trivial⟩⟩, ⟨by omega, .inl ⟨by simp, _, rfl, LeB.eq_of ?_ (rowsB_free _)⟩⟩, trivial⟩ (show ∀ b ∈ [2, 0, 1, 3], ∀ b' ∈ [2, 0, 1, 3], renOf [(3, 8)] b = renOf [(3, 8)] b' → b = b' by decide) (show ∀ b, b < 3 → renOf [(3, 8)] b = b by decide) (by omega) (by simp)), by simp⟩
        · exact .free (.sl attrRows_free)
        · simp [wrap64']
        · (simp [rawP, part, attrX, h, f4, Nat.add_assoc]; try omega)
        · simp [rawP, part, attrX, rowsB, u8_nat, wrap8, h, f4, Nat.add_assoc, List.take_of_length_le]
    case succ.succ.succ.succ.succ.zero =>
      (conv => whnf)
      refine ⟨rfl, _, ⟨by simp, rfl⟩, ?_⟩
      (conv => whnf)
      subst hasg hbody
      refine roundV_of tab_ok mixed rfl (by simp) (show 2 < 5 by omega) ?_
      (conv => whnf)
      refine ⟨rfl, ?_⟩
      (conv => whnf)
      refine callV_pure (hasTags_ok fr a) ⟨.free (encA_free _ _), trivial⟩ ?_
      (conv => whnf)
      split
      · rename_i h
        have h : ¬ 0 < a.tags.length := by simpa using h
        (conv => whnf)
        refine ⟨rfl, ?_⟩
        (conv => whnf)
        refine ⟨⟨6, by omega⟩, Wk.of (renOf [(3, 3)]) [] ⟨.yld rfl (by omega), ?_, .int_of rfl, .int_of ?_, trivial⟩ (LeH.of ⟨⟨by omega, .inl ⟨by simp, _, rfl, rfl, rfl, rfl, rfl, rfl, rfl, .ptr rfl (by omega), .ptr rfl (by omega), trivial⟩⟩, ⟨by omega, .inl ⟨by simp, _, rfl, LeB.free cell⟩⟩, ⟨by omega, .inl ⟨by simp, _, rfl, id, rfl, .osl_of rfl (by omega) ?_, trivial⟩⟩, ⟨by omega, .inl ⟨by simp, _, rfl, LeB.eq_of ?_ (rowsB_free _)⟩⟩, trivial⟩ (show ∀ b ∈ [2, 0, 1, 3], ∀ b' ∈ [2, 0, 1, 3], renOf [(3, 3)] b = renOf [(3, 3)] b' → b = b' by decide) (show ∀ b, b < 3 → renOf [(3, 3)] b = b by decide) (by omega) (by simp)), by simp⟩
        · exact .free (.sl attrRows_free)
        · simp [wrap64']
        · (simp [rawP, part, attrX, h, if_neg, Nat.add_assoc]; try omega)
        · simp [rawP, part, attrX, rowsB, u8_nat, wrap8, h, if_neg, Nat.add_assoc, List.take_of_length_le]
      · rename_i h
        have h : 0 < a.tags.length := by simpa using h
        have hs : ¬ 255 < (allB a.tags).length := by rw [allB_len]; omega
        (conv => whnf)
        refine callV_pure (vTags_ok fr a hf) ⟨.free (encA_free _ _), trivial⟩ ?_
        (conv => whnf)
        refine fun (_ : gd none _) => ?_
        (conv => whnf)
        split
        · rename_i hb
          exact absurd hb (by simp; omega)
        rename_i hb
        (conv => whnf)
        refine fun (_ : gd none _) => ?_
        (conv => whnf)
        refine ⟨rfl, by simp, ⟨rfl, rfl, rfl, rfl, by decide⟩, by simp, hbd _ (by simp; omega), ?_⟩
        (conv => whnf)
        refine ⟨⟨rfl, rfl, rfl, rfl, by decide⟩, by simp, hbd _ (by simp; omega), ?_⟩
        (conv => whnf)
        refine ⟨rfl, ?_⟩
        (conv => whnf)
        refine ⟨⟨6, by omega⟩, Wk.of (renOf [(3, 8)]) [] ⟨.yld rfl (by omega), ?_, .int_of rfl, .int_of ?_, trivial⟩ (LeH.of ⟨⟨by omega, .inl ⟨by simp, _, rfl, rfl, rfl, rfl, rfl, rfl, rfl, .ptr rfl (by omega), .ptr rfl (by omega), trivial⟩⟩, ⟨by omega, .inl ⟨by simp, _, rfl, LeB.free cell⟩⟩, ⟨by omega, .inl ⟨by simp, _, rfl, id, rfl, .osl_of rfl (by omega) ?_, trivial⟩⟩, ⟨by omega, .inl ⟨by simp, _, rfl, LeB.eq_of ?_ (rowsB_free _)⟩⟩, trivial⟩ (show ∀ b ∈ [2, 0, 1, 3], ∀ b' ∈ [2, 0, 1, 3], renOf [(3, 8)] b = renOf [(3, 8)] b' → b = b' by decide) (show ∀ b, b < 3 → renOf [(3, 8)] b = b by decide) (by omega) (by simp)), by simp⟩
        · exact .free (.sl attrRows_free)
        · simp [wrap64']
        · (simp [rawP, part, attrX, h, hs, Nat.add_assoc]; try omega)
        · simp [rawP, part, attrX, rowsB, u8_nat, wrap8, h, hs, Nat.add_assoc, List.take_of_length_le]
    case succ.zero =>
      (conv => whnf)
      refine ⟨rfl, _, ⟨by simp, rfl⟩, ?_⟩
      (conv => whnf)
      subst hasg hbody
      refine roundV_of tab_ok mixed rfl (by simp) (show 2 < 5 by omega) ?_
      (conv => whnf)
      refine ⟨rfl, ?_⟩
      (conv => whnf)
      refine callV_pure (always_ok fr a) ⟨.free (encA_free _ _), trivial⟩ ?_
      (conv => whnf)
      (conv => whnf)
      refine callV_pure (route_ok fr a hf) ⟨.free (encA_free _ _), trivial⟩ ?_
      (conv => whnf)
      refine fun (_ : gd none _) => ?_
      (conv => whnf)
      split
      · rename_i hb
        have hs : 255 < (pathB a.path).length := by simp at hb; omega
        (conv => whnf)
        refine ⟨rfl, by simp, ⟨rfl, rfl, rfl, rfl, by decide⟩, by simp, hbd _ (by simp; omega), ?_⟩
        (conv => whnf)
        refine fun (_ : gd none _) => ?_
        (conv => whnf)
        refine callV_pure (highI_ok (pathB a.path).length (by omega)) ⟨.int_of (by simp), .free .int, trivial⟩ ?_
        (conv => whnf)
        refine ⟨⟨rfl, rfl, rfl, rfl, by decide⟩, by simp, hbd _ (by simp [twoB]; omega), ?_⟩
        (conv => whnf)
        refine ⟨⟨rfl, rfl, rfl, rfl, by decide⟩, by simp, hbd _ (by simp [twoB]; omega), ?_⟩
        (conv => whnf)
        refine ⟨rfl, ?_⟩
        (conv => whnf)
        refine ⟨⟨2, by omega⟩, Wk.of (renOf [(3, 9)]) [] ⟨.yld rfl (by omega), ?_, .int_of rfl, .int_of ?_, trivial⟩ (LeH.of ⟨⟨by omega, .inl ⟨by simp, _, rfl, rfl, rfl, rfl, rfl, rfl, rfl, .ptr rfl (by omega), .ptr rfl (by omega), trivial⟩⟩, ⟨by omega, .inl ⟨by simp, _, rfl, LeB.free cell⟩⟩, ⟨by omega, .inl ⟨by simp, _, rfl, id, rfl, .osl_of rfl (by omega) ?_, trivial⟩⟩, ⟨by omega, .inl ⟨by simp, _, rfl, LeB.eq_of ?_ (rowsB_free _)⟩⟩, trivial⟩ (show ∀ b ∈ [2, 0, 1, 3], ∀ b' ∈ [2, 0, 1, 3], renOf [(3, 9)] b = renOf [(3, 9)] b' → b = b' by decide) (show ∀ b, b < 3 → renOf [(3, 9)] b = b by decide) (by omega) (by simp)), by simp⟩
        · exact .free (.sl attrRows_free)
        · simp [wrap64']
        · (simp [rawP, part, attrX, hs, twoB, or80, Nat.add_assoc]; try omega)
        · simp [rawP, part, attrX, rowsB, u8_nat, wrap8, hs, twoB, or80, Nat.add_assoc, List.take_of_length_le]
      · rename_i hb
        have hs : ¬ 255 < (pathB a.path).length := by simp at hb; omega
        (conv => whnf)
        refine fun (_ : gd none _) => ?_
        (conv => whnf)
        refine ⟨rfl, by simp, ⟨rfl, rfl, rfl, rfl, by decide⟩, by simp, hbd _ (by simp; omega), ?_⟩
        (conv => whnf)
        refine ⟨⟨rfl, rfl, rfl, rfl, by decide⟩, by simp, hbd _ (by simp; omega), ?_⟩
        (conv => whnf)
        refine ⟨rfl, ?_⟩
        (conv => whnf)
        refine ⟨⟨2, by omega⟩, Wk.of (renOf [(3, 8)]) [] ⟨.yld rfl (by omega), ?_, .int_of rfl, .int_of ?_, trivial⟩ (LeH.of ⟨⟨by omega, .inl ⟨by simp, _, rfl, rfl, rfl, rfl, rfl, rfl, rfl, .ptr rfl (by omega), .ptr rfl (by omega), trivial⟩⟩, ⟨by omega, .inl ⟨by simp, _, rfl, LeB.free cell⟩⟩, ⟨by omega, .inl ⟨by simp, _, rfl, id, rfl, .osl_of rfl (by omega) ?_, trivial⟩⟩, ⟨by omega, .inl ⟨by simp, _, rfl, LeB.eq_of ?_ (rowsB_free _)⟩⟩, trivial⟩ (show ∀ b ∈ [2, 0, 1, 3], ∀ b' ∈ [2, 0, 1, 3], renOf [(3, 8)] b = renOf [(3, 8)] b' → b = b' by decide) (show ∀ b, b < 3 → renOf [(3, 8)] b = b by decide) (by omega) (by simp)), by simp⟩
        · exact .free (.sl attrRows_free)
        · simp [wrap64']
        · (simp [rawP, part, attrX, hs, cell, Nat.add_assoc]; try omega)
        · simp [rawP, part, attrX, rowsB, u8_nat, wrap8, hs, cell, Nat.add_assoc, List.take_of_length_le]
end Go.Proofs.YtehhligadnlijaaGreatDoor
set_option linter.unusedVariables false
namespace Go.Proofs.YtehhligadnlijaaGreatDoor
theorem attrX_eq (f c : UInt8) (v : List UInt8) : attrX f c v = attrB f c v := by
  unfold attrX attrB twoB
  split
  · have : UInt8.ofNat (v.length % 256) = UInt8.ofNat v.length := by
      apply UInt8.toNat_inj.1
      simp
    rw [this]
    rfl
  · rfl
theorem rawP_eq (a : Attrs) : rawP a 6 = rawA a := by
  simp only [rawP, part, rawA, rawO, attrX_eq, List.nil_append, List.append_assoc]
end Go.Proofs.YtehhligadnlijaaGreatDoor
set_option linter.unusedVariables false
set_option linter.unusedSimpArgs false
namespace Go.Proofs.YtehhligadnlijaaGreatDoor
open Go.RowKit
open Go.Proofs.Tryz (prog)
attribute [local irreducible] CallV RoundV
theorem shl_or (n : UInt32) (c : UInt8) : bits .or .u32 (IntKind.u32.wrap ((n.toNat : Int) * 2 ^ (min (Int.toNat 8) IntKind.u32.bits))) (IntKind.u32.wrap (c.toNat : Int)) = ((n * 256 + c.toUInt32).toNat : Int) := by
  have hn := n.toNat_lt
  have hc := c.toNat_lt
  have e : (2 : Int) ^ (min (Int.toNat 8) IntKind.u32.bits) = 256 := by decide
  have e1 : IntKind.u32.wrap (c.toNat : Int) = c.toNat := by rw [wrap32]; omega
  rw [e, e1, wrap32]
  rw [bits_join .u32 32 (by decide) (fun n h0 h1 => by rw [wrap32]; omega) 8 _ _ (by omega) (by omega) (by omega) (by omega) (by omega) (by omega)]
  simp [UInt32.toNat_add, UInt32.toNat_mul]
  omega
set_option maxRecDepth 100000 in
theorem number_ok (fr : Bool) (b : List UInt8) : PCon prog 205 [encB fr b] (cW (wordOf b)) := by
  refine callV_of (fn := Go.Proofs.Tryz.f205) (body := _) tab_ok mixed rfl rfl (by decide) (by simp [Go.Proofs.Tryz.f205]) ?_
  (conv => whnf)
  intro hl
  have hl : b.length ≤ maxLen := by simpa [gd] using hl
  (conv => whnf)
  refine vcg_loop tab_ok mixed (fun i : {i : Nat // i ≤ b.length} => ⟨[(2, cW (wordOf (b.take i.1))), (5, encB fr b), (6, cI b.length), (7, cI i.1)], [], 0⟩) (fun i => b.length - i.1) ⟨0, by omega⟩ (Wk.of id [] ⟨.int_of rfl, .free (encB_free _ _), .int_of (by simp), .int_of rfl, trivial⟩ (LeH.nil (Nat.le_refl _) (fun b h => by omega) (by simp))) (fun i => ?_)
  obtain ⟨i, hi⟩ := i
  (conv => whnf)
  split
  · rename_i hc
    have hc : i < b.length := by simpa using hc
    (conv => whnf)
    refine ⟨rfl, _, ⟨by first | omega | (simp only; omega), idxB hc⟩, ?_⟩
    (conv => whnf)
    refine ⟨by decide, ?_⟩
    (conv => whnf)
    refine ⟨⟨i + 1, by omega⟩, Wk.of id [] ⟨.int_of ?_, .free (encB_free _ _), .int_of rfl, .int_of (wrap64_succ hc hl), trivial⟩ (LeH.nil (Nat.le_refl _) (fun b h => by omega) (by simp)), by simp only; omega⟩
    rw [wordOf_take hc]
    exact shl_or _ _
  · rename_i hc
    have hc : i = b.length := by simp at hc; omega
    subst hc
    (conv => whnf)
    exact Ends.pure [] (.int_of (by simp)) (by simp)
end Go.Proofs.YtehhligadnlijaaGreatDoor
set_option linter.unusedVariables false
set_option linter.unusedSimpArgs false
namespace Go.Proofs.YtehhligadnlijaaGreatDoor
open Go.RowKit
open Go.Proofs.Tryz (prog)
attribute [local irreducible] CallV RoundV
def lenOf (p : Leg) : Nat := if p.set then 1 else p.ns.length
end Go.Proofs.YtehhligadnlijaaGreatDoor
set_option linter.unusedVariables false
set_option linter.unusedSimpArgs false
namespace Go.Proofs.YtehhligadnlijaaGreatDoor
open Go.RowKit
open Go.Proofs.Tryz (prog)
attribute [local irreducible] CallV RoundV
abbrev rowsW (b : List UInt32) : List (List V) := b.map fun x => [V.int .u32 x.toNat]
def numsK (b : List UInt8) (k : Nat) : List UInt32 := (List.range k).map fun j => wordOf ((b.drop (4 * j)).take 4)
theorem numsK_succ (b : List UInt8) (k : Nat) : numsK b (k + 1) = numsK b k ++ [wordOf ((b.drop (4 * k)).take 4)] := by
  simp [numsK, List.range_succ]
theorem numsK_len (b : List UInt8) (k : Nat) : (numsK b k).length = k := by simp [numsK]
set_option maxRecDepth 100000 in
theorem numbers_ok (fr : Bool) (b : List UInt8) (m : Nat) (hm : b.length = 4 * m) (hb : m ≤ 1000000) : PCon prog 188 [encB fr b] (encW true (numsK b m)) := by
  refine callV_of (fn := Go.Proofs.Tryz.f188) (body := _) tab_ok mixed rfl rfl (by decide) (by simp [Go.Proofs.Tryz.f188]) ?_
  (conv => whnf)
  refine callV_of (fn := Go.Proofs.Tryz.f206) (body := _) tab_ok mixed rfl rfl (by decide) (by simp [Go.Proofs.Tryz.f206]) ?_
  (conv => whnf)
  refine ⟨_, _, _, Ends.here, ?_⟩
  (conv => whnf)
  refine callV_loop [(2, .ptr 0 0)] ⟨rfl, trivial⟩ fun asg' body' hasg hbody => ?_
  refine callV_of (fn := Go.Proofs.Tryz.f210) (body := _) tab_ok mixed rfl rfl (by decide) (by simp [Go.Proofs.Tryz.f210]) ?_
  (conv => whnf)
  refine vcg_loop tab_ok mixed (fun k : {k : Nat // k ≤ m} => ⟨[(0, .yld 3), (1, .ptr 1 0), (2, .ptr 2 0), (4, cI (4 * k.1))], [(3, some (.loop 13 [(2, .ptr 0 0)] [6] asg' body' .ready none)), (0, some (.var true 43 [.osl 4 1 0 k.1])), (1, some (.var true 50 [encB fr b])), (2, some (.var true 3 [.int .i64 4])), (4, some (.arr true false 22 1 (rowsW (numsK b k.1))))], 5⟩) (fun k => m - k.1) ⟨0, by omega⟩ ?_ (fun k => ?_)
  · exact Wk.of id [] ⟨.yld rfl (by omega), .ptr rfl (by omega), .ptr rfl (by omega), .int_of rfl, trivial⟩ (LeH.of ⟨⟨by omega, .inl ⟨by simp, _, rfl, rfl, rfl, rfl, rfl, rfl, rfl, .ptr rfl (by omega), trivial⟩⟩, ⟨by omega, .inl ⟨by simp, _, rfl, id, rfl, .osl0, trivial⟩⟩, ⟨by omega, .inl ⟨by simp, _, rfl, id, rfl, .free (encB_free _ _), trivial⟩⟩, ⟨by omega, .inl ⟨by simp, _, rfl, id, rfl, .int_of rfl, trivial⟩⟩, ⟨by omega, .inr ⟨by simp, _, _, _, _, rfl⟩⟩, trivial⟩ (fun _ _ _ _ h => h) (fun _ _ => rfl) (by omega) (by simp))
  obtain ⟨k, hk⟩ := k
  (conv => whnf)
  intro hl
  have hl : b.length ≤ maxLen := by simpa [gd] using hl
  (conv => whnf)
  split
  · rename_i hc
    have hc : k < m := by simp at hc; omega
    (conv => whnf)
    refine ⟨rfl, ?_⟩
    (conv => whnf)
    refine ⟨⟨by omega, by simp; omega⟩, ?_⟩
    (conv => whnf)
    refine ⟨by kernel_rfl, ?_⟩
    (conv => whnf)
    have hmin : (if (((List.drop ((4 * k : Nat) : Int).toNat (List.map (fun x => [V.int .u8 x.toNat]) b)).length : Nat) : Int) < 4 then (((List.drop ((4 * k : Nat) : Int).toNat (List.map (fun x => [V.int .u8 x.toNat]) b)).length : Nat) : Int) else 4) = 4 := by
      rw [if_neg]
      simp
      omega
    have hw : IntKind.i64.wrap (((4 * k : Nat) : Int) + 4) = ((4 * (k + 1) : Nat) : Int) := by rw [wrap64] <;> unfold maxLen at hl <;> omega
    refine ⟨rfl, ?_⟩
    (conv => whnf)
    refine ⟨by simp only [hmin, hw]; refine ⟨by omega, by omega, by omega, ?_, Nat.le_refl _, ?_⟩ <;> simp <;> omega, ?_⟩
    simp only [hmin, hw]
    (conv => whnf)
    have hsl : List.drop ((4 * k : Nat) : Int).toNat (List.take ((4 * (k + 1) : Nat) : Int).toNat (List.map (fun x => [V.int .u8 x.toNat]) b)) = rowsB ((b.drop (4 * k)).take 4) := by
      rw [Int.toNat_natCast, Int.toNat_natCast, ← List.map_take, ← List.map_drop, List.drop_take, show 4 * (k + 1) - 4 * k = 4 by omega]
    simp only [hsl]
    subst hasg hbody
    refine roundV_of tab_ok mixed rfl (by simp) (show 3 < 5 by omega) ?_
    (conv => whnf)
    refine ⟨rfl, ?_⟩
    (conv => whnf)
    refine ⟨cW (wordOf ((b.drop (4 * k)).take 4)), [], fun h nx _ => ?_, by simp, ?_⟩
    · refine pureV_pure (number_ok fr _) ?_
      exact ⟨.free (encB_free _ _), trivial⟩
    (conv => whnf)
    refine ⟨rfl, by simp, ⟨rfl, rfl, rfl, rfl, by decide⟩, by simp [numsK_len], ⟨by simp [tab, tabOf, nth]; omega, by simp; omega⟩, ?_⟩
    (conv => whnf)
    refine ⟨by kernel_rfl, ?_⟩
    (conv => whnf)
    refine ⟨rfl, ?_⟩
    (conv => whnf)
    refine ⟨⟨k + 1, by omega⟩, Wk.of (renOf [(4, 6)]) [] ⟨.yld rfl (by omega), .ptr rfl (by omega), .ptr rfl (by omega), .int_of hw, trivial⟩ (LeH.of ⟨⟨by omega, .inl ⟨by simp, _, rfl, rfl, rfl, rfl, rfl, rfl, rfl, .ptr rfl (by omega), trivial⟩⟩, ⟨by omega, .inl ⟨by simp, _, rfl, id, rfl, .osl_of rfl (by omega) (by simp), trivial⟩⟩, ⟨by omega, .inl ⟨by simp, _, rfl, id, rfl, .free (encB_free _ _), trivial⟩⟩, ⟨by omega, .inl ⟨by simp, _, rfl, id, rfl, .int_of rfl, trivial⟩⟩, ⟨by omega, .inl ⟨by simp, _, rfl, LeB.eq_of ?_ (rowsW_free _)⟩⟩, trivial⟩ (show ∀ b ∈ [3, 0, 1, 2, 4], ∀ b' ∈ [3, 0, 1, 2, 4], renOf [(4, 6)] b = renOf [(4, 6)] b' → b = b' by decide) (show ∀ b, b < 4 → renOf [(4, 6)] b = b by decide) (by omega) (by simp)), by simp only; omega⟩
    simp only
    rw [numsK_succ, List.take_of_length_le (by simp [numsK_len])]
    simp
  · rename_i hc
    have hc : k = m := by simp at hc; omega
    subst hc
    (conv => whnf)
    refine ⟨_, _, _, Ends.here, ?_⟩
    (conv => whnf)
    refine Ends.pure [4] (LeV.freeze_of (by simp) rfl (by simp [numsK_len]) (rowsW_free _) ?_) (one_none rfl)
    simp only [List.drop_zero]
    exact List.take_of_length_le (by simp [numsK_len])
end Go.Proofs.YtehhligadnlijaaGreatDoor
set_option linter.unusedVariables false
set_option linter.unusedSimpArgs false
namespace Go.Proofs.YtehhligadnlijaaGreatDoor
open Go.RowKit
open Go.Proofs.Tryz (prog)
attribute [local irreducible] CallV RoundV
def IsW (fr : Bool) (v : V) (l : List UInt32) : Prop := v = encW fr l ∨ (v = .snil ∧ l = [])
theorem IsW.free {fr : Bool} {v : V} {l : List UInt32} (h : IsW fr v l) : Free v := by
  rcases h with rfl | ⟨rfl, _⟩
  · exact encW_free _ _
  · exact .snil
end Go.Proofs.YtehhligadnlijaaGreatDoor
set_option linter.unusedVariables false
set_option linter.unusedSimpArgs false
namespace Go.Proofs.YtehhligadnlijaaGreatDoor
open Go.RowKit
open Go.Proofs.Tryz (prog)
attribute [local irreducible] CallV RoundV
def noA : Attrs := ⟨0, [], 0, false, 0, false, 0, []⟩
theorem LeV.noA {h : Heap} {nx nx' : Nat} {ρ : Nat → Nat} {Z : List Nat} {fr : Bool} : LeV h nx ρ nx' Z (.agg zeroA) (encA fr noA) :=
  .aggL ⟨.free .int, .snil_sl, .free .int, .free .bool, .free .int, .free .bool, .free .int, .snil_sl, trivial⟩
def parseE (fr : Bool) (a : Attrs) (e : Int) : V := .tup [encA fr a, .int .i64 e]
end Go.Proofs.YtehhligadnlijaaGreatDoor
set_option linter.unusedVariables false
set_option linter.unusedSimpArgs false
namespace Go.Proofs.YtehhligadnlijaaGreatDoor
open Go.RowKit
open Go.Proofs.Tryz (prog)
attribute [local irreducible] CallV RoundV
def nineA : Attrs := ⟨0, [], 9, false, 0, false, 0, []⟩
def nineV : V := .agg [.int .u8 0, .snil, .int .u32 9, .bool false, .int .u32 0, .bool false, .int .u32 0, .snil]
theorem LeV.nineA {h : Heap} {nx nx' : Nat} {ρ : Nat → Nat} {Z : List Nat} {fr : Bool} : LeV h nx ρ nx' Z nineV (encA fr nineA) :=
  .aggL ⟨.free .int, .snil_sl, .int_of rfl, .free .bool, .free .int, .free .bool, .free .int, .snil_sl, trivial⟩
theorem Less.encW {l : List UInt32} : Less (encW true l) (encW false l) := .sl (by simp) rfl fun j v v' h1 h2 => by rw [h1] at h2; cases h2; exact Less.refl _
theorem legs_less : ∀ (l : List Leg) (j : Nat) (v v' : V), (l.map (encLeg true)).flatten[j]? = some v → (l.map (encLeg false)).flatten[j]? = some v' → Less v v'
  | [], j, v, v', h1, h2 => by simp at h1
  | p :: l, j, v, v', h1, h2 => by
    rcases j with _ | _ | j
    · simp [encLeg] at h1 h2; subst h1; subst h2; exact Less.refl _
    · simp [encLeg] at h1 h2; subst h1; subst h2; exact .encW
    · simp [encLeg] at h1 h2
      exact legs_less l j v v' (by simpa [encLeg] using h1) (by simpa [encLeg] using h2)
theorem Less.legs {l : List Leg} : Less (encLegs true l) (encLegs false l) := .sl (by simp) (by rw [List.map_map, List.map_map]; rfl) (legs_less l)
end Go.Proofs.YtehhligadnlijaaGreatDoor
set_option linter.unusedVariables false
set_option linter.unusedSimpArgs false
namespace Go.Proofs.YtehhligadnlijaaGreatDoor
open Go.RowKit
open Go.Proofs.Tryz (prog)
attribute [local irreducible] CallV RoundV
theorem sameA_refl (a : Attrs) : sameA a a = true := by
  simp [sameA]
end Go.Proofs.YtehhligadnlijaaGreatDoor
set_option linter.unusedVariables false
set_option linter.unusedSimpArgs false
namespace Go.Proofs.YtehhligadnlijaaGreatDoor
open Go.RowKit
theorem numsK_take (r : List UInt8) (m n : Nat) (h : 4 * m ≤ n) : numsK (r.take n) m = numsK r m := by
  unfold numsK
  refine List.map_congr_left fun j hj => ?_
  have hj : j < m := by simpa using hj
  congr 1
  rw [List.drop_take, List.take_take]
  congr 1
  omega
def legs (v : List UInt8) : Option (List (UInt8 × List UInt32)) :=
  match v with
  | [] => some []
  | [_] => none
  | x :: n :: r => if r.length < 4 * n.toNat then none else (legs (r.drop (4 * n.toNat))).map ((x, numsK r n.toNat) :: ·)
termination_by v.length
decreasing_by simp; omega
theorem legs_nil : legs [] = some [] := by rw [legs]
theorem legs_one (x : UInt8) : legs [x] = none := by rw [legs]
theorem legs_no {x n : UInt8} {r : List UInt8} (h : r.length < 4 * n.toNat) : legs (x :: n :: r) = none := by rw [legs, if_pos h]
theorem legs_go {x n : UInt8} {r : List UInt8} (h : ¬ r.length < 4 * n.toNat) : legs (x :: n :: r) = (legs (r.drop (4 * n.toNat))).map ((x, numsK r n.toNat) :: ·) := by rw [legs, if_neg h]
def kindOk (x : UInt8) : Bool := x == 1 || x == 2
def legOf (p : UInt8 × List UInt32) : Leg := ⟨p.1 == 1, p.2⟩
def pathE (v : List UInt8) : Int := match legs v with
  | none => 294
  | some l => if l.all (fun p => kindOk p.1) && pathOk (l.map legOf) then 0 else 296
def pathA (v : List UInt8) : List Leg := match legs v with
  | none => []
  | some l => l.map legOf
def lowE (c : Nat) (v : List UInt8) : Int :=
  if c = 1 then (if v.length ≠ 1 then 294 else if 2 < (v.getD 0 0).toNat then 295 else 0)
  else if c = 2 then pathE v
  else if c = 3 then (if v.length ≠ 4 then 294 else if wordOf v = 0 then 297 else 0)
  else if c = 4 then (if v.length ≠ 4 then 294 else 0)
  else if c = 5 then (if v.length ≠ 4 then 294 else 0)
  else (if v.length = 0 ∨ v.length % 4 ≠ 0 then 294 else if 16 < v.length / 4 ∨ rises (numsK v (v.length / 4)) = false then 298 else 0)
def lowA (c : Nat) (a : Attrs) (v : List UInt8) : Attrs :=
  if c = 1 then { a with origin := v.getD 0 0 }
  else if c = 2 then { a with path := pathA v }
  else if c = 3 then { a with next := wordOf v }
  else if c = 4 then { a with hasMed := true, med := wordOf v }
  else if c = 5 then { a with hasPref := true, pref := wordOf v }
  else { a with tags := numsK v (v.length / 4) }
def flagsI (c : Nat) : Int := if c = 1 then 64 else if c = 2 then 64 else if c = 3 then 64 else if c = 5 then 64 else if c = 4 then 128 else if c = 8 then 192 else -1
def byteN (b : List UInt8) (i : Nat) : Nat := (b.getD i 0).toNat
theorem byteN_lt (b : List UInt8) (i : Nat) : byteN b i < 256 := (b.getD i 0).toNat_lt
def lngB (b : List UInt8) : Bool := byteN b 0 / 16 % 2 == 1
def numB (b : List UInt8) : Nat := if lngB b then 256 * byteN b 2 + byteN b 3 else byteN b 2
def atB (b : List UInt8) : Nat := if lngB b then 4 else 3
def headE (b : List UInt8) (last : Nat) : Int :=
  if b.length < 3 then 290
  else if lngB b = true ∧ b.length < 4 then 290
  else if b.length < atB b + numB b then 290
  else if flagsI (byteN b 1) < 0 then 291
  else if (byteN b 0 : Int) - (if lngB b then 16 else 0) ≠ flagsI (byteN b 1) ∨ lngB b ≠ decide (255 < numB b) then 292
  else if byteN b 1 ≤ last then 293 else 0
def valB (b : List UInt8) : List UInt8 := (b.drop (atB b)).take (numB b)
def restB (b : List UInt8) : List UInt8 := b.drop (atB b + numB b)
theorem restB_lt {b : List UInt8} (h : b ≠ []) : (restB b).length < b.length := by
  have h0 := List.length_pos_iff.2 h
  have : 3 ≤ atB b := by unfold atB; split <;> omega
  simp only [restB, List.length_drop]
  omega
def parseA (b : List UInt8) (last seen : Nat) (a : Attrs) : Attrs × Int :=
  if hb : b = [] then (if seen = 3 then (a, 0) else (noA, 299))
  else if headE b last ≠ 0 then (noA, headE b last)
  else if lowE (byteN b 1) (valB b) ≠ 0 then (noA, lowE (byteN b 1) (valB b))
  else parseA (restB b) (byteN b 1) (if byteN b 1 ≤ 3 then seen + 1 else seen) (lowA (byteN b 1) a (valB b))
termination_by b.length
decreasing_by exact restB_lt hb
theorem parseA_nil (last seen : Nat) (a : Attrs) : parseA [] last seen a = if seen = 3 then (a, 0) else (noA, 299) := by rw [parseA]; simp
theorem parseA_head {b : List UInt8} {last seen : Nat} {a : Attrs} (hb : b ≠ []) (h : headE b last ≠ 0) : parseA b last seen a = (noA, headE b last) := by rw [parseA, dif_neg hb, if_pos h]
theorem parseA_low {b : List UInt8} {last seen : Nat} {a : Attrs} (hb : b ≠ []) (h : headE b last = 0) (h2 : lowE (byteN b 1) (valB b) ≠ 0) : parseA b last seen a = (noA, lowE (byteN b 1) (valB b)) := by
  rw [parseA, dif_neg hb, if_neg (by simp [h]), if_pos h2]
theorem parseA_go {b : List UInt8} {last seen : Nat} {a : Attrs} (hb : b ≠ []) (h : headE b last = 0) (h2 : lowE (byteN b 1) (valB b) = 0) :
    parseA b last seen a = parseA (restB b) (byteN b 1) (if byteN b 1 ≤ 3 then seen + 1 else seen) (lowA (byteN b 1) a (valB b)) := by
  rw [parseA, dif_neg hb, if_neg (by simp [h]), if_neg (by simp [h2])]
end Go.Proofs.YtehhligadnlijaaGreatDoor
set_option linter.unusedVariables false
set_option linter.unusedSimpArgs false
namespace Go.Proofs.YtehhligadnlijaaGreatDoor
open Go.RowKit
open Go.Proofs.Tryz (prog)
attribute [local irreducible] CallV RoundV
def pathV (q : Bool) (a : Attrs) : V := if q then encLegs true a.path else .snil
theorem pathV_free (q : Bool) (a : Attrs) : Free (pathV q a) := by
  unfold pathV
  split
  · exact encLegs_free _ _
  · exact .snil
def cellsR (q : Bool) (a : Attrs) : List V := [cB a.origin, pathV q a, cW a.next, .bool a.hasMed, cW a.med, .bool a.hasPref, cW a.pref, encW true a.tags]
theorem cellsR_free (q : Bool) (a : Attrs) : ∀ v ∈ cellsR q a, Free v := by
  intro v hv
  simp only [cellsR, List.mem_cons, List.not_mem_nil, or_false] at hv
  rcases hv with rfl | rfl | rfl | rfl | rfl | rfl | rfl | rfl <;> first | exact .int | exact .bool | exact pathV_free _ _ | exact encW_free _ _
def RR (c : Nat) (v : List UInt8) (q : Bool) (a : Attrs) (B L S : V) : V → Heap → Nat → Prop := fun v' h' nx' =>
  ∃ c8, v' = .int .i64 (lowE c v) ∧ c8.length = 8 ∧ (∀ x ∈ c8, Free x) ∧ (lowE c v = 0 → c8 = cellsR (q || c == 2) (lowA c a v)) ∧ h' = [(0, some (.var true 147 (B :: L :: S :: c8)))] ∧ nx' = 1
theorem Ends.read {s : St} {v : V} {c : Nat} {w : List UInt8} {q : Bool} {a : Attrs} {B L S : V} {cells : List V} (Z : List Nat) (c8 : List V) (hb : hget s.h 0 = some (.var true 147 cells)) (hl8 : c8.length = 8) (hf : ∀ x ∈ c8, Free x)
    (hv : LeV s.h s.nx id 1 Z v (.int .i64 (lowE c w))) (hc : LeL s.h s.nx id 1 Z cells (B :: L :: S :: c8)) (he : lowE c w = 0 → c8 = cellsR (q || c == 2) (lowA c a w)) (hz : ∀ z ∈ Z, hget s.h z ≠ none) (h0 : 0 ∉ Z) : ∃ v1 h' nx', Ends 1 s v v1 h' nx' ∧ RR c w q a B L S v1 h' nx' :=
  ⟨.int .i64 (lowE c w), [(0, some (.var true 147 (B :: L :: S :: c8)))], 1, Ends.of id Z hv (LeH.of ⟨⟨by omega, .inl ⟨h0, _, hb, id, rfl, hc⟩⟩, trivial⟩ (fun _ _ _ _ h => h) (fun _ _ => rfl) (by omega) hz), c8, rfl, hl8, hf, he, rfl, rfl⟩
theorem LeL.anys {h : Heap} {nx : Nat} {ρ : Nat → Nat} {nx' : Nat} {Z : List Nat} : ∀ {cs : List V} {n : Nat}, cs.length = n → LeL h nx ρ nx' Z cs (List.replicate n .any)
  | [], 0, _ => trivial
  | [], n + 1, h => by simp at h
  | c :: cs, 0, h => by simp at h
  | c :: cs, n + 1, h => ⟨.to_any, LeL.anys (cs := cs) (by simpa using h)⟩
theorem Ends.readE {s : St} {c : Nat} {e : Int} {w : List UInt8} {q : Bool} {a : Attrs} {B L S : V} {c8 : List V} (hb : hget s.h 0 = some (.var true 147 (B :: L :: S :: c8))) (hl8 : c8.length = 8) (hB : Free B) (hL : Free L) (hS : Free S)
    (he : e = lowE c w) (hne : lowE c w ≠ 0) : ∃ v1 h' nx', Ends 1 s (.int .i64 e) v1 h' nx' ∧ RR c w q a B L S v1 h' nx' :=
  Ends.read [] (List.replicate 8 .any) hb (by simp) (by intro x hx; rw [List.eq_of_mem_replicate hx]; exact .any) (.int_of he) ⟨.free hB, .free hL, .free hS, .anys hl8⟩ (fun h => absurd h hne) (by simp) (by simp)
theorem Ends.readK {s : St} {c : Nat} {e : Int} {w : List UInt8} {q : Bool} {a : Attrs} {B L S : V} {c8 : List V} (hb : hget s.h 0 = some (.var true 147 (B :: L :: S :: c8))) (hB : Free B) (hL : Free L) (hS : Free S)
    (he : e = lowE c w) (h8 : c8 = cellsR (q || c == 2) (lowA c a w)) : ∃ v1 h' nx', Ends 1 s (.int .i64 e) v1 h' nx' ∧ RR c w q a B L S v1 h' nx' :=
  Ends.read [] c8 hb (by rw [h8]; rfl) (by rw [h8]; exact cellsR_free _ _) (.int_of he) ⟨.free hB, .free hL, .free hS, LeL.free (by rw [h8]; exact cellsR_free _ _)⟩ (fun _ => h8) (by simp) (by simp)
set_option maxRecDepth 100000 in
theorem read1_ok (fr : Bool) (v : List UInt8) (q : Bool) (a : Attrs) (B L S : V) (hB : Free B) (hL : Free L) (hS : Free S) : CallV prog 171 [.ptr 0 3, encB fr v] [(0, some (.var true 147 (B :: L :: S :: cellsR q a)))] 1 (RR 1 v q a B L S) := by
  refine callV_of (fn := Go.Proofs.Tryz.f171) (body := _) tab_ok mixed rfl rfl (by decide) (by simp [Go.Proofs.Tryz.f171]) ?_
  (conv => whnf)
  intro _
  (conv => whnf)
  split
  · rename_i h
    have h : v.length ≠ 1 := by simp at h; omega
    have e : lowE 1 v = 294 := by simp [lowE, h]
    (conv => whnf)
    exact Ends.readE rfl rfl hB hL hS e.symm (by rw [e]; decide)
  · rename_i h
    have h : v.length = 1 := by simp at h; omega
    obtain ⟨x, rfl⟩ := List.length_eq_one_iff.1 h
    (conv => whnf)
    refine ⟨rfl, [cB x], ⟨by decide, rfl⟩, ?_⟩
    (conv => whnf)
    refine ⟨rfl, [cB x], ⟨by decide, rfl⟩, ?_⟩
    (conv => whnf)
    split
    · rename_i h2
      have e : lowE 1 [x] = 295 := by
        simp at h2
        simp [lowE]
        omega
      (conv => whnf)
      exact Ends.readE rfl rfl hB hL hS e.symm (by rw [e]; decide)
    · rename_i h2
      have e : lowE 1 [x] = 0 := by
        simp at h2
        simp [lowE]
        omega
      (conv => whnf)
      exact Ends.readK rfl hB hL hS e.symm (by simp; rfl)
end Go.Proofs.YtehhligadnlijaaGreatDoor
set_option linter.unusedVariables false
set_option linter.unusedSimpArgs false
namespace Go.Proofs.YtehhligadnlijaaGreatDoor
open Go.RowKit
open Go.Proofs.Tryz (prog)
attribute [local irreducible] CallV RoundV
set_option maxRecDepth 100000 in
theorem read3_ok (fr : Bool) (v : List UInt8) (q : Bool) (a : Attrs) (B L S : V) (hB : Free B) (hL : Free L) (hS : Free S) : CallV prog 204 [.ptr 0 3, encB fr v, .iptr true [fnV 177]] [(0, some (.var true 147 (B :: L :: S :: cellsR q a)))] 1 (RR 3 v q a B L S) := by
  refine callV_of (fn := Go.Proofs.Tryz.f204) (body := _) tab_ok mixed rfl rfl (by decide) (by simp [Go.Proofs.Tryz.f204]) ?_
  (conv => whnf)
  intro _
  (conv => whnf)
  split
  · rename_i h
    have h : v.length ≠ 4 := by simp at h; omega
    have e : lowE 3 v = 294 := by simp [lowE, h]
    (conv => whnf)
    exact Ends.readE rfl rfl hB hL hS e.symm (by rw [e]; decide)
  · rename_i h
    have h : v.length = 4 := by simp at h; omega
    (conv => whnf)
    refine ⟨cW (wordOf v), [], fun h nx _ => pureV_pure (number_ok fr v) ⟨.free (encB_free _ _), trivial⟩, by simp, ?_⟩
    (conv => whnf)
    refine ⟨by kernel_rfl, ?_⟩
    (conv => whnf)
    refine callV_of (fn := Go.Proofs.Tryz.f177) (body := _) tab_ok mixed rfl rfl (by decide) (by simp [Go.Proofs.Tryz.f177]) ?_
    (conv => whnf)
    split
    · rename_i h2
      have h2 : wordOf v = 0 := UInt32.toNat_inj.1 (by simp at h2; simp; omega)
      (conv => whnf)
      refine ⟨_, _, _, Ends.here, ?_⟩
      (conv => whnf)
      have e : lowE 3 v = 297 := by simp [lowE, h, h2]
      exact Ends.readE rfl rfl hB hL hS e.symm (by rw [e]; decide)
    · rename_i h2
      have h2 : wordOf v ≠ 0 := fun h => by rw [h] at h2; simp at h2
      (conv => whnf)
      refine ⟨_, _, _, Ends.here, ?_⟩
      (conv => whnf)
      have e : lowE 3 v = 0 := by simp [lowE, h, h2]
      exact Ends.readK rfl hB hL hS e.symm (by simp; rfl)
set_option maxRecDepth 100000 in
theorem read4_ok (fr : Bool) (v : List UInt8) (q : Bool) (a : Attrs) (B L S : V) (hB : Free B) (hL : Free L) (hS : Free S) : CallV prog 204 [.ptr 0 3, encB fr v, .iptr true [fnV 180]] [(0, some (.var true 147 (B :: L :: S :: cellsR q a)))] 1 (RR 4 v q a B L S) := by
  refine callV_of (fn := Go.Proofs.Tryz.f204) (body := _) tab_ok mixed rfl rfl (by decide) (by simp [Go.Proofs.Tryz.f204]) ?_
  (conv => whnf)
  intro _
  (conv => whnf)
  split
  · rename_i h
    have h : v.length ≠ 4 := by simp at h; omega
    have e : lowE 4 v = 294 := by simp [lowE, h]
    (conv => whnf)
    exact Ends.readE rfl rfl hB hL hS e.symm (by rw [e]; decide)
  · rename_i h
    have h : v.length = 4 := by simp at h; omega
    (conv => whnf)
    refine ⟨cW (wordOf v), [], fun h nx _ => pureV_pure (number_ok fr v) ⟨.free (encB_free _ _), trivial⟩, by simp, ?_⟩
    (conv => whnf)
    refine ⟨by kernel_rfl, ?_⟩
    (conv => whnf)
    refine callV_of (fn := Go.Proofs.Tryz.f180) (body := _) tab_ok mixed rfl rfl (by decide) (by simp [Go.Proofs.Tryz.f180]) ?_
    (conv => whnf)
    refine ⟨_, _, _, Ends.here, ?_⟩
    (conv => whnf)
    have e : lowE 4 v = 0 := by simp [lowE, h]
    exact Ends.readK rfl hB hL hS e.symm (by simp; rfl)
set_option maxRecDepth 100000 in
theorem read5_ok (fr : Bool) (v : List UInt8) (q : Bool) (a : Attrs) (B L S : V) (hB : Free B) (hL : Free L) (hS : Free S) : CallV prog 204 [.ptr 0 3, encB fr v, .iptr true [fnV 183]] [(0, some (.var true 147 (B :: L :: S :: cellsR q a)))] 1 (RR 5 v q a B L S) := by
  refine callV_of (fn := Go.Proofs.Tryz.f204) (body := _) tab_ok mixed rfl rfl (by decide) (by simp [Go.Proofs.Tryz.f204]) ?_
  (conv => whnf)
  intro _
  (conv => whnf)
  split
  · rename_i h
    have h : v.length ≠ 4 := by simp at h; omega
    have e : lowE 5 v = 294 := by simp [lowE, h]
    (conv => whnf)
    exact Ends.readE rfl rfl hB hL hS e.symm (by rw [e]; decide)
  · rename_i h
    have h : v.length = 4 := by simp at h; omega
    (conv => whnf)
    refine ⟨cW (wordOf v), [], fun h nx _ => pureV_pure (number_ok fr v) ⟨.free (encB_free _ _), trivial⟩, by simp, ?_⟩
    (conv => whnf)
    refine ⟨by kernel_rfl, ?_⟩
    (conv => whnf)
    refine callV_of (fn := Go.Proofs.Tryz.f183) (body := _) tab_ok mixed rfl rfl (by decide) (by simp [Go.Proofs.Tryz.f183]) ?_
    (conv => whnf)
    refine ⟨_, _, _, Ends.here, ?_⟩
    (conv => whnf)
    have e : lowE 5 v = 0 := by simp [lowE, h]
    exact Ends.readK rfl hB hL hS e.symm (by simp; rfl)
end Go.Proofs.YtehhligadnlijaaGreatDoor
set_option linter.unusedVariables false
set_option linter.unusedSimpArgs false
namespace Go.Proofs.YtehhligadnlijaaGreatDoor
open Go.RowKit
open Go.Proofs.Tryz (prog)
attribute [local irreducible] CallV RoundV
theorem tmod4 (n : Nat) : (n : Int).tmod 4 = (n % 4 : Nat) := by rw [Int.tmod_eq_emod_of_nonneg (by omega)]; omega
set_option maxRecDepth 100000 in
theorem read8_ok (fr : Bool) (v : List UInt8) (hv : v.length ≤ 1000000) (q : Bool) (a : Attrs) (B L S : V) (hB : Free B) (hL : Free L) (hS : Free S) : CallV prog 187 [.ptr 0 3, encB fr v] [(0, some (.var true 147 (B :: L :: S :: cellsR q a)))] 1 (RR 8 v q a B L S) := by
  refine callV_of (fn := Go.Proofs.Tryz.f187) (body := _) tab_ok mixed rfl rfl (by decide) (by simp [Go.Proofs.Tryz.f187]) ?_
  (conv => whnf)
  intro _
  (conv => whnf)
  split
  · rename_i h
    have h : v.length = 0 := by simpa using h
    have e : lowE 8 v = 294 := by simp [lowE, h]
    (conv => whnf)
    exact Ends.readE rfl rfl hB hL hS e.symm (by rw [e]; decide)
  rename_i h0
  have h0 : v.length ≠ 0 := by simpa using h0
  (conv => whnf)
  intro _
  (conv => whnf)
  refine ⟨by decide, ?_⟩
  (conv => whnf)
  split
  · rename_i h
    have h : v.length % 4 ≠ 0 := by rw [List.length_map, tmod4] at h; simp at h; omega
    have e : lowE 8 v = 294 := by simp [lowE, h]
    (conv => whnf)
    exact Ends.readE rfl rfl hB hL hS e.symm (by rw [e]; decide)
  rename_i h4
  have h4 : v.length % 4 = 0 := by rw [List.length_map, tmod4] at h4; simp at h4; omega
  (conv => whnf)
  refine callV_pure (numbers_ok fr v (v.length / 4) (by omega) (by omega)) ⟨.free (encB_free _ _), trivial⟩ ?_
  have hn : (numsK v (v.length / 4)).length = v.length / 4 := numsK_len _ _
  have hne : numsK v (v.length / 4) ≠ [] := by intro e; rw [e] at hn; simp at hn; omega
  (conv => whnf)
  intro _
  (conv => whnf)
  split
  · rename_i h
    have h : 16 < v.length / 4 := by simp [hn] at h; omega
    have e : lowE 8 v = 298 := by
      have := h0
      simp [lowE, h0, h4, h]
    (conv => whnf)
    exact Ends.readE rfl rfl hB hL hS e.symm (by rw [e]; decide)
  rename_i h16
  have h16 : ¬ 16 < v.length / 4 := by simp [hn] at h16; omega
  (conv => whnf)
  refine callV_pure (rise_ok true (numsK v (v.length / 4))) ⟨.free (encW_free _ _), trivial⟩ ?_
  cases hr : rises (numsK v (v.length / 4)) with
  | false =>
    have e : lowE 8 v = 298 := by simp [lowE, h0, h4, hr]
    (conv => whnf)
    exact Ends.readE rfl rfl hB hL hS e.symm (by rw [e]; decide)
  | true =>
    have e : lowE 8 v = 0 := by simp [lowE, h0, h4, hr, h16]
    (conv => whnf)
    exact Ends.readK rfl hB hL hS e.symm (by simp; rfl)
end Go.Proofs.YtehhligadnlijaaGreatDoor
set_option linter.unusedVariables false
set_option linter.unusedSimpArgs false
namespace Go.Proofs.YtehhligadnlijaaGreatDoor
open Go.RowKit
open Go.Proofs.Tryz (prog)
attribute [local irreducible] CallV RoundV
abbrev rowsL (l : List Leg) : List (List V) := l.map (encLeg true)
structure Way (v : List UInt8) where
  left : List UInt8
  told : List (UInt8 × List UInt32)
  law : legs v = (legs left).map (told ++ ·)
  len : left.length ≤ v.length
  few : 2 * told.length + left.length ≤ v.length
def wayA (told : List (UInt8 × List UInt32)) : List Leg := told.map legOf
def cellsW (a : Attrs) (p : V) : List V := [cB a.origin, p, cW a.next, .bool a.hasMed, cW a.med, .bool a.hasPref, cW a.pref, encW true a.tags]
theorem u8_is (x : UInt8) (k : Nat) (hk : k < 256) : ((x.toNat : Int) == (k : Int)) = (x == UInt8.ofNat k) := by
  cases h : x == UInt8.ofNat k with
  | true =>
    have h := eq_of_beq h
    subst h
    simp [UInt8.toNat_ofNat']
    omega
  | false =>
    have h : x ≠ UInt8.ofNat k := by simpa using h
    simp only [beq_eq_false_iff_ne, ne_eq]
    intro e
    exact h (UInt8.toNat_inj.1 (by simp [UInt8.toNat_ofNat']; omega))
theorem u8_is1 (x : UInt8) : ((x.toNat : Int) == 1) = (x == 1) := u8_is x 1 (by decide)
theorem u8_is2 (x : UInt8) : ((x.toNat : Int) == 2) = (x == 2) := u8_is x 2 (by decide)
set_option maxRecDepth 100000 in
theorem readRoute_ok (fr : Bool) (v : List UInt8) (hv : v.length ≤ 1000000) (a : Attrs) (B L S : V) (hB : Free B) (hL : Free L) (hS : Free S) : CallV prog 173 [.ptr 0 3, encB fr v] [(0, some (.var true 147 (B :: L :: S :: cellsR false a)))] 1 (RR 2 v false a B L S) := by
  refine callV_of (fn := Go.Proofs.Tryz.f173) (body := _) tab_ok mixed rfl rfl (by decide) (by simp [Go.Proofs.Tryz.f173]) ?_
  (conv => whnf)
  refine vcg_loop tab_ok mixed (fun k : Way v => ⟨[(0, .ptr 0 3), (1, encB fr k.left), (5, .bool (k.told.all fun p => kindOk p.1))], [(0, some (.var true 147 (B :: L :: S :: cellsW a (.osl 1 2 0 k.told.length)))), (1, some (.arr true false 92 2 (rowsL (wayA k.told))))], 2⟩) (fun k => k.left.length) ⟨v, [], by simp, Nat.le_refl _, by simp⟩ ?_ (fun k => ?_)
  · refine Wk.of id [] ⟨.ptr rfl (by omega), .free (encB_free _ _), .bool_of rfl, trivial⟩ (LeH.of ⟨⟨by omega, .inl ⟨by simp, _, rfl, id, rfl, .free hB, .free hL, .free hS, .free .int, ?_, .free .int, .free .bool, .free .int, .free .bool, .free .int, .free (encW_free _ _), trivial⟩⟩, ⟨by omega, .inr ⟨by simp, _, _, _, _, rfl⟩⟩, trivial⟩ (fun _ _ _ _ h => h) (fun _ _ => rfl) (by omega) (by simp))
    exact .osl0
  obtain ⟨left, told, law, len, few⟩ := k
  rcases left with _ | ⟨x, _ | ⟨n, r⟩⟩
  · have hl : legs v = some told := by rw [law, legs_nil]; simp
    (conv => whnf)
    intro _
    (conv => whnf)
    split
    · rename_i hk
      have hk : (told.all fun p => kindOk p.1) = false := by simpa using hk
      have e : lowE 2 v = 296 := by simp only [lowE, pathE, hl, hk]; rfl
      (conv => whnf)
      exact Ends.readE rfl rfl hB hL hS e.symm (by rw [e]; decide)
    · rename_i hk
      have hk : (told.all fun p => kindOk p.1) = true := by simpa using hk
      (conv => whnf)
      refine callV_lend [1] (path_ok false (wayA told)) ⟨.less (v1 := encLegs true (wayA told)) (LeV.freeze_of (by simp) rfl (by simp [wayA]) (rowsLegs_free true (wayA told)) (by rw [List.drop_zero]; exact List.take_of_length_le (by simp [wayA]))) .legs, trivial⟩ (by intro v hv; simp at hv; subst hv; exact encLegs_cold _) (one_none rfl) .bool ?_
      cases hp : pathOk (wayA told) with
      | false =>
        have e : lowE 2 v = 296 := by simp only [lowE, pathE, hl, hk, show told.map legOf = wayA told from rfl, hp]; rfl
        (conv => whnf)
        exact Ends.readE rfl rfl hB hL hS e.symm (by rw [e]; decide)
      | true =>
        have e : lowE 2 v = 0 := by simp only [lowE, pathE, hl, hk, show told.map legOf = wayA told from rfl, hp]; rfl
        have ep : pathA v = wayA told := by simp only [pathA, hl]; rfl
        (conv => whnf)
        refine Ends.read [1] (cellsR true (lowA 2 a v)) rfl rfl (cellsR_free _ _) (.int_of e.symm) ⟨.free hB, .free hL, .free hS, .free .int, ?_, .free .int, .free .bool, .free .int, .free .bool, .free .int, .free (encW_free _ _), trivial⟩ (fun _ => rfl) (one_none rfl) (by simp)
        show LeV _ _ _ _ _ _ (encLegs true (pathA v))
        rw [ep]
        exact LeV.freeze_of (by simp) rfl (by simp [wayA]) (rowsLegs_free true (wayA told)) (by rw [List.drop_zero]; exact List.take_of_length_le (by simp [wayA]))
  · have e : lowE 2 v = 294 := by
      rw [legs_one] at law
      simp [lowE, pathE, law]
    (conv => whnf)
    intro _
    (conv => whnf)
    intro _
    (conv => whnf)
    exact Ends.readE rfl rfl hB hL hS e.symm (by rw [e]; decide)
  · have hw : IntKind.i64.wrap (2 + IntKind.i64.wrap (4 * IntKind.i64.wrap (n.toNat : Int))) = (2 + 4 * n.toNat : Nat) := by
      have := n.toNat_lt
      rw [wrap64 (n := (n.toNat : Int)) (by omega) (by omega), wrap64 (n := 4 * (n.toNat : Int)) (by omega) (by omega), wrap64 (by omega) (by omega)]
      omega
    (conv => whnf)
    intro _
    (conv => whnf)
    split
    case h_2 h => exact absurd h (by simp; omega)
    (conv => whnf)
    intro _
    (conv => whnf)
    intro _
    (conv => whnf)
    refine ⟨rfl, _, ⟨by simp, rfl⟩, ?_⟩
    (conv => whnf)
    split
    · rename_i h
      have h : r.length < 4 * n.toNat := by rw [hw] at h; simp at h; omega
      have e : lowE 2 v = 294 := by
        rw [legs_no h] at law
        simp [lowE, pathE, law]
      (conv => whnf)
      exact Ends.readE rfl rfl hB hL hS e.symm (by rw [e]; decide)
    rename_i h
    have h : ¬ r.length < 4 * n.toNat := by rw [hw] at h; simp at h; omega
    (conv => whnf)
    refine ⟨rfl, _, ⟨by simp, rfl⟩, ?_⟩
    (conv => whnf)
    have hsl : List.drop (Int.toNat 2) (List.take (IntKind.i64.wrap (2 + IntKind.i64.wrap (4 * IntKind.i64.wrap (n.toNat : Int)))).toNat (List.map (fun x => [V.int .u8 x.toNat]) (x :: n :: r))) = rowsB (r.take (4 * n.toNat)) := by
      rw [hw, Int.toNat_natCast, ← List.map_take, ← List.map_drop, show 2 + 4 * n.toNat = (4 * n.toNat) + 1 + 1 by omega]
      rfl
    have hnk : numsK (r.take (4 * n.toNat)) n.toNat = numsK r n.toNat := numsK_take _ _ _ (Nat.le_refl _)
    have hn256 := n.toNat_lt
    have hfew := few
    simp only [List.length_cons] at hfew
    have hsl2 : List.drop (IntKind.i64.wrap (2 + IntKind.i64.wrap (4 * IntKind.i64.wrap (n.toNat : Int)))).toNat (List.map (fun x => [V.int .u8 x.toNat]) (x :: n :: r)) = rowsB (r.drop (4 * n.toNat)) := by
      rw [hw, Int.toNat_natCast, ← List.map_drop, show 2 + 4 * n.toNat = (4 * n.toNat) + 1 + 1 by omega]
      rfl
    have law' : legs v = (legs (r.drop (4 * n.toNat))).map ((told ++ [(x, numsK r n.toNat)]) ++ ·) := by
      rw [law, legs_go h, Option.map_map]
      congr 1
      funext l
      simp
    have hall : ((told ++ [(x, numsK r n.toNat)]).all fun p => kindOk p.1) = ((told.all fun p => kindOk p.1) && kindOk x) := by simp
    cases hk : (told.all fun p => kindOk p.1) with
    | false =>
      (conv => whnf)
      refine ⟨rfl, _, ⟨by simp, rfl⟩, ?_⟩
      (conv => whnf)
      refine ⟨rfl, ⟨by simp, by rw [hw]; omega, by rw [hw]; simp; omega, by rw [hw]; simp; omega⟩, ?_⟩
      (conv => whnf)
      refine ⟨encW true (numsK r n.toNat), [], fun h nx _ => ?_, by simp, ?_⟩
      · rw [← hnk]
        exact pureV_pure (numbers_ok fr (r.take (4 * n.toNat)) n.toNat (by simp; omega) (by omega)) ⟨.eq_of (congrArg (V.sl fr 1) hsl) (encB_free _ _), trivial⟩
      (conv => whnf)
      refine ⟨rfl, by simp, ⟨rfl, rfl, rfl, rfl, by decide⟩, by simp [wayA], ⟨by simp [tab, tabOf, nth]; omega, by simp; omega⟩, ?_⟩
      (conv => whnf)
      refine ⟨by kernel_rfl, ?_⟩
      (conv => whnf)
      refine ⟨rfl, ⟨by rw [hw]; omega, by rw [hw]; simp; omega⟩, ?_⟩
      (conv => whnf)
      refine ⟨⟨r.drop (4 * n.toNat), told ++ [(x, numsK r n.toNat)], law', by simp at len ⊢; omega, by simp; omega⟩, Wk.of (renOf [(1, 3)]) [] ⟨.ptr rfl (by omega), .eq_of (congrArg (V.sl fr 1) hsl2) (encB_free _ _), .bool_of ?_, trivial⟩ (LeH.of ⟨⟨by omega, .inl ⟨by simp, _, rfl, id, rfl, .free hB, .free hL, .free hS, .free .int, .osl_of rfl (by omega) (by simp), .free .int, .free .bool, .free .int, .free .bool, .free .int, .free (encW_free _ _), trivial⟩⟩, ⟨by omega, .inl ⟨by simp, _, rfl, LeB.eq_of ?_ (rowsLegs_free true _)⟩⟩, trivial⟩ (show ∀ b ∈ [0, 1], ∀ b' ∈ [0, 1], renOf [(1, 3)] b = renOf [(1, 3)] b' → b = b' by decide) (show ∀ b, b < 1 → renOf [(1, 3)] b = b by decide) (by omega) (by simp)), by simp only [List.length_cons, List.length_drop]; omega⟩
      · symm
        exact (by rw [hall, hk]; rfl)
      · simp only
        rw [List.take_of_length_le (by simp [wayA])]
        simp [wayA, legOf, encLeg, u8_is1, encW]
    | true =>
      (conv => whnf)
      refine ⟨rfl, _, ⟨by simp, rfl⟩, ?_⟩
      (conv => whnf)
      split
      · rename_i h1
        have h1 : kindOk x = true := by
          simp only [u8_is1] at h1
          simp [kindOk, h1]
        (conv => whnf)
        refine ⟨rfl, _, ⟨by simp, rfl⟩, ?_⟩
        (conv => whnf)
        refine ⟨rfl, ⟨by simp, by rw [hw]; omega, by rw [hw]; simp; omega, by rw [hw]; simp; omega⟩, ?_⟩
        (conv => whnf)
        refine ⟨encW true (numsK r n.toNat), [], fun h nx _ => ?_, by simp, ?_⟩
        · rw [← hnk]
          exact pureV_pure (numbers_ok fr (r.take (4 * n.toNat)) n.toNat (by simp; omega) (by omega)) ⟨.eq_of (congrArg (V.sl fr 1) hsl) (encB_free _ _), trivial⟩
        (conv => whnf)
        refine ⟨rfl, by simp, ⟨rfl, rfl, rfl, rfl, by decide⟩, by simp [wayA], ⟨by simp [tab, tabOf, nth]; omega, by simp; omega⟩, ?_⟩
        (conv => whnf)
        refine ⟨by kernel_rfl, ?_⟩
        (conv => whnf)
        refine ⟨rfl, ⟨by rw [hw]; omega, by rw [hw]; simp; omega⟩, ?_⟩
        (conv => whnf)
        refine ⟨⟨r.drop (4 * n.toNat), told ++ [(x, numsK r n.toNat)], law', by simp at len ⊢; omega, by simp; omega⟩, Wk.of (renOf [(1, 3)]) [] ⟨.ptr rfl (by omega), .eq_of (congrArg (V.sl fr 1) hsl2) (encB_free _ _), .bool_of ?_, trivial⟩ (LeH.of ⟨⟨by omega, .inl ⟨by simp, _, rfl, id, rfl, .free hB, .free hL, .free hS, .free .int, .osl_of rfl (by omega) (by simp), .free .int, .free .bool, .free .int, .free .bool, .free .int, .free (encW_free _ _), trivial⟩⟩, ⟨by omega, .inl ⟨by simp, _, rfl, LeB.eq_of ?_ (rowsLegs_free true _)⟩⟩, trivial⟩ (show ∀ b ∈ [0, 1], ∀ b' ∈ [0, 1], renOf [(1, 3)] b = renOf [(1, 3)] b' → b = b' by decide) (show ∀ b, b < 1 → renOf [(1, 3)] b = b by decide) (by omega) (by simp)), by simp only [List.length_cons, List.length_drop]; omega⟩
        · symm
          exact (by rw [hall, hk, h1]; rfl)
        · simp only
          rw [List.take_of_length_le (by simp [wayA])]
          simp [wayA, legOf, encLeg, u8_is1, encW]
      · rename_i h1
        have h1 : kindOk x = (x == 2) := by
          simp only [u8_is1] at h1
          simp [kindOk, h1]
        (conv => whnf)
        refine ⟨rfl, _, ⟨by simp, rfl⟩, ?_⟩
        (conv => whnf)
        refine ⟨rfl, _, ⟨by simp, rfl⟩, ?_⟩
        (conv => whnf)
        refine ⟨rfl, ⟨by simp, by rw [hw]; omega, by rw [hw]; simp; omega, by rw [hw]; simp; omega⟩, ?_⟩
        (conv => whnf)
        refine ⟨encW true (numsK r n.toNat), [], fun h nx _ => ?_, by simp, ?_⟩
        · rw [← hnk]
          exact pureV_pure (numbers_ok fr (r.take (4 * n.toNat)) n.toNat (by simp; omega) (by omega)) ⟨.eq_of (congrArg (V.sl fr 1) hsl) (encB_free _ _), trivial⟩
        (conv => whnf)
        refine ⟨rfl, by simp, ⟨rfl, rfl, rfl, rfl, by decide⟩, by simp [wayA], ⟨by simp [tab, tabOf, nth]; omega, by simp; omega⟩, ?_⟩
        (conv => whnf)
        refine ⟨by kernel_rfl, ?_⟩
        (conv => whnf)
        refine ⟨rfl, ⟨by rw [hw]; omega, by rw [hw]; simp; omega⟩, ?_⟩
        (conv => whnf)
        refine ⟨⟨r.drop (4 * n.toNat), told ++ [(x, numsK r n.toNat)], law', by simp at len ⊢; omega, by simp; omega⟩, Wk.of (renOf [(1, 3)]) [] ⟨.ptr rfl (by omega), .eq_of (congrArg (V.sl fr 1) hsl2) (encB_free _ _), .bool_of ?_, trivial⟩ (LeH.of ⟨⟨by omega, .inl ⟨by simp, _, rfl, id, rfl, .free hB, .free hL, .free hS, .free .int, .osl_of rfl (by omega) (by simp), .free .int, .free .bool, .free .int, .free .bool, .free .int, .free (encW_free _ _), trivial⟩⟩, ⟨by omega, .inl ⟨by simp, _, rfl, LeB.eq_of ?_ (rowsLegs_free true _)⟩⟩, trivial⟩ (show ∀ b ∈ [0, 1], ∀ b' ∈ [0, 1], renOf [(1, 3)] b = renOf [(1, 3)] b' → b = b' by decide) (show ∀ b, b < 1 → renOf [(1, 3)] b = b by decide) (by omega) (by simp)), by simp only [List.length_cons, List.length_drop]; omega⟩
        · symm
          exact (by rw [hall, hk, h1]; simp [u8_is2])
        · simp only
          rw [List.take_of_length_le (by simp [wayA])]
          simp [wayA, legOf, encLeg, u8_is1, encW]
end Go.Proofs.YtehhligadnlijaaGreatDoor
set_option linter.unusedVariables false
set_option linter.unusedSimpArgs false
namespace Go.Proofs.YtehhligadnlijaaGreatDoor
open Go.RowKit
open Go.Proofs.Tryz (prog)
attribute [local irreducible] CallV RoundV
theorem and16 : ∀ n : Nat, n < 256 → decide (0 < bits .and .u8 (n : Int) 16) = (n / 16 % 2 == 1) := by decide +kernel
theorem andNot16 : ∀ n : Nat, n < 256 → bits .andNot .u8 (n : Int) 16 = (n : Int) - (if (n / 16 % 2 == 1) = true then 16 else 0) := by decide +kernel
theorem or_len (x y : UInt8) : bits .or .i64 (IntKind.i64.wrap (IntKind.i64.wrap (x.toNat : Int) * 2 ^ (min (Int.toNat 8) IntKind.i64.bits))) (IntKind.i64.wrap (y.toNat : Int)) = (256 * x.toNat + y.toNat : Nat) := by
  have hx := x.toNat_lt
  have hy := y.toNat_lt
  have e : (2 : Int) ^ (min (Int.toNat 8) IntKind.i64.bits) = 256 := by decide
  rw [e, wrap64 (n := (x.toNat : Int)) (by omega) (by omega), wrap64 (n := (y.toNat : Int)) (by omega) (by omega), wrap64 (by omega) (by omega)]
  rw [bits_join .i64 63 (by decide) (fun n h0 h1 => by rw [wrap64] <;> omega) 8 _ _ (by omega) (by omega) (by omega) (by omega) (by omega) (by omega)]
  omega
def oneE (b : List UInt8) (last : Nat) : Int := if headE b last ≠ 0 then headE b last else lowE (byteN b 1) (valB b)
def readerV (fr : Bool) (b : List UInt8) (last seen : Nat) (q : Bool) (a : Attrs) : List V := encB fr b :: .int .u8 last :: cI seen :: cellsR q a
def OneR (fr : Bool) (b : List UInt8) (last seen : Nat) (q : Bool) (a : Attrs) : V → Heap → Nat → Prop := fun v' h' nx' =>
  ∃ cells', v' = .int .i64 (oneE b last) ∧ (∀ x ∈ cells', Free x) ∧ (oneE b last = 0 → cells' = readerV fr (restB b) (byteN b 1) (if byteN b 1 ≤ 3 then seen + 1 else seen) (q || byteN b 1 == 2) (lowA (byteN b 1) a (valB b))) ∧ h' = [(0, some (.var true 147 cells'))] ∧ nx' = 1
theorem Ends.oneE {s : St} {e : Int} {fr : Bool} {b : List UInt8} {last seen : Nat} {q : Bool} {a : Attrs} {cells : List V} (hb : hget s.h 0 = some (.var true 147 cells)) (hf : ∀ x ∈ cells, Free x) (he : e = Go.Proofs.YtehhligadnlijaaGreatDoor.oneE b last) (hne : Go.Proofs.YtehhligadnlijaaGreatDoor.oneE b last ≠ 0) :
    ∃ v1 h' nx', Ends 1 s (.int .i64 e) v1 h' nx' ∧ OneR fr b last seen q a v1 h' nx' :=
  ⟨.int .i64 (Go.Proofs.YtehhligadnlijaaGreatDoor.oneE b last), [(0, some (.var true 147 cells))], 1, Ends.of id [] (.int_of he) (LeH.of ⟨⟨by omega, .inl ⟨by simp, _, hb, id, rfl, LeL.free hf⟩⟩, trivial⟩ (fun _ _ _ _ h => h) (fun _ _ => rfl) (by omega) (by simp)), cells, rfl, hf, fun h => absurd h hne, rfl, rfl⟩
theorem Ends.oneK {s : St} {e : Int} {fr : Bool} {b : List UInt8} {last seen : Nat} {q : Bool} {a : Attrs} {cells cells' : List V} (hb : hget s.h 0 = some (.var true 147 cells)) (hf : ∀ x ∈ cells', Free x) (hle : LeL s.h s.nx id 1 [] cells cells') (he : e = Go.Proofs.YtehhligadnlijaaGreatDoor.oneE b last)
    (h : Go.Proofs.YtehhligadnlijaaGreatDoor.oneE b last = 0 → cells' = readerV fr (restB b) (byteN b 1) (if byteN b 1 ≤ 3 then seen + 1 else seen) (q || byteN b 1 == 2) (lowA (byteN b 1) a (valB b))) :
    ∃ v1 h' nx', Ends 1 s (.int .i64 e) v1 h' nx' ∧ OneR fr b last seen q a v1 h' nx' :=
  ⟨.int .i64 (Go.Proofs.YtehhligadnlijaaGreatDoor.oneE b last), [(0, some (.var true 147 cells'))], 1, Ends.of id [] (.int_of he) (LeH.of ⟨⟨by omega, .inl ⟨by simp, _, hb, id, rfl, hle⟩⟩, trivial⟩ (fun _ _ _ _ h => h) (fun _ _ => rfl) (by omega) (by simp)), cells', rfl, hf, h, rfl, rfl⟩
theorem readerV_free (fr : Bool) (b : List UInt8) (last seen : Nat) (q : Bool) (a : Attrs) : ∀ x ∈ readerV fr b last seen q a, Free x := by
  intro x hx
  simp only [readerV, List.mem_cons] at hx
  rcases hx with rfl | rfl | rfl | hx
  · exact encB_free _ _
  · exact .int
  · exact .int
  · exact cellsR_free _ _ x hx
theorem headE_short {b : List UInt8} {last : Nat} (h : b.length < 3) : oneE b last = 290 := by simp [oneE, headE, h]
def codesL : List Nat := [1, 2, 3, 4, 5, 8]
def oneH (fr : Bool) (b : List UInt8) (last seen : Nat) (q : Bool) (a : Attrs) (x0 x1 : UInt8) (e : Int) : Heap :=
  [(0, some (.var true 147 (readerV fr b last seen q a))), (1, some (.var true 143 [.ptr 0 0])), (2, some (.var true 5 [cB x0])), (3, some (.var true 5 [cB x1])), (4, some (.var true 3 [cI (numB b)])), (5, some (.var true 3 [cI (atB b)])), (6, some (.var true 4 [.bool (lngB b)])), (7, some (.var true 29 [.int .i64 e]))]
theorem head_is {b : List UInt8} {last : Nat} (h3 : 3 ≤ b.length) (h4 : lngB b = true → 4 ≤ b.length) (hl : atB b + numB b ≤ b.length) (hf : 0 ≤ flagsI (byteN b 1)) :
    headE b last = if (byteN b 0 : Int) - (if lngB b then 16 else 0) ≠ flagsI (byteN b 1) ∨ lngB b ≠ decide (255 < numB b) then 292 else if byteN b 1 ≤ last then 293 else 0 := by
  unfold headE
  rw [if_neg (by omega), if_neg (by rintro ⟨h1, h2⟩; have := h4 h1; omega), if_neg (by omega), if_neg (by omega)]
theorem callV_read {f : FuncId} {args args0 : List V} {c : Nat} {v : List UInt8} {q : Bool} {a : Attrs} {B L S : V} {h : Heap} {nx b : Nat} {K : V → Heap → Nat → Prop} (hc : CallV prog f args0 [(0, some (.var true 147 (B :: L :: S :: cellsR q a)))] 1 (RR c v q a B L S))
    (hb : hget h b = some (.var true 147 (B :: L :: S :: cellsR q a))) (hB : Free B) (hL : Free L) (hS : Free S) (ha : LeL h nx (fun _ => b) 1 [] args args0)
    (hK : ∀ c8 : List V, c8.length = 8 → (∀ x ∈ c8, Free x) → (lowE c v = 0 → c8 = cellsR (q || c == 2) (lowA c a v)) → K (.int .i64 (lowE c v)) ((b, some (.var true 147 (B :: L :: S :: c8))) :: h) nx) : CallV prog f args h nx K := by
  refine callV_ptr (R := fun v' cells' => ∃ c8, cells' = B :: L :: S :: c8 ∧ v' = .int .i64 (lowE c v) ∧ c8.length = 8 ∧ (∀ x ∈ c8, Free x) ∧ (lowE c v = 0 → c8 = cellsR (q || c == 2) (lowA c a v))) (hc.mono ?_) hb ?_ ha ?_
  · rintro v' h' nx' ⟨c8, rfl, h8, hf, hok, rfl, rfl⟩
    exact ⟨_, ⟨c8, rfl, rfl, h8, hf, hok⟩, rfl, rfl⟩
  · intro x hx
    simp only [List.mem_cons] at hx
    rcases hx with rfl | rfl | rfl | hx
    · exact hB
    · exact hL
    · exact hS
    · exact cellsR_free _ _ x hx
  · rintro v' cells' ⟨c8, rfl, rfl, h8, hf, hok⟩
    refine ⟨.int, fun x hx => ?_, hK c8 h8 hf hok⟩
    simp only [List.mem_cons] at hx
    rcases hx with rfl | rfl | rfl | hx
    · exact hB
    · exact hL
    · exact hS
    · exact hf x hx
theorem rest8_free {fr : Bool} {b : List UInt8} {x : UInt8} {seen : Nat} {c8 : List V} (h : ∀ x ∈ c8, Free x) {n : Nat} : ∀ v ∈ (V.sl fr 1 (List.drop n (b.map fun x => [V.int .u8 x.toNat])) :: cB x :: cI seen :: c8), Free v := by
  intro v hv
  simp only [List.mem_cons] at hv
  rcases hv with rfl | rfl | rfl | hv
  · rw [← List.map_drop]; exact encB_free _ _
  · exact .int
  · exact .int
  · exact h v hv
theorem eight {c8 : List V} (h : c8.length = 8) : ∃ a0 a1 a2 a3 a4 a5 a6 a7, c8 = [a0, a1, a2, a3, a4, a5, a6, a7] := by
  rcases c8 with _ | ⟨a0, _ | ⟨a1, _ | ⟨a2, _ | ⟨a3, _ | ⟨a4, _ | ⟨a5, _ | ⟨a6, _ | ⟨a7, _ | ⟨a8, l⟩⟩⟩⟩⟩⟩⟩⟩⟩
  all_goals first | (exact ⟨a0, a1, a2, a3, a4, a5, a6, a7, rfl⟩) | (simp at h)
theorem LeL.of_eq {h : Heap} {nx : Nat} {ρ : Nat → Nat} {nx' : Nat} {Z : List Nat} {cs cs' : List V} (e : cs = cs') (hf : ∀ v ∈ cs', Free v) : LeL h nx ρ nx' Z cs cs' := by subst e; exact LeL.free hf
theorem attrV_free : Free (.sl true 5 attrRows) := .sl attrRows_free
theorem attributesV_cap : Free (.iptr true [.sl true 5 attrRows]) := .iptr (by intro v hv; simp at hv; subst hv; exact attrV_free)
theorem rest_free (fr : Bool) (b : List UInt8) (x : UInt8) (seen : Nat) (q : Bool) (a : Attrs) {n : Nat} : ∀ v ∈ (V.sl fr 1 (List.drop n (b.map fun x => [V.int .u8 x.toNat])) :: cB x :: cI seen :: cellsR q a), Free v := by
  intro v hv
  simp only [List.mem_cons] at hv
  rcases hv with rfl | rfl | rfl | hv
  · rw [← List.map_drop]; exact encB_free _ _
  · exact .int
  · exact .int
  · exact cellsR_free _ _ v hv
theorem iptr_fn_free (n : Nat) : Free (.iptr true [fnV n]) := .iptr (by intro v hv; simp at hv; subst hv; exact fnV_free _)
theorem flags_none {n : Nat} (h : ∀ j, j < 6 → codesL.getD j 0 ≠ n) : flagsI n = -1 := by
  have h0 := h 0 (by omega)
  have h1 := h 1 (by omega)
  have h2 := h 2 (by omega)
  have h3 := h 3 (by omega)
  have h4 := h 4 (by omega)
  have h5 := h 5 (by omega)
  simp [codesL] at h0 h1 h2 h3 h4 h5
  unfold flagsI
  rw [if_neg (by omega), if_neg (by omega), if_neg (by omega), if_neg (by omega), if_neg (by omega), if_neg (by omega)]
set_option maxRecDepth 100000 in
set_option maxHeartbeats 8000000 in
theorem one_ok (fr : Bool) (b : List UInt8) (hb : b.length ≤ 1000000) (last seen : Nat) (hlast : last < 256) (hseen : seen ≤ 1000000) (q : Bool) (hq : last < 2 → q = false) (a : Attrs) :
    CallV prog 109 [.ptr 0 0] [(0, some (.var true 147 (readerV fr b last seen q a)))] 1 (OneR fr b last seen q a) := by
  refine callV_of (fn := Go.Proofs.Tryz.f109) (body := _) tab_ok mixed rfl rfl (by decide) (by simp [Go.Proofs.Tryz.f109]) ?_
  (conv => whnf)
  intro _
  (conv => whnf)
  split
  · rename_i h
    have h : b.length < 3 := by simp at h; omega
    have e := headE_short (last := last) h
    (conv => whnf)
    exact Ends.oneE rfl (readerV_free _ _ _ _ _ _) e.symm (by rw [e]; decide)
  rename_i h
  have h : 3 ≤ b.length := by simp at h; omega
  obtain ⟨x0, x1, x2, r, hX⟩ : ∃ x0 x1 x2 r, b = x0 :: x1 :: x2 :: r := by
    rcases b with _ | ⟨x0, _ | ⟨x1, _ | ⟨x2, r⟩⟩⟩
    · simp at h
    · simp at h
    · simp at h
    · exact ⟨x0, x1, x2, r, rfl⟩
  have h0 := x0.toNat_lt
  have h1 := x1.toNat_lt
  have h2 := x2.toNat_lt
  have n0 : byteN b 0 = x0.toNat := by rw [hX]; rfl
  have n1 : byteN b 1 = x1.toNat := by rw [hX]; rfl
  have n2 : byteN b 2 = x2.toNat := by rw [hX]; rfl
  have w2 : IntKind.i64.wrap (x2.toNat : Int) = x2.toNat := wrap64 (by omega) (by omega)
  have eL : decide (0 < bits .and .u8 (x0.toNat : Int) 16) = lngB b := by rw [and16 x0.toNat h0, lngB, n0]
  (conv => whnf)
  refine ⟨rfl, [cB x0], ⟨by simp, by rw [hX]; rfl⟩, ?_⟩
  (conv => whnf)
  refine ⟨rfl, [cB x1], ⟨by simp, by rw [hX]; rfl⟩, ?_⟩
  (conv => whnf)
  refine ⟨rfl, [cB x2], ⟨by simp, by rw [hX]; rfl⟩, ?_⟩
  (conv => whnf)
  refine ⟨by kernel_rfl, ?_⟩
  (conv => whnf)
  rw [eL]
  cases hL : lngB b with
  | false =>
    have eN : numB b = x2.toNat := by simp [numB, hL, n2]
    have eA : atB b = 3 := by simp [atB, hL]
    have w3 : IntKind.i64.wrap (3 + IntKind.i64.wrap (x2.toNat : Int)) = (atB b + numB b : Nat) := by rw [w2, eN, eA, wrap64] <;> omega
    (conv => whnf)
    refine ⟨by kernel_rfl, ?_⟩
    (conv => whnf)
    split
    · rename_i h3
      have h3 : b.length < atB b + numB b := by rw [w3, List.length_map] at h3; simp at h3; omega
      have e : oneE b last = 290 := by simp [oneE, headE, hL, h3]
      (conv => whnf)
      exact Ends.oneE rfl (readerV_free _ _ _ _ _ _) e.symm (by rw [e]; decide)
    rename_i h3
    have h3 : atB b + numB b ≤ b.length := by rw [w3, List.length_map] at h3; simp at h3; omega
    have h4 : lngB b = true → 4 ≤ b.length := fun h => by rw [hL] at h; cases h
    have hAN : IntKind.i64.wrap ((atB b : Int) + (numB b : Int)) = (atB b + numB b : Nat) := by rw [wrap64] <;> omega
    have hd : decide ((255 : Int) < (numB b : Int)) = decide (255 < numB b) := decide_eq_decide.2 (by omega)
    have hse : IntKind.i64.wrap ((seen : Int) + 1) = (seen + 1 : Nat) := by rw [wrap64] <;> omega
    (conv => whnf)
    refine callV_pure attributes_ok trivial ?_
    (conv => whnf)
    refine callV_loop [(1, .ptr 1 0), (3, .ptr 2 0), (4, .ptr 3 0), (5, .ptr 4 0), (6, .ptr 5 0), (7, .ptr 6 0), (8, .ptr 7 0)] ⟨rfl, rfl, rfl, rfl, rfl, rfl, rfl, trivial⟩ fun asg' body' hasg hbody => ?_
    refine callV_of (fn := Go.Proofs.Tryz.f203) (body := _) tab_ok mixed rfl rfl (by decide) (by simp [Go.Proofs.Tryz.f203]) ?_
    (conv => whnf)
    intro _
    (conv => whnf)
    refine vcg_loop tab_ok mixed (fun k : {k : Nat // k ≤ 6 ∧ ∀ j, j < k → codesL.getD j 0 ≠ x1.toNat} => ⟨[(0, .yld 8), (1, .iptr true [.sl true 5 attrRows]), (5, .sl true 5 attrRows), (6, .int .i64 6), (7, cI k.1)], (8, some (.loop 141 [(1, .ptr 1 0), (3, .ptr 2 0), (4, .ptr 3 0), (5, .ptr 4 0), (6, .ptr 5 0), (7, .ptr 6 0), (8, .ptr 7 0)] [72] asg' body' .ready none)) :: oneH fr b last seen q a x0 x1 291, 9⟩) (fun k => 6 - k.1) ⟨0, by omega, by omega⟩ ?_ (fun k => ?_)
    · refine Wk.of id [] ⟨.yld rfl (by omega), .free attributesV_cap, .free attrV_free, .int_of rfl, .int_of rfl, trivial⟩ (LeH.of ⟨⟨by omega, .inl ⟨by simp, _, rfl, rfl, rfl, rfl, rfl, rfl, rfl, .ptr rfl (by omega), .ptr rfl (by omega), .ptr rfl (by omega), .ptr rfl (by omega), .ptr rfl (by omega), .ptr rfl (by omega), .ptr rfl (by omega), trivial⟩⟩,
        ⟨by omega, .inl ⟨by simp, _, rfl, LeB.free (blk := .var true 147 (readerV fr b last seen q a)) (readerV_free _ _ _ _ _ _)⟩⟩, ⟨by omega, .inl ⟨by simp, _, rfl, id, rfl, .ptr rfl (by omega), trivial⟩⟩, ⟨by omega, .inl ⟨by simp, _, rfl, id, rfl, .int_of rfl, trivial⟩⟩, ⟨by omega, .inl ⟨by simp, _, rfl, id, rfl, .int_of rfl, trivial⟩⟩,
        ⟨by omega, .inl ⟨by simp, _, rfl, id, rfl, .int_of (by rw [w2, eN]), trivial⟩⟩, ⟨by omega, .inl ⟨by simp, _, rfl, id, rfl, .int_of (by rw [eA]; rfl), trivial⟩⟩, ⟨by omega, .inl ⟨by simp, _, rfl, id, rfl, .bool_of hL.symm, trivial⟩⟩, ⟨by omega, .inl ⟨by simp, _, rfl, id, rfl, .int_of rfl, trivial⟩⟩, trivial⟩ (fun _ _ _ _ h => h) (fun _ _ => rfl) (by omega) (by simp))
    obtain ⟨k, hk, hne⟩ := k
    rcases k with _ | _ | _ | _ | _ | _ | _ | k
    case succ.succ.succ.succ.succ.succ.succ => omega
    case zero =>
      (conv => whnf)
      refine ⟨rfl, _, ⟨by simp, rfl⟩, ?_⟩
      (conv => whnf)
      subst hasg hbody
      refine roundV_of tab_ok mixed rfl (by simp) (show 8 < 10 by omega) ?_
      (conv => whnf)
      refine ⟨rfl, ?_⟩
      (conv => whnf)
      split
      · rename_i hc
        have hc : x1.toNat ≠ 1 := by simp at hc; omega
        (conv => whnf)
        refine ⟨rfl, ?_⟩
        (conv => whnf)
        refine ⟨⟨0 + 1, by omega, ?_⟩, Wk.of id [] ⟨.yld rfl (by omega), .free attributesV_cap, .free attrV_free, .int_of rfl, .int_of rfl, trivial⟩ (LeH.of ⟨⟨by omega, .inl ⟨by simp, _, rfl, rfl, rfl, rfl, rfl, rfl, rfl, .ptr rfl (by omega), .ptr rfl (by omega), .ptr rfl (by omega), .ptr rfl (by omega), .ptr rfl (by omega), .ptr rfl (by omega), .ptr rfl (by omega), trivial⟩⟩,
          ⟨by omega, .inl ⟨by simp, _, rfl, LeB.free (blk := .var true 147 (readerV fr b last seen q a)) (readerV_free _ _ _ _ _ _)⟩⟩, ⟨by omega, .inl ⟨by simp, _, rfl, id, rfl, .ptr rfl (by omega), trivial⟩⟩, ⟨by omega, .inl ⟨by simp, _, rfl, id, rfl, .free .int, trivial⟩⟩, ⟨by omega, .inl ⟨by simp, _, rfl, id, rfl, .free .int, trivial⟩⟩,
          ⟨by omega, .inl ⟨by simp, _, rfl, id, rfl, .free .int, trivial⟩⟩, ⟨by omega, .inl ⟨by simp, _, rfl, id, rfl, .free .int, trivial⟩⟩, ⟨by omega, .inl ⟨by simp, _, rfl, id, rfl, .free .bool, trivial⟩⟩, ⟨by omega, .inl ⟨by simp, _, rfl, id, rfl, .free .int, trivial⟩⟩, trivial⟩ (fun _ _ _ _ h => h) (fun _ _ => rfl) (by omega) (by simp)), by simp only; omega⟩
        intro j hj
        rcases Nat.lt_or_ge j 0 with h | h
        · exact hne j h
        · obtain rfl : j = 0 := by omega
          exact fun e => hc e.symm
      rename_i hc
      have hc : x1.toNat = 1 := by simp at hc; omega
      obtain rfl : x1 = 1 := UInt8.toNat_inj.1 hc
      have n1' : byteN b 1 = 1 := by rw [n1]; rfl
      (conv => whnf)
      have hF : flagsI (byteN b 1) = 64 := by rw [n1']; rfl
      have hH := head_is (last := last) h h4 h3 (by rw [hF]; decide)
      rw [hF] at hH
      cases hf : (bits BinOp.andNot IntKind.u8 (x0.toNat : Int) 16 != 64)
      case true =>
        have e : oneE b last = 292 := by
          have : headE b last = 292 := by
            rw [hH, if_pos]
            left
            rw [andNot16 _ h0] at hf
            rw [n0, show lngB b = (x0.toNat / 16 % 2 == 1) by rw [lngB, n0]]
            simpa using hf
          simp [oneE, this]
        (conv => whnf)
        refine ⟨rfl, ?_⟩
        (conv => whnf)
        refine ⟨_, _, _, Ends.here, ?_⟩
        (conv => whnf)
        refine ⟨rfl, ⟨by rw [hAN]; omega, by rw [hAN]; simp; omega⟩, ?_⟩
        (conv => whnf)
        refine ⟨by kernel_rfl, ?_⟩
        (conv => whnf)
        exact Ends.oneE rfl (rest_free _ _ _ _ _ _) e.symm (by rw [e]; decide)
      have hf : (byteN b 0 : Int) - (if lngB b then 16 else 0) = 64 := by
        rw [andNot16 _ h0] at hf
        rw [n0, show lngB b = (x0.toNat / 16 % 2 == 1) by rw [lngB, n0]]
        simpa using hf
      (conv => whnf)
      split
      · rename_i hg
        have e : oneE b last = 292 := by
          have : headE b last = 292 := by
            rw [hH, if_pos]
            right
            rw [hd] at hg
            simpa using hg
          simp [oneE, this]
        (conv => whnf)
        refine ⟨rfl, ?_⟩
        (conv => whnf)
        refine ⟨_, _, _, Ends.here, ?_⟩
        (conv => whnf)
        refine ⟨rfl, ⟨by rw [hAN]; omega, by rw [hAN]; simp; omega⟩, ?_⟩
        (conv => whnf)
        refine ⟨by kernel_rfl, ?_⟩
        (conv => whnf)
        exact Ends.oneE rfl (rest_free _ _ _ _ _ _) e.symm (by rw [e]; decide)
      rename_i hg
      have hg : lngB b = decide (255 < numB b) := by rw [hd] at hg; simpa using hg
      rw [if_neg (by rintro (h | h) <;> contradiction)] at hH
      (conv => whnf)
      refine ⟨by kernel_rfl, ?_⟩
      (conv => whnf)
      split
      · rename_i hr
        have e : oneE b last = 293 := by
          have : headE b last = 293 := by
            rw [hH, if_pos]
            rw [n1']
            simp at hr
            omega
          simp [oneE, this]
        (conv => whnf)
        refine ⟨rfl, ?_⟩
        (conv => whnf)
        refine ⟨_, _, _, Ends.here, ?_⟩
        (conv => whnf)
        refine ⟨rfl, ⟨by rw [hAN]; omega, by rw [hAN]; simp; omega⟩, ?_⟩
        (conv => whnf)
        refine ⟨by kernel_rfl, ?_⟩
        (conv => whnf)
        exact Ends.oneE rfl (rest_free _ _ _ _ _ _) e.symm (by rw [e]; decide)
      rename_i hr
      have hr : ¬ 1 ≤ last := by simp at hr; omega
      rw [if_neg (by rw [n1']; exact hr)] at hH
      (conv => whnf)
      refine ⟨rfl, ⟨by omega, by rw [hAN]; omega, by rw [hAN]; simp; omega, by rw [hAN]; simp; omega⟩, ?_⟩
      (conv => whnf)
      refine ⟨by kernel_rfl, ?_⟩
      (conv => whnf)
      have hsl : V.sl fr 1 (List.drop (atB b : Int).toNat (List.take (IntKind.i64.wrap ((atB b : Int) + (numB b : Int))).toNat (List.map (fun x => [V.int .u8 x.toNat]) b))) = encB fr (valB b) := by
        rw [hAN, Int.toNat_natCast, Int.toNat_natCast, ← List.map_take, ← List.map_drop, List.drop_take, Nat.add_sub_cancel_left]
        rfl
      have hsr : V.sl fr 1 (List.drop (IntKind.i64.wrap ((atB b : Int) + (numB b : Int))).toNat (List.map (fun x => [V.int .u8 x.toNat]) b)) = encB fr (restB b) := by
        rw [hAN, Int.toNat_natCast, ← List.map_drop]
        rfl
      have hvl : (valB b).length ≤ 1000000 := by simp [valB]; omega
      refine callV_read (b := 0) (read1_ok fr (valB b) q a _ _ _ (encB_free _ _) .int .int) rfl (encB_free _ _) .int .int ⟨.ptr rfl (by omega), .eq_of hsl (encB_free _ _), trivial⟩ fun c8 h8 hf8 hok => ?_
      obtain ⟨a0, a1, a2, a3, a4, a5, a6, a7, rfl⟩ := eight h8
      have ee : oneE b last = lowE 1 (valB b) := by
        rw [oneE, if_neg (by simp [hH]), n1']
      (conv => whnf)
      refine ⟨rfl, ?_⟩
      (conv => whnf)
      refine ⟨_, _, _, Ends.here, ?_⟩
      (conv => whnf)
      cases he : (lowE 1 (valB b) == 0) with
      | false =>
        have he' : lowE 1 (valB b) ≠ 0 := by simpa using he
        (conv => whnf)
        refine ⟨rfl, ⟨by rw [hAN]; omega, by rw [hAN]; simp; omega⟩, ?_⟩
        (conv => whnf)
        refine ⟨by kernel_rfl, ?_⟩
        (conv => whnf)
        exact Ends.oneE rfl (rest8_free hf8) ee.symm (by rw [ee]; exact he')
      | true =>
        have he' : lowE 1 (valB b) = 0 := by simpa using he
        have h8 := hok he'
        (conv => whnf)
        refine ⟨rfl, ⟨by rw [hAN]; omega, by rw [hAN]; simp; omega⟩, ?_⟩
        (conv => whnf)
        refine ⟨by kernel_rfl, ?_⟩
        (conv => whnf)
        refine Ends.oneK (cells' := readerV fr (restB b) 1 (seen + 1) _ (lowA 1 a (valB b))) rfl (readerV_free _ _ _ _ _ _) ⟨.eq_of hsr (encB_free _ _), .int_of rfl, .int_of hse, .of_eq h8 (cellsR_free _ _)⟩ ee.symm (fun _ => by rw [n1']; rfl)
    case succ.zero =>
      (conv => whnf)
      refine ⟨rfl, _, ⟨by simp, rfl⟩, ?_⟩
      (conv => whnf)
      subst hasg hbody
      refine roundV_of tab_ok mixed rfl (by simp) (show 8 < 10 by omega) ?_
      (conv => whnf)
      refine ⟨rfl, ?_⟩
      (conv => whnf)
      split
      · rename_i hc
        have hc : x1.toNat ≠ 2 := by simp at hc; omega
        (conv => whnf)
        refine ⟨rfl, ?_⟩
        (conv => whnf)
        refine ⟨⟨1 + 1, by omega, ?_⟩, Wk.of id [] ⟨.yld rfl (by omega), .free attributesV_cap, .free attrV_free, .int_of rfl, .int_of rfl, trivial⟩ (LeH.of ⟨⟨by omega, .inl ⟨by simp, _, rfl, rfl, rfl, rfl, rfl, rfl, rfl, .ptr rfl (by omega), .ptr rfl (by omega), .ptr rfl (by omega), .ptr rfl (by omega), .ptr rfl (by omega), .ptr rfl (by omega), .ptr rfl (by omega), trivial⟩⟩,
          ⟨by omega, .inl ⟨by simp, _, rfl, LeB.free (blk := .var true 147 (readerV fr b last seen q a)) (readerV_free _ _ _ _ _ _)⟩⟩, ⟨by omega, .inl ⟨by simp, _, rfl, id, rfl, .ptr rfl (by omega), trivial⟩⟩, ⟨by omega, .inl ⟨by simp, _, rfl, id, rfl, .free .int, trivial⟩⟩, ⟨by omega, .inl ⟨by simp, _, rfl, id, rfl, .free .int, trivial⟩⟩,
          ⟨by omega, .inl ⟨by simp, _, rfl, id, rfl, .free .int, trivial⟩⟩, ⟨by omega, .inl ⟨by simp, _, rfl, id, rfl, .free .int, trivial⟩⟩, ⟨by omega, .inl ⟨by simp, _, rfl, id, rfl, .free .bool, trivial⟩⟩, ⟨by omega, .inl ⟨by simp, _, rfl, id, rfl, .free .int, trivial⟩⟩, trivial⟩ (fun _ _ _ _ h => h) (fun _ _ => rfl) (by omega) (by simp)), by simp only; omega⟩
        intro j hj
        rcases Nat.lt_or_ge j 1 with h | h
        · exact hne j h
        · obtain rfl : j = 1 := by omega
          exact fun e => hc e.symm
      rename_i hc
      have hc : x1.toNat = 2 := by simp at hc; omega
      obtain rfl : x1 = 2 := UInt8.toNat_inj.1 hc
      have n1' : byteN b 1 = 2 := by rw [n1]; rfl
      (conv => whnf)
      have hF : flagsI (byteN b 1) = 64 := by rw [n1']; rfl
      have hH := head_is (last := last) h h4 h3 (by rw [hF]; decide)
      rw [hF] at hH
      cases hf : (bits BinOp.andNot IntKind.u8 (x0.toNat : Int) 16 != 64)
      case true =>
        have e : oneE b last = 292 := by
          have : headE b last = 292 := by
            rw [hH, if_pos]
            left
            rw [andNot16 _ h0] at hf
            rw [n0, show lngB b = (x0.toNat / 16 % 2 == 1) by rw [lngB, n0]]
            simpa using hf
          simp [oneE, this]
        (conv => whnf)
        refine ⟨rfl, ?_⟩
        (conv => whnf)
        refine ⟨_, _, _, Ends.here, ?_⟩
        (conv => whnf)
        refine ⟨rfl, ⟨by rw [hAN]; omega, by rw [hAN]; simp; omega⟩, ?_⟩
        (conv => whnf)
        refine ⟨by kernel_rfl, ?_⟩
        (conv => whnf)
        exact Ends.oneE rfl (rest_free _ _ _ _ _ _) e.symm (by rw [e]; decide)
      have hf : (byteN b 0 : Int) - (if lngB b then 16 else 0) = 64 := by
        rw [andNot16 _ h0] at hf
        rw [n0, show lngB b = (x0.toNat / 16 % 2 == 1) by rw [lngB, n0]]
        simpa using hf
      (conv => whnf)
      split
      · rename_i hg
        have e : oneE b last = 292 := by
          have : headE b last = 292 := by
            rw [hH, if_pos]
            right
            rw [hd] at hg
            simpa using hg
          simp [oneE, this]
        (conv => whnf)
        refine ⟨rfl, ?_⟩
        (conv => whnf)
        refine ⟨_, _, _, Ends.here, ?_⟩
        (conv => whnf)
        refine ⟨rfl, ⟨by rw [hAN]; omega, by rw [hAN]; simp; omega⟩, ?_⟩
        (conv => whnf)
        refine ⟨by kernel_rfl, ?_⟩
        (conv => whnf)
        exact Ends.oneE rfl (rest_free _ _ _ _ _ _) e.symm (by rw [e]; decide)
      rename_i hg
      have hg : lngB b = decide (255 < numB b) := by rw [hd] at hg; simpa using hg
      rw [if_neg (by rintro (h | h) <;> contradiction)] at hH
      (conv => whnf)
      refine ⟨by kernel_rfl, ?_⟩
      (conv => whnf)
      split
      · rename_i hr
        have e : oneE b last = 293 := by
          have : headE b last = 293 := by
            rw [hH, if_pos]
            rw [n1']
            simp at hr
            omega
          simp [oneE, this]
        (conv => whnf)
        refine ⟨rfl, ?_⟩
        (conv => whnf)
        refine ⟨_, _, _, Ends.here, ?_⟩
        (conv => whnf)
        refine ⟨rfl, ⟨by rw [hAN]; omega, by rw [hAN]; simp; omega⟩, ?_⟩
        (conv => whnf)
        refine ⟨by kernel_rfl, ?_⟩
        (conv => whnf)
        exact Ends.oneE rfl (rest_free _ _ _ _ _ _) e.symm (by rw [e]; decide)
      rename_i hr
      have hr : ¬ 2 ≤ last := by simp at hr; omega
      rw [if_neg (by rw [n1']; exact hr)] at hH
      (conv => whnf)
      refine ⟨rfl, ⟨by omega, by rw [hAN]; omega, by rw [hAN]; simp; omega, by rw [hAN]; simp; omega⟩, ?_⟩
      (conv => whnf)
      refine ⟨by kernel_rfl, ?_⟩
      (conv => whnf)
      obtain rfl := hq (by omega)
      have hsl : V.sl fr 1 (List.drop (atB b : Int).toNat (List.take (IntKind.i64.wrap ((atB b : Int) + (numB b : Int))).toNat (List.map (fun x => [V.int .u8 x.toNat]) b))) = encB fr (valB b) := by
        rw [hAN, Int.toNat_natCast, Int.toNat_natCast, ← List.map_take, ← List.map_drop, List.drop_take, Nat.add_sub_cancel_left]
        rfl
      have hsr : V.sl fr 1 (List.drop (IntKind.i64.wrap ((atB b : Int) + (numB b : Int))).toNat (List.map (fun x => [V.int .u8 x.toNat]) b)) = encB fr (restB b) := by
        rw [hAN, Int.toNat_natCast, ← List.map_drop]
        rfl
      have hvl : (valB b).length ≤ 1000000 := by simp [valB]; omega
      refine callV_read (b := 0) (readRoute_ok fr (valB b) hvl a _ _ _ (encB_free _ _) .int .int) rfl (encB_free _ _) .int .int ⟨.ptr rfl (by omega), .eq_of hsl (encB_free _ _), trivial⟩ fun c8 h8 hf8 hok => ?_
      obtain ⟨a0, a1, a2, a3, a4, a5, a6, a7, rfl⟩ := eight h8
      have ee : oneE b last = lowE 2 (valB b) := by
        rw [oneE, if_neg (by simp [hH]), n1']
      (conv => whnf)
      refine ⟨rfl, ?_⟩
      (conv => whnf)
      refine ⟨_, _, _, Ends.here, ?_⟩
      (conv => whnf)
      cases he : (lowE 2 (valB b) == 0) with
      | false =>
        have he' : lowE 2 (valB b) ≠ 0 := by simpa using he
        (conv => whnf)
        refine ⟨rfl, ⟨by rw [hAN]; omega, by rw [hAN]; simp; omega⟩, ?_⟩
        (conv => whnf)
        refine ⟨by kernel_rfl, ?_⟩
        (conv => whnf)
        exact Ends.oneE rfl (rest8_free hf8) ee.symm (by rw [ee]; exact he')
      | true =>
        have he' : lowE 2 (valB b) = 0 := by simpa using he
        have h8 := hok he'
        (conv => whnf)
        refine ⟨rfl, ⟨by rw [hAN]; omega, by rw [hAN]; simp; omega⟩, ?_⟩
        (conv => whnf)
        refine ⟨by kernel_rfl, ?_⟩
        (conv => whnf)
        refine Ends.oneK (cells' := readerV fr (restB b) 2 (seen + 1) _ (lowA 2 a (valB b))) rfl (readerV_free _ _ _ _ _ _) ⟨.eq_of hsr (encB_free _ _), .int_of rfl, .int_of hse, .of_eq h8 (cellsR_free _ _)⟩ ee.symm (fun _ => by rw [n1']; rfl)
    case succ.succ.zero =>
      (conv => whnf)
      refine ⟨rfl, _, ⟨by simp, rfl⟩, ?_⟩
      (conv => whnf)
      subst hasg hbody
      refine roundV_of tab_ok mixed rfl (by simp) (show 8 < 10 by omega) ?_
      (conv => whnf)
      refine ⟨rfl, ?_⟩
      (conv => whnf)
      split
      · rename_i hc
        have hc : x1.toNat ≠ 3 := by simp at hc; omega
        (conv => whnf)
        refine ⟨rfl, ?_⟩
        (conv => whnf)
        refine ⟨⟨2 + 1, by omega, ?_⟩, Wk.of id [] ⟨.yld rfl (by omega), .free attributesV_cap, .free attrV_free, .int_of rfl, .int_of rfl, trivial⟩ (LeH.of ⟨⟨by omega, .inl ⟨by simp, _, rfl, rfl, rfl, rfl, rfl, rfl, rfl, .ptr rfl (by omega), .ptr rfl (by omega), .ptr rfl (by omega), .ptr rfl (by omega), .ptr rfl (by omega), .ptr rfl (by omega), .ptr rfl (by omega), trivial⟩⟩,
          ⟨by omega, .inl ⟨by simp, _, rfl, LeB.free (blk := .var true 147 (readerV fr b last seen q a)) (readerV_free _ _ _ _ _ _)⟩⟩, ⟨by omega, .inl ⟨by simp, _, rfl, id, rfl, .ptr rfl (by omega), trivial⟩⟩, ⟨by omega, .inl ⟨by simp, _, rfl, id, rfl, .free .int, trivial⟩⟩, ⟨by omega, .inl ⟨by simp, _, rfl, id, rfl, .free .int, trivial⟩⟩,
          ⟨by omega, .inl ⟨by simp, _, rfl, id, rfl, .free .int, trivial⟩⟩, ⟨by omega, .inl ⟨by simp, _, rfl, id, rfl, .free .int, trivial⟩⟩, ⟨by omega, .inl ⟨by simp, _, rfl, id, rfl, .free .bool, trivial⟩⟩, ⟨by omega, .inl ⟨by simp, _, rfl, id, rfl, .free .int, trivial⟩⟩, trivial⟩ (fun _ _ _ _ h => h) (fun _ _ => rfl) (by omega) (by simp)), by simp only; omega⟩
        intro j hj
        rcases Nat.lt_or_ge j 2 with h | h
        · exact hne j h
        · obtain rfl : j = 2 := by omega
          exact fun e => hc e.symm
      rename_i hc
      have hc : x1.toNat = 3 := by simp at hc; omega
      obtain rfl : x1 = 3 := UInt8.toNat_inj.1 hc
      have n1' : byteN b 1 = 3 := by rw [n1]; rfl
      (conv => whnf)
      have hF : flagsI (byteN b 1) = 64 := by rw [n1']; rfl
      have hH := head_is (last := last) h h4 h3 (by rw [hF]; decide)
      rw [hF] at hH
      cases hf : (bits BinOp.andNot IntKind.u8 (x0.toNat : Int) 16 != 64)
      case true =>
        have e : oneE b last = 292 := by
          have : headE b last = 292 := by
            rw [hH, if_pos]
            left
            rw [andNot16 _ h0] at hf
            rw [n0, show lngB b = (x0.toNat / 16 % 2 == 1) by rw [lngB, n0]]
            simpa using hf
          simp [oneE, this]
        (conv => whnf)
        refine ⟨rfl, ?_⟩
        (conv => whnf)
        refine ⟨_, _, _, Ends.here, ?_⟩
        (conv => whnf)
        refine ⟨rfl, ⟨by rw [hAN]; omega, by rw [hAN]; simp; omega⟩, ?_⟩
        (conv => whnf)
        refine ⟨by kernel_rfl, ?_⟩
        (conv => whnf)
        exact Ends.oneE rfl (rest_free _ _ _ _ _ _) e.symm (by rw [e]; decide)
      have hf : (byteN b 0 : Int) - (if lngB b then 16 else 0) = 64 := by
        rw [andNot16 _ h0] at hf
        rw [n0, show lngB b = (x0.toNat / 16 % 2 == 1) by rw [lngB, n0]]
        simpa using hf
      (conv => whnf)
      split
      · rename_i hg
        have e : oneE b last = 292 := by
          have : headE b last = 292 := by
            rw [hH, if_pos]
            right
            rw [hd] at hg
            simpa using hg
          simp [oneE, this]
        (conv => whnf)
        refine ⟨rfl, ?_⟩
        (conv => whnf)
        refine ⟨_, _, _, Ends.here, ?_⟩
        (conv => whnf)
        refine ⟨rfl, ⟨by rw [hAN]; omega, by rw [hAN]; simp; omega⟩, ?_⟩
        (conv => whnf)
        refine ⟨by kernel_rfl, ?_⟩
        (conv => whnf)
        exact Ends.oneE rfl (rest_free _ _ _ _ _ _) e.symm (by rw [e]; decide)
      rename_i hg
      have hg : lngB b = decide (255 < numB b) := by rw [hd] at hg; simpa using hg
      rw [if_neg (by rintro (h | h) <;> contradiction)] at hH
      (conv => whnf)
      refine ⟨by kernel_rfl, ?_⟩
      (conv => whnf)
      split
      · rename_i hr
        have e : oneE b last = 293 := by
          have : headE b last = 293 := by
            rw [hH, if_pos]
            rw [n1']
            simp at hr
            omega
          simp [oneE, this]
        (conv => whnf)
        refine ⟨rfl, ?_⟩
        (conv => whnf)
        refine ⟨_, _, _, Ends.here, ?_⟩
        (conv => whnf)
        refine ⟨rfl, ⟨by rw [hAN]; omega, by rw [hAN]; simp; omega⟩, ?_⟩
        (conv => whnf)
        refine ⟨by kernel_rfl, ?_⟩
        (conv => whnf)
        exact Ends.oneE rfl (rest_free _ _ _ _ _ _) e.symm (by rw [e]; decide)
      rename_i hr
      have hr : ¬ 3 ≤ last := by simp at hr; omega
      rw [if_neg (by rw [n1']; exact hr)] at hH
      (conv => whnf)
      refine ⟨rfl, ⟨by omega, by rw [hAN]; omega, by rw [hAN]; simp; omega, by rw [hAN]; simp; omega⟩, ?_⟩
      (conv => whnf)
      refine ⟨by kernel_rfl, ?_⟩
      (conv => whnf)
      have hsl : V.sl fr 1 (List.drop (atB b : Int).toNat (List.take (IntKind.i64.wrap ((atB b : Int) + (numB b : Int))).toNat (List.map (fun x => [V.int .u8 x.toNat]) b))) = encB fr (valB b) := by
        rw [hAN, Int.toNat_natCast, Int.toNat_natCast, ← List.map_take, ← List.map_drop, List.drop_take, Nat.add_sub_cancel_left]
        rfl
      have hsr : V.sl fr 1 (List.drop (IntKind.i64.wrap ((atB b : Int) + (numB b : Int))).toNat (List.map (fun x => [V.int .u8 x.toNat]) b)) = encB fr (restB b) := by
        rw [hAN, Int.toNat_natCast, ← List.map_drop]
        rfl
      have hvl : (valB b).length ≤ 1000000 := by simp [valB]; omega
      refine callV_read (b := 0) (read3_ok fr (valB b) q a _ _ _ (encB_free _ _) .int .int) rfl (encB_free _ _) .int .int ⟨.ptr rfl (by omega), .eq_of hsl (encB_free _ _), .free (iptr_fn_free _), trivial⟩ fun c8 h8 hf8 hok => ?_
      obtain ⟨a0, a1, a2, a3, a4, a5, a6, a7, rfl⟩ := eight h8
      have ee : oneE b last = lowE 3 (valB b) := by
        rw [oneE, if_neg (by simp [hH]), n1']
      (conv => whnf)
      refine ⟨rfl, ?_⟩
      (conv => whnf)
      refine ⟨_, _, _, Ends.here, ?_⟩
      (conv => whnf)
      cases he : (lowE 3 (valB b) == 0) with
      | false =>
        have he' : lowE 3 (valB b) ≠ 0 := by simpa using he
        (conv => whnf)
        refine ⟨rfl, ⟨by rw [hAN]; omega, by rw [hAN]; simp; omega⟩, ?_⟩
        (conv => whnf)
        refine ⟨by kernel_rfl, ?_⟩
        (conv => whnf)
        exact Ends.oneE rfl (rest8_free hf8) ee.symm (by rw [ee]; exact he')
      | true =>
        have he' : lowE 3 (valB b) = 0 := by simpa using he
        have h8 := hok he'
        (conv => whnf)
        refine ⟨rfl, ⟨by rw [hAN]; omega, by rw [hAN]; simp; omega⟩, ?_⟩
        (conv => whnf)
        refine ⟨by kernel_rfl, ?_⟩
        (conv => whnf)
        refine Ends.oneK (cells' := readerV fr (restB b) 3 (seen + 1) _ (lowA 3 a (valB b))) rfl (readerV_free _ _ _ _ _ _) ⟨.eq_of hsr (encB_free _ _), .int_of rfl, .int_of hse, .of_eq h8 (cellsR_free _ _)⟩ ee.symm (fun _ => by rw [n1']; rfl)
    case succ.succ.succ.zero =>
      (conv => whnf)
      refine ⟨rfl, _, ⟨by simp, rfl⟩, ?_⟩
      (conv => whnf)
      subst hasg hbody
      refine roundV_of tab_ok mixed rfl (by simp) (show 8 < 10 by omega) ?_
      (conv => whnf)
      refine ⟨rfl, ?_⟩
      (conv => whnf)
      split
      · rename_i hc
        have hc : x1.toNat ≠ 4 := by simp at hc; omega
        (conv => whnf)
        refine ⟨rfl, ?_⟩
        (conv => whnf)
        refine ⟨⟨3 + 1, by omega, ?_⟩, Wk.of id [] ⟨.yld rfl (by omega), .free attributesV_cap, .free attrV_free, .int_of rfl, .int_of rfl, trivial⟩ (LeH.of ⟨⟨by omega, .inl ⟨by simp, _, rfl, rfl, rfl, rfl, rfl, rfl, rfl, .ptr rfl (by omega), .ptr rfl (by omega), .ptr rfl (by omega), .ptr rfl (by omega), .ptr rfl (by omega), .ptr rfl (by omega), .ptr rfl (by omega), trivial⟩⟩,
          ⟨by omega, .inl ⟨by simp, _, rfl, LeB.free (blk := .var true 147 (readerV fr b last seen q a)) (readerV_free _ _ _ _ _ _)⟩⟩, ⟨by omega, .inl ⟨by simp, _, rfl, id, rfl, .ptr rfl (by omega), trivial⟩⟩, ⟨by omega, .inl ⟨by simp, _, rfl, id, rfl, .free .int, trivial⟩⟩, ⟨by omega, .inl ⟨by simp, _, rfl, id, rfl, .free .int, trivial⟩⟩,
          ⟨by omega, .inl ⟨by simp, _, rfl, id, rfl, .free .int, trivial⟩⟩, ⟨by omega, .inl ⟨by simp, _, rfl, id, rfl, .free .int, trivial⟩⟩, ⟨by omega, .inl ⟨by simp, _, rfl, id, rfl, .free .bool, trivial⟩⟩, ⟨by omega, .inl ⟨by simp, _, rfl, id, rfl, .free .int, trivial⟩⟩, trivial⟩ (fun _ _ _ _ h => h) (fun _ _ => rfl) (by omega) (by simp)), by simp only; omega⟩
        intro j hj
        rcases Nat.lt_or_ge j 3 with h | h
        · exact hne j h
        · obtain rfl : j = 3 := by omega
          exact fun e => hc e.symm
      rename_i hc
      have hc : x1.toNat = 4 := by simp at hc; omega
      obtain rfl : x1 = 4 := UInt8.toNat_inj.1 hc
      have n1' : byteN b 1 = 4 := by rw [n1]; rfl
      (conv => whnf)
      have hF : flagsI (byteN b 1) = 128 := by rw [n1']; rfl
      have hH := head_is (last := last) h h4 h3 (by rw [hF]; decide)
      rw [hF] at hH
      cases hf : (bits BinOp.andNot IntKind.u8 (x0.toNat : Int) 16 != 128)
      case true =>
        have e : oneE b last = 292 := by
          have : headE b last = 292 := by
            rw [hH, if_pos]
            left
            rw [andNot16 _ h0] at hf
            rw [n0, show lngB b = (x0.toNat / 16 % 2 == 1) by rw [lngB, n0]]
            simpa using hf
          simp [oneE, this]
        (conv => whnf)
        refine ⟨rfl, ?_⟩
        (conv => whnf)
        refine ⟨_, _, _, Ends.here, ?_⟩
        (conv => whnf)
        refine ⟨rfl, ⟨by rw [hAN]; omega, by rw [hAN]; simp; omega⟩, ?_⟩
        (conv => whnf)
        refine ⟨by kernel_rfl, ?_⟩
        (conv => whnf)
        exact Ends.oneE rfl (rest_free _ _ _ _ _ _) e.symm (by rw [e]; decide)
      have hf : (byteN b 0 : Int) - (if lngB b then 16 else 0) = 128 := by
        rw [andNot16 _ h0] at hf
        rw [n0, show lngB b = (x0.toNat / 16 % 2 == 1) by rw [lngB, n0]]
        simpa using hf
      (conv => whnf)
      split
      · rename_i hg
        have e : oneE b last = 292 := by
          have : headE b last = 292 := by
            rw [hH, if_pos]
            right
            rw [hd] at hg
            simpa using hg
          simp [oneE, this]
        (conv => whnf)
        refine ⟨rfl, ?_⟩
        (conv => whnf)
        refine ⟨_, _, _, Ends.here, ?_⟩
        (conv => whnf)
        refine ⟨rfl, ⟨by rw [hAN]; omega, by rw [hAN]; simp; omega⟩, ?_⟩
        (conv => whnf)
        refine ⟨by kernel_rfl, ?_⟩
        (conv => whnf)
        exact Ends.oneE rfl (rest_free _ _ _ _ _ _) e.symm (by rw [e]; decide)
      rename_i hg
      have hg : lngB b = decide (255 < numB b) := by rw [hd] at hg; simpa using hg
      rw [if_neg (by rintro (h | h) <;> contradiction)] at hH
      (conv => whnf)
      refine ⟨by kernel_rfl, ?_⟩
      (conv => whnf)
      split
      · rename_i hr
        have e : oneE b last = 293 := by
          have : headE b last = 293 := by
            rw [hH, if_pos]
            rw [n1']
            simp at hr
            omega
          simp [oneE, this]
        (conv => whnf)
        refine ⟨rfl, ?_⟩
        (conv => whnf)
        refine ⟨_, _, _, Ends.here, ?_⟩
        (conv => whnf)
        refine ⟨rfl, ⟨by rw [hAN]; omega, by rw [hAN]; simp; omega⟩, ?_⟩
        (conv => whnf)
        refine ⟨by kernel_rfl, ?_⟩
        (conv => whnf)
        exact Ends.oneE rfl (rest_free _ _ _ _ _ _) e.symm (by rw [e]; decide)
      rename_i hr
      have hr : ¬ 4 ≤ last := by simp at hr; omega
      rw [if_neg (by rw [n1']; exact hr)] at hH
      (conv => whnf)
      refine ⟨rfl, ⟨by omega, by rw [hAN]; omega, by rw [hAN]; simp; omega, by rw [hAN]; simp; omega⟩, ?_⟩
      (conv => whnf)
      refine ⟨by kernel_rfl, ?_⟩
      (conv => whnf)
      have hsl : V.sl fr 1 (List.drop (atB b : Int).toNat (List.take (IntKind.i64.wrap ((atB b : Int) + (numB b : Int))).toNat (List.map (fun x => [V.int .u8 x.toNat]) b))) = encB fr (valB b) := by
        rw [hAN, Int.toNat_natCast, Int.toNat_natCast, ← List.map_take, ← List.map_drop, List.drop_take, Nat.add_sub_cancel_left]
        rfl
      have hsr : V.sl fr 1 (List.drop (IntKind.i64.wrap ((atB b : Int) + (numB b : Int))).toNat (List.map (fun x => [V.int .u8 x.toNat]) b)) = encB fr (restB b) := by
        rw [hAN, Int.toNat_natCast, ← List.map_drop]
        rfl
      have hvl : (valB b).length ≤ 1000000 := by simp [valB]; omega
      refine callV_read (b := 0) (read4_ok fr (valB b) q a _ _ _ (encB_free _ _) .int .int) rfl (encB_free _ _) .int .int ⟨.ptr rfl (by omega), .eq_of hsl (encB_free _ _), .free (iptr_fn_free _), trivial⟩ fun c8 h8 hf8 hok => ?_
      obtain ⟨a0, a1, a2, a3, a4, a5, a6, a7, rfl⟩ := eight h8
      have ee : oneE b last = lowE 4 (valB b) := by
        rw [oneE, if_neg (by simp [hH]), n1']
      (conv => whnf)
      refine ⟨rfl, ?_⟩
      (conv => whnf)
      refine ⟨_, _, _, Ends.here, ?_⟩
      (conv => whnf)
      cases he : (lowE 4 (valB b) == 0) with
      | false =>
        have he' : lowE 4 (valB b) ≠ 0 := by simpa using he
        (conv => whnf)
        refine ⟨rfl, ⟨by rw [hAN]; omega, by rw [hAN]; simp; omega⟩, ?_⟩
        (conv => whnf)
        refine ⟨by kernel_rfl, ?_⟩
        (conv => whnf)
        exact Ends.oneE rfl (rest8_free hf8) ee.symm (by rw [ee]; exact he')
      | true =>
        have he' : lowE 4 (valB b) = 0 := by simpa using he
        have h8 := hok he'
        (conv => whnf)
        refine ⟨rfl, ⟨by rw [hAN]; omega, by rw [hAN]; simp; omega⟩, ?_⟩
        (conv => whnf)
        refine ⟨by kernel_rfl, ?_⟩
        (conv => whnf)
        refine Ends.oneK (cells' := readerV fr (restB b) 4 seen _ (lowA 4 a (valB b))) rfl (readerV_free _ _ _ _ _ _) ⟨.eq_of hsr (encB_free _ _), .int_of rfl, .int_of rfl, .of_eq h8 (cellsR_free _ _)⟩ ee.symm (fun _ => by rw [n1']; rfl)
    case succ.succ.succ.succ.zero =>
      (conv => whnf)
      refine ⟨rfl, _, ⟨by simp, rfl⟩, ?_⟩
      (conv => whnf)
      subst hasg hbody
      refine roundV_of tab_ok mixed rfl (by simp) (show 8 < 10 by omega) ?_
      (conv => whnf)
      refine ⟨rfl, ?_⟩
      (conv => whnf)
      split
      · rename_i hc
        have hc : x1.toNat ≠ 5 := by simp at hc; omega
        (conv => whnf)
        refine ⟨rfl, ?_⟩
        (conv => whnf)
        refine ⟨⟨4 + 1, by omega, ?_⟩, Wk.of id [] ⟨.yld rfl (by omega), .free attributesV_cap, .free attrV_free, .int_of rfl, .int_of rfl, trivial⟩ (LeH.of ⟨⟨by omega, .inl ⟨by simp, _, rfl, rfl, rfl, rfl, rfl, rfl, rfl, .ptr rfl (by omega), .ptr rfl (by omega), .ptr rfl (by omega), .ptr rfl (by omega), .ptr rfl (by omega), .ptr rfl (by omega), .ptr rfl (by omega), trivial⟩⟩,
          ⟨by omega, .inl ⟨by simp, _, rfl, LeB.free (blk := .var true 147 (readerV fr b last seen q a)) (readerV_free _ _ _ _ _ _)⟩⟩, ⟨by omega, .inl ⟨by simp, _, rfl, id, rfl, .ptr rfl (by omega), trivial⟩⟩, ⟨by omega, .inl ⟨by simp, _, rfl, id, rfl, .free .int, trivial⟩⟩, ⟨by omega, .inl ⟨by simp, _, rfl, id, rfl, .free .int, trivial⟩⟩,
          ⟨by omega, .inl ⟨by simp, _, rfl, id, rfl, .free .int, trivial⟩⟩, ⟨by omega, .inl ⟨by simp, _, rfl, id, rfl, .free .int, trivial⟩⟩, ⟨by omega, .inl ⟨by simp, _, rfl, id, rfl, .free .bool, trivial⟩⟩, ⟨by omega, .inl ⟨by simp, _, rfl, id, rfl, .free .int, trivial⟩⟩, trivial⟩ (fun _ _ _ _ h => h) (fun _ _ => rfl) (by omega) (by simp)), by simp only; omega⟩
        intro j hj
        rcases Nat.lt_or_ge j 4 with h | h
        · exact hne j h
        · obtain rfl : j = 4 := by omega
          exact fun e => hc e.symm
      rename_i hc
      have hc : x1.toNat = 5 := by simp at hc; omega
      obtain rfl : x1 = 5 := UInt8.toNat_inj.1 hc
      have n1' : byteN b 1 = 5 := by rw [n1]; rfl
      (conv => whnf)
      have hF : flagsI (byteN b 1) = 64 := by rw [n1']; rfl
      have hH := head_is (last := last) h h4 h3 (by rw [hF]; decide)
      rw [hF] at hH
      cases hf : (bits BinOp.andNot IntKind.u8 (x0.toNat : Int) 16 != 64)
      case true =>
        have e : oneE b last = 292 := by
          have : headE b last = 292 := by
            rw [hH, if_pos]
            left
            rw [andNot16 _ h0] at hf
            rw [n0, show lngB b = (x0.toNat / 16 % 2 == 1) by rw [lngB, n0]]
            simpa using hf
          simp [oneE, this]
        (conv => whnf)
        refine ⟨rfl, ?_⟩
        (conv => whnf)
        refine ⟨_, _, _, Ends.here, ?_⟩
        (conv => whnf)
        refine ⟨rfl, ⟨by rw [hAN]; omega, by rw [hAN]; simp; omega⟩, ?_⟩
        (conv => whnf)
        refine ⟨by kernel_rfl, ?_⟩
        (conv => whnf)
        exact Ends.oneE rfl (rest_free _ _ _ _ _ _) e.symm (by rw [e]; decide)
      have hf : (byteN b 0 : Int) - (if lngB b then 16 else 0) = 64 := by
        rw [andNot16 _ h0] at hf
        rw [n0, show lngB b = (x0.toNat / 16 % 2 == 1) by rw [lngB, n0]]
        simpa using hf
      (conv => whnf)
      split
      · rename_i hg
        have e : oneE b last = 292 := by
          have : headE b last = 292 := by
            rw [hH, if_pos]
            right
            rw [hd] at hg
            simpa using hg
          simp [oneE, this]
        (conv => whnf)
        refine ⟨rfl, ?_⟩
        (conv => whnf)
        refine ⟨_, _, _, Ends.here, ?_⟩
        (conv => whnf)
        refine ⟨rfl, ⟨by rw [hAN]; omega, by rw [hAN]; simp; omega⟩, ?_⟩
        (conv => whnf)
        refine ⟨by kernel_rfl, ?_⟩
        (conv => whnf)
        exact Ends.oneE rfl (rest_free _ _ _ _ _ _) e.symm (by rw [e]; decide)
      rename_i hg
      have hg : lngB b = decide (255 < numB b) := by rw [hd] at hg; simpa using hg
      rw [if_neg (by rintro (h | h) <;> contradiction)] at hH
      (conv => whnf)
      refine ⟨by kernel_rfl, ?_⟩
      (conv => whnf)
      split
      · rename_i hr
        have e : oneE b last = 293 := by
          have : headE b last = 293 := by
            rw [hH, if_pos]
            rw [n1']
            simp at hr
            omega
          simp [oneE, this]
        (conv => whnf)
        refine ⟨rfl, ?_⟩
        (conv => whnf)
        refine ⟨_, _, _, Ends.here, ?_⟩
        (conv => whnf)
        refine ⟨rfl, ⟨by rw [hAN]; omega, by rw [hAN]; simp; omega⟩, ?_⟩
        (conv => whnf)
        refine ⟨by kernel_rfl, ?_⟩
        (conv => whnf)
        exact Ends.oneE rfl (rest_free _ _ _ _ _ _) e.symm (by rw [e]; decide)
      rename_i hr
      have hr : ¬ 5 ≤ last := by simp at hr; omega
      rw [if_neg (by rw [n1']; exact hr)] at hH
      (conv => whnf)
      refine ⟨rfl, ⟨by omega, by rw [hAN]; omega, by rw [hAN]; simp; omega, by rw [hAN]; simp; omega⟩, ?_⟩
      (conv => whnf)
      refine ⟨by kernel_rfl, ?_⟩
      (conv => whnf)
      have hsl : V.sl fr 1 (List.drop (atB b : Int).toNat (List.take (IntKind.i64.wrap ((atB b : Int) + (numB b : Int))).toNat (List.map (fun x => [V.int .u8 x.toNat]) b))) = encB fr (valB b) := by
        rw [hAN, Int.toNat_natCast, Int.toNat_natCast, ← List.map_take, ← List.map_drop, List.drop_take, Nat.add_sub_cancel_left]
        rfl
      have hsr : V.sl fr 1 (List.drop (IntKind.i64.wrap ((atB b : Int) + (numB b : Int))).toNat (List.map (fun x => [V.int .u8 x.toNat]) b)) = encB fr (restB b) := by
        rw [hAN, Int.toNat_natCast, ← List.map_drop]
        rfl
      have hvl : (valB b).length ≤ 1000000 := by simp [valB]; omega
      refine callV_read (b := 0) (read5_ok fr (valB b) q a _ _ _ (encB_free _ _) .int .int) rfl (encB_free _ _) .int .int ⟨.ptr rfl (by omega), .eq_of hsl (encB_free _ _), .free (iptr_fn_free _), trivial⟩ fun c8 h8 hf8 hok => ?_
      obtain ⟨a0, a1, a2, a3, a4, a5, a6, a7, rfl⟩ := eight h8
      have ee : oneE b last = lowE 5 (valB b) := by
        rw [oneE, if_neg (by simp [hH]), n1']
      (conv => whnf)
      refine ⟨rfl, ?_⟩
      (conv => whnf)
      refine ⟨_, _, _, Ends.here, ?_⟩
      (conv => whnf)
      cases he : (lowE 5 (valB b) == 0) with
      | false =>
        have he' : lowE 5 (valB b) ≠ 0 := by simpa using he
        (conv => whnf)
        refine ⟨rfl, ⟨by rw [hAN]; omega, by rw [hAN]; simp; omega⟩, ?_⟩
        (conv => whnf)
        refine ⟨by kernel_rfl, ?_⟩
        (conv => whnf)
        exact Ends.oneE rfl (rest8_free hf8) ee.symm (by rw [ee]; exact he')
      | true =>
        have he' : lowE 5 (valB b) = 0 := by simpa using he
        have h8 := hok he'
        (conv => whnf)
        refine ⟨rfl, ⟨by rw [hAN]; omega, by rw [hAN]; simp; omega⟩, ?_⟩
        (conv => whnf)
        refine ⟨by kernel_rfl, ?_⟩
        (conv => whnf)
        refine Ends.oneK (cells' := readerV fr (restB b) 5 seen _ (lowA 5 a (valB b))) rfl (readerV_free _ _ _ _ _ _) ⟨.eq_of hsr (encB_free _ _), .int_of rfl, .int_of rfl, .of_eq h8 (cellsR_free _ _)⟩ ee.symm (fun _ => by rw [n1']; rfl)
    case succ.succ.succ.succ.succ.zero =>
      (conv => whnf)
      refine ⟨rfl, _, ⟨by simp, rfl⟩, ?_⟩
      (conv => whnf)
      subst hasg hbody
      refine roundV_of tab_ok mixed rfl (by simp) (show 8 < 10 by omega) ?_
      (conv => whnf)
      refine ⟨rfl, ?_⟩
      (conv => whnf)
      split
      · rename_i hc
        have hc : x1.toNat ≠ 8 := by simp at hc; omega
        (conv => whnf)
        refine ⟨rfl, ?_⟩
        (conv => whnf)
        refine ⟨⟨5 + 1, by omega, ?_⟩, Wk.of id [] ⟨.yld rfl (by omega), .free attributesV_cap, .free attrV_free, .int_of rfl, .int_of rfl, trivial⟩ (LeH.of ⟨⟨by omega, .inl ⟨by simp, _, rfl, rfl, rfl, rfl, rfl, rfl, rfl, .ptr rfl (by omega), .ptr rfl (by omega), .ptr rfl (by omega), .ptr rfl (by omega), .ptr rfl (by omega), .ptr rfl (by omega), .ptr rfl (by omega), trivial⟩⟩,
          ⟨by omega, .inl ⟨by simp, _, rfl, LeB.free (blk := .var true 147 (readerV fr b last seen q a)) (readerV_free _ _ _ _ _ _)⟩⟩, ⟨by omega, .inl ⟨by simp, _, rfl, id, rfl, .ptr rfl (by omega), trivial⟩⟩, ⟨by omega, .inl ⟨by simp, _, rfl, id, rfl, .free .int, trivial⟩⟩, ⟨by omega, .inl ⟨by simp, _, rfl, id, rfl, .free .int, trivial⟩⟩,
          ⟨by omega, .inl ⟨by simp, _, rfl, id, rfl, .free .int, trivial⟩⟩, ⟨by omega, .inl ⟨by simp, _, rfl, id, rfl, .free .int, trivial⟩⟩, ⟨by omega, .inl ⟨by simp, _, rfl, id, rfl, .free .bool, trivial⟩⟩, ⟨by omega, .inl ⟨by simp, _, rfl, id, rfl, .free .int, trivial⟩⟩, trivial⟩ (fun _ _ _ _ h => h) (fun _ _ => rfl) (by omega) (by simp)), by simp only; omega⟩
        intro j hj
        rcases Nat.lt_or_ge j 5 with h | h
        · exact hne j h
        · obtain rfl : j = 5 := by omega
          exact fun e => hc e.symm
      rename_i hc
      have hc : x1.toNat = 8 := by simp at hc; omega
      obtain rfl : x1 = 8 := UInt8.toNat_inj.1 hc
      have n1' : byteN b 1 = 8 := by rw [n1]; rfl
      (conv => whnf)
      have hF : flagsI (byteN b 1) = 192 := by rw [n1']; rfl
      have hH := head_is (last := last) h h4 h3 (by rw [hF]; decide)
      rw [hF] at hH
      cases hf : (bits BinOp.andNot IntKind.u8 (x0.toNat : Int) 16 != 192)
      case true =>
        have e : oneE b last = 292 := by
          have : headE b last = 292 := by
            rw [hH, if_pos]
            left
            rw [andNot16 _ h0] at hf
            rw [n0, show lngB b = (x0.toNat / 16 % 2 == 1) by rw [lngB, n0]]
            simpa using hf
          simp [oneE, this]
        (conv => whnf)
        refine ⟨rfl, ?_⟩
        (conv => whnf)
        refine ⟨_, _, _, Ends.here, ?_⟩
        (conv => whnf)
        refine ⟨rfl, ⟨by rw [hAN]; omega, by rw [hAN]; simp; omega⟩, ?_⟩
        (conv => whnf)
        refine ⟨by kernel_rfl, ?_⟩
        (conv => whnf)
        exact Ends.oneE rfl (rest_free _ _ _ _ _ _) e.symm (by rw [e]; decide)
      have hf : (byteN b 0 : Int) - (if lngB b then 16 else 0) = 192 := by
        rw [andNot16 _ h0] at hf
        rw [n0, show lngB b = (x0.toNat / 16 % 2 == 1) by rw [lngB, n0]]
        simpa using hf
      (conv => whnf)
      split
      · rename_i hg
        have e : oneE b last = 292 := by
          have : headE b last = 292 := by
            rw [hH, if_pos]
            right
            rw [hd] at hg
            simpa using hg
          simp [oneE, this]
        (conv => whnf)
        refine ⟨rfl, ?_⟩
        (conv => whnf)
        refine ⟨_, _, _, Ends.here, ?_⟩
        (conv => whnf)
        refine ⟨rfl, ⟨by rw [hAN]; omega, by rw [hAN]; simp; omega⟩, ?_⟩
        (conv => whnf)
        refine ⟨by kernel_rfl, ?_⟩
        (conv => whnf)
        exact Ends.oneE rfl (rest_free _ _ _ _ _ _) e.symm (by rw [e]; decide)
      rename_i hg
      have hg : lngB b = decide (255 < numB b) := by rw [hd] at hg; simpa using hg
      rw [if_neg (by rintro (h | h) <;> contradiction)] at hH
      (conv => whnf)
      refine ⟨by kernel_rfl, ?_⟩
      (conv => whnf)
      split
      · rename_i hr
        have e : oneE b last = 293 := by
          have : headE b last = 293 := by
            rw [hH, if_pos]
            rw [n1']
            simp at hr
            omega
          simp [oneE, this]
        (conv => whnf)
        refine ⟨rfl, ?_⟩
        (conv => whnf)
        refine ⟨_, _, _, Ends.here, ?_⟩
        (conv => whnf)
        refine ⟨rfl, ⟨by rw [hAN]; omega, by rw [hAN]; simp; omega⟩, ?_⟩
        (conv => whnf)
        refine ⟨by kernel_rfl, ?_⟩
        (conv => whnf)
        exact Ends.oneE rfl (rest_free _ _ _ _ _ _) e.symm (by rw [e]; decide)
      rename_i hr
      have hr : ¬ 8 ≤ last := by simp at hr; omega
      rw [if_neg (by rw [n1']; exact hr)] at hH
      (conv => whnf)
      refine ⟨rfl, ⟨by omega, by rw [hAN]; omega, by rw [hAN]; simp; omega, by rw [hAN]; simp; omega⟩, ?_⟩
      (conv => whnf)
      refine ⟨by kernel_rfl, ?_⟩
      (conv => whnf)
      have hsl : V.sl fr 1 (List.drop (atB b : Int).toNat (List.take (IntKind.i64.wrap ((atB b : Int) + (numB b : Int))).toNat (List.map (fun x => [V.int .u8 x.toNat]) b))) = encB fr (valB b) := by
        rw [hAN, Int.toNat_natCast, Int.toNat_natCast, ← List.map_take, ← List.map_drop, List.drop_take, Nat.add_sub_cancel_left]
        rfl
      have hsr : V.sl fr 1 (List.drop (IntKind.i64.wrap ((atB b : Int) + (numB b : Int))).toNat (List.map (fun x => [V.int .u8 x.toNat]) b)) = encB fr (restB b) := by
        rw [hAN, Int.toNat_natCast, ← List.map_drop]
        rfl
      have hvl : (valB b).length ≤ 1000000 := by simp [valB]; omega
      refine callV_read (b := 0) (read8_ok fr (valB b) hvl q a _ _ _ (encB_free _ _) .int .int) rfl (encB_free _ _) .int .int ⟨.ptr rfl (by omega), .eq_of hsl (encB_free _ _), trivial⟩ fun c8 h8 hf8 hok => ?_
      obtain ⟨a0, a1, a2, a3, a4, a5, a6, a7, rfl⟩ := eight h8
      have ee : oneE b last = lowE 8 (valB b) := by
        rw [oneE, if_neg (by simp [hH]), n1']
      (conv => whnf)
      refine ⟨rfl, ?_⟩
      (conv => whnf)
      refine ⟨_, _, _, Ends.here, ?_⟩
      (conv => whnf)
      cases he : (lowE 8 (valB b) == 0) with
      | false =>
        have he' : lowE 8 (valB b) ≠ 0 := by simpa using he
        (conv => whnf)
        refine ⟨rfl, ⟨by rw [hAN]; omega, by rw [hAN]; simp; omega⟩, ?_⟩
        (conv => whnf)
        refine ⟨by kernel_rfl, ?_⟩
        (conv => whnf)
        exact Ends.oneE rfl (rest8_free hf8) ee.symm (by rw [ee]; exact he')
      | true =>
        have he' : lowE 8 (valB b) = 0 := by simpa using he
        have h8 := hok he'
        (conv => whnf)
        refine ⟨rfl, ⟨by rw [hAN]; omega, by rw [hAN]; simp; omega⟩, ?_⟩
        (conv => whnf)
        refine ⟨by kernel_rfl, ?_⟩
        (conv => whnf)
        refine Ends.oneK (cells' := readerV fr (restB b) 8 seen _ (lowA 8 a (valB b))) rfl (readerV_free _ _ _ _ _ _) ⟨.eq_of hsr (encB_free _ _), .int_of rfl, .int_of rfl, .of_eq h8 (cellsR_free _ _)⟩ ee.symm (fun _ => by rw [n1']; rfl)
    case succ.succ.succ.succ.succ.succ.zero =>
      have hF := flags_none hne
      have e : oneE b last = 291 := by
        have : headE b last = 291 := by
          unfold headE
          rw [if_neg (by omega), if_neg (by rintro ⟨h1, h2⟩; have := h4 h1; omega), if_neg (by omega), if_pos (by rw [n1, hF]; decide)]
        simp [oneE, this]
      (conv => whnf)
      refine ⟨_, _, _, Ends.here, ?_⟩
      (conv => whnf)
      refine ⟨rfl, ⟨by rw [hAN]; omega, by rw [hAN]; simp; omega⟩, ?_⟩
      (conv => whnf)
      refine ⟨by kernel_rfl, ?_⟩
      (conv => whnf)
      exact Ends.oneE rfl (rest_free _ _ _ _ _ _) e.symm (by rw [e]; decide)
  | true =>
    (conv => whnf)
    intro _
    (conv => whnf)
    split
    · rename_i h3
      have h3 : b.length < 4 := by rw [List.length_map] at h3; simp at h3; omega
      have e : oneE b last = 290 := by
        have : headE b last = 290 := by
          unfold headE
          rw [if_neg (by omega), if_pos ⟨hL, h3⟩]
        simp [oneE, this]
      (conv => whnf)
      exact Ends.oneE rfl (readerV_free _ _ _ _ _ _) e.symm (by rw [e]; decide)
    rename_i h4'
    have h4' : 4 ≤ b.length := by rw [List.length_map] at h4'; simp at h4'; omega
    obtain ⟨x3, r3, rfl⟩ : ∃ x3 r3, r = x3 :: r3 := by
      rcases r with _ | ⟨x3, r3⟩
      · rw [hX] at h4'; simp at h4'
      · exact ⟨x3, r3, rfl⟩
    have n3 : byteN b 3 = x3.toNat := by rw [hX]; rfl
    have hx3 := x3.toNat_lt
    have eN : numB b = 256 * x2.toNat + x3.toNat := by simp [numB, hL, n2, n3]
    have eA : atB b = 4 := by simp [atB, hL]
    have eO := or_len x2 x3
    (conv => whnf)
    refine ⟨by decide, ?_⟩
    (conv => whnf)
    refine ⟨rfl, [cB x3], ⟨by simp, by rw [hX]; rfl⟩, ?_⟩
    (conv => whnf)
    refine ⟨by kernel_rfl, ?_⟩
    (conv => whnf)
    refine ⟨by kernel_rfl, ?_⟩
    (conv => whnf)
    have w3 : IntKind.i64.wrap (4 + bits .or .i64 (IntKind.i64.wrap (IntKind.i64.wrap (x2.toNat : Int) * 2 ^ (min (Int.toNat 8) IntKind.i64.bits))) (IntKind.i64.wrap (x3.toNat : Int))) = (atB b + numB b : Nat) := by rw [eO, eN, eA, wrap64] <;> omega
    split
    · rename_i h3
      have h3 : b.length < atB b + numB b := by rw [w3, List.length_map] at h3; simp at h3; omega
      have e : oneE b last = 290 := by
        have : headE b last = 290 := by
          unfold headE
          rw [if_neg (by omega), if_neg (by rintro ⟨_, h2⟩; omega), if_pos h3]
        simp [oneE, this]
      (conv => whnf)
      exact Ends.oneE rfl (readerV_free _ _ _ _ _ _) e.symm (by rw [e]; decide)
    rename_i h3
    have h3 : atB b + numB b ≤ b.length := by rw [w3, List.length_map] at h3; simp at h3; omega
    have h4 : lngB b = true → 4 ≤ b.length := fun _ => h4'
    have hAN : IntKind.i64.wrap ((atB b : Int) + (numB b : Int)) = (atB b + numB b : Nat) := by rw [wrap64] <;> omega
    have hd : decide ((255 : Int) < (numB b : Int)) = decide (255 < numB b) := decide_eq_decide.2 (by omega)
    have hse : IntKind.i64.wrap ((seen : Int) + 1) = (seen + 1 : Nat) := by rw [wrap64] <;> omega
    (conv => whnf)
    refine callV_pure attributes_ok trivial ?_
    (conv => whnf)
    refine callV_loop [(1, .ptr 1 0), (3, .ptr 2 0), (4, .ptr 3 0), (5, .ptr 4 0), (6, .ptr 5 0), (7, .ptr 6 0), (8, .ptr 7 0)] ⟨rfl, rfl, rfl, rfl, rfl, rfl, rfl, trivial⟩ fun asg' body' hasg hbody => ?_
    refine callV_of (fn := Go.Proofs.Tryz.f203) (body := _) tab_ok mixed rfl rfl (by decide) (by simp [Go.Proofs.Tryz.f203]) ?_
    (conv => whnf)
    intro _
    (conv => whnf)
    refine vcg_loop tab_ok mixed (fun k : {k : Nat // k ≤ 6 ∧ ∀ j, j < k → codesL.getD j 0 ≠ x1.toNat} => ⟨[(0, .yld 8), (1, .iptr true [.sl true 5 attrRows]), (5, .sl true 5 attrRows), (6, .int .i64 6), (7, cI k.1)], (8, some (.loop 141 [(1, .ptr 1 0), (3, .ptr 2 0), (4, .ptr 3 0), (5, .ptr 4 0), (6, .ptr 5 0), (7, .ptr 6 0), (8, .ptr 7 0)] [72] asg' body' .ready none)) :: oneH fr b last seen q a x0 x1 291, 9⟩) (fun k => 6 - k.1) ⟨0, by omega, by omega⟩ ?_ (fun k => ?_)
    · refine Wk.of id [] ⟨.yld rfl (by omega), .free attributesV_cap, .free attrV_free, .int_of rfl, .int_of rfl, trivial⟩ (LeH.of ⟨⟨by omega, .inl ⟨by simp, _, rfl, rfl, rfl, rfl, rfl, rfl, rfl, .ptr rfl (by omega), .ptr rfl (by omega), .ptr rfl (by omega), .ptr rfl (by omega), .ptr rfl (by omega), .ptr rfl (by omega), .ptr rfl (by omega), trivial⟩⟩,
        ⟨by omega, .inl ⟨by simp, _, rfl, LeB.free (blk := .var true 147 (readerV fr b last seen q a)) (readerV_free _ _ _ _ _ _)⟩⟩, ⟨by omega, .inl ⟨by simp, _, rfl, id, rfl, .ptr rfl (by omega), trivial⟩⟩, ⟨by omega, .inl ⟨by simp, _, rfl, id, rfl, .int_of rfl, trivial⟩⟩, ⟨by omega, .inl ⟨by simp, _, rfl, id, rfl, .int_of rfl, trivial⟩⟩,
        ⟨by omega, .inl ⟨by simp, _, rfl, id, rfl, .int_of (by rw [eO, eN]), trivial⟩⟩, ⟨by omega, .inl ⟨by simp, _, rfl, id, rfl, .int_of (by rw [eA]; rfl), trivial⟩⟩, ⟨by omega, .inl ⟨by simp, _, rfl, id, rfl, .bool_of hL.symm, trivial⟩⟩, ⟨by omega, .inl ⟨by simp, _, rfl, id, rfl, .int_of rfl, trivial⟩⟩, trivial⟩ (fun _ _ _ _ h => h) (fun _ _ => rfl) (by omega) (by simp))
    obtain ⟨k, hk, hne⟩ := k
    rcases k with _ | _ | _ | _ | _ | _ | _ | k
    case succ.succ.succ.succ.succ.succ.succ => omega
    case zero =>
      (conv => whnf)
      refine ⟨rfl, _, ⟨by simp, rfl⟩, ?_⟩
      (conv => whnf)
      subst hasg hbody
      refine roundV_of tab_ok mixed rfl (by simp) (show 8 < 10 by omega) ?_
      (conv => whnf)
      refine ⟨rfl, ?_⟩
      (conv => whnf)
      split
      · rename_i hc
        have hc : x1.toNat ≠ 1 := by simp at hc; omega
        (conv => whnf)
        refine ⟨rfl, ?_⟩
        (conv => whnf)
        refine ⟨⟨0 + 1, by omega, ?_⟩, Wk.of id [] ⟨.yld rfl (by omega), .free attributesV_cap, .free attrV_free, .int_of rfl, .int_of rfl, trivial⟩ (LeH.of ⟨⟨by omega, .inl ⟨by simp, _, rfl, rfl, rfl, rfl, rfl, rfl, rfl, .ptr rfl (by omega), .ptr rfl (by omega), .ptr rfl (by omega), .ptr rfl (by omega), .ptr rfl (by omega), .ptr rfl (by omega), .ptr rfl (by omega), trivial⟩⟩,
          ⟨by omega, .inl ⟨by simp, _, rfl, LeB.free (blk := .var true 147 (readerV fr b last seen q a)) (readerV_free _ _ _ _ _ _)⟩⟩, ⟨by omega, .inl ⟨by simp, _, rfl, id, rfl, .ptr rfl (by omega), trivial⟩⟩, ⟨by omega, .inl ⟨by simp, _, rfl, id, rfl, .free .int, trivial⟩⟩, ⟨by omega, .inl ⟨by simp, _, rfl, id, rfl, .free .int, trivial⟩⟩,
          ⟨by omega, .inl ⟨by simp, _, rfl, id, rfl, .free .int, trivial⟩⟩, ⟨by omega, .inl ⟨by simp, _, rfl, id, rfl, .free .int, trivial⟩⟩, ⟨by omega, .inl ⟨by simp, _, rfl, id, rfl, .free .bool, trivial⟩⟩, ⟨by omega, .inl ⟨by simp, _, rfl, id, rfl, .free .int, trivial⟩⟩, trivial⟩ (fun _ _ _ _ h => h) (fun _ _ => rfl) (by omega) (by simp)), by simp only; omega⟩
        intro j hj
        rcases Nat.lt_or_ge j 0 with h | h
        · exact hne j h
        · obtain rfl : j = 0 := by omega
          exact fun e => hc e.symm
      rename_i hc
      have hc : x1.toNat = 1 := by simp at hc; omega
      obtain rfl : x1 = 1 := UInt8.toNat_inj.1 hc
      have n1' : byteN b 1 = 1 := by rw [n1]; rfl
      (conv => whnf)
      have hF : flagsI (byteN b 1) = 64 := by rw [n1']; rfl
      have hH := head_is (last := last) h h4 h3 (by rw [hF]; decide)
      rw [hF] at hH
      cases hf : (bits BinOp.andNot IntKind.u8 (x0.toNat : Int) 16 != 64)
      case true =>
        have e : oneE b last = 292 := by
          have : headE b last = 292 := by
            rw [hH, if_pos]
            left
            rw [andNot16 _ h0] at hf
            rw [n0, show lngB b = (x0.toNat / 16 % 2 == 1) by rw [lngB, n0]]
            simpa using hf
          simp [oneE, this]
        (conv => whnf)
        refine ⟨rfl, ?_⟩
        (conv => whnf)
        refine ⟨_, _, _, Ends.here, ?_⟩
        (conv => whnf)
        refine ⟨rfl, ⟨by rw [hAN]; omega, by rw [hAN]; simp; omega⟩, ?_⟩
        (conv => whnf)
        refine ⟨by kernel_rfl, ?_⟩
        (conv => whnf)
        exact Ends.oneE rfl (rest_free _ _ _ _ _ _) e.symm (by rw [e]; decide)
      have hf : (byteN b 0 : Int) - (if lngB b then 16 else 0) = 64 := by
        rw [andNot16 _ h0] at hf
        rw [n0, show lngB b = (x0.toNat / 16 % 2 == 1) by rw [lngB, n0]]
        simpa using hf
      (conv => whnf)
      split
      · rename_i hg
        have e : oneE b last = 292 := by
          have : headE b last = 292 := by
            rw [hH, if_pos]
            right
            rw [hd] at hg
            simpa using hg
          simp [oneE, this]
        (conv => whnf)
        refine ⟨rfl, ?_⟩
        (conv => whnf)
        refine ⟨_, _, _, Ends.here, ?_⟩
        (conv => whnf)
        refine ⟨rfl, ⟨by rw [hAN]; omega, by rw [hAN]; simp; omega⟩, ?_⟩
        (conv => whnf)
        refine ⟨by kernel_rfl, ?_⟩
        (conv => whnf)
        exact Ends.oneE rfl (rest_free _ _ _ _ _ _) e.symm (by rw [e]; decide)
      rename_i hg
      have hg : lngB b = decide (255 < numB b) := by rw [hd] at hg; simpa using hg
      rw [if_neg (by rintro (h | h) <;> contradiction)] at hH
      (conv => whnf)
      refine ⟨by kernel_rfl, ?_⟩
      (conv => whnf)
      split
      · rename_i hr
        have e : oneE b last = 293 := by
          have : headE b last = 293 := by
            rw [hH, if_pos]
            rw [n1']
            simp at hr
            omega
          simp [oneE, this]
        (conv => whnf)
        refine ⟨rfl, ?_⟩
        (conv => whnf)
        refine ⟨_, _, _, Ends.here, ?_⟩
        (conv => whnf)
        refine ⟨rfl, ⟨by rw [hAN]; omega, by rw [hAN]; simp; omega⟩, ?_⟩
        (conv => whnf)
        refine ⟨by kernel_rfl, ?_⟩
        (conv => whnf)
        exact Ends.oneE rfl (rest_free _ _ _ _ _ _) e.symm (by rw [e]; decide)
      rename_i hr
      have hr : ¬ 1 ≤ last := by simp at hr; omega
      rw [if_neg (by rw [n1']; exact hr)] at hH
      (conv => whnf)
      refine ⟨rfl, ⟨by omega, by rw [hAN]; omega, by rw [hAN]; simp; omega, by rw [hAN]; simp; omega⟩, ?_⟩
      (conv => whnf)
      refine ⟨by kernel_rfl, ?_⟩
      (conv => whnf)
      have hsl : V.sl fr 1 (List.drop (atB b : Int).toNat (List.take (IntKind.i64.wrap ((atB b : Int) + (numB b : Int))).toNat (List.map (fun x => [V.int .u8 x.toNat]) b))) = encB fr (valB b) := by
        rw [hAN, Int.toNat_natCast, Int.toNat_natCast, ← List.map_take, ← List.map_drop, List.drop_take, Nat.add_sub_cancel_left]
        rfl
      have hsr : V.sl fr 1 (List.drop (IntKind.i64.wrap ((atB b : Int) + (numB b : Int))).toNat (List.map (fun x => [V.int .u8 x.toNat]) b)) = encB fr (restB b) := by
        rw [hAN, Int.toNat_natCast, ← List.map_drop]
        rfl
      have hvl : (valB b).length ≤ 1000000 := by simp [valB]; omega
      refine callV_read (b := 0) (read1_ok fr (valB b) q a _ _ _ (encB_free _ _) .int .int) rfl (encB_free _ _) .int .int ⟨.ptr rfl (by omega), .eq_of hsl (encB_free _ _), trivial⟩ fun c8 h8 hf8 hok => ?_
      obtain ⟨a0, a1, a2, a3, a4, a5, a6, a7, rfl⟩ := eight h8
      have ee : oneE b last = lowE 1 (valB b) := by
        rw [oneE, if_neg (by simp [hH]), n1']
      (conv => whnf)
      refine ⟨rfl, ?_⟩
      (conv => whnf)
      refine ⟨_, _, _, Ends.here, ?_⟩
      (conv => whnf)
      cases he : (lowE 1 (valB b) == 0) with
      | false =>
        have he' : lowE 1 (valB b) ≠ 0 := by simpa using he
        (conv => whnf)
        refine ⟨rfl, ⟨by rw [hAN]; omega, by rw [hAN]; simp; omega⟩, ?_⟩
        (conv => whnf)
        refine ⟨by kernel_rfl, ?_⟩
        (conv => whnf)
        exact Ends.oneE rfl (rest8_free hf8) ee.symm (by rw [ee]; exact he')
      | true =>
        have he' : lowE 1 (valB b) = 0 := by simpa using he
        have h8 := hok he'
        (conv => whnf)
        refine ⟨rfl, ⟨by rw [hAN]; omega, by rw [hAN]; simp; omega⟩, ?_⟩
        (conv => whnf)
        refine ⟨by kernel_rfl, ?_⟩
        (conv => whnf)
        refine Ends.oneK (cells' := readerV fr (restB b) 1 (seen + 1) _ (lowA 1 a (valB b))) rfl (readerV_free _ _ _ _ _ _) ⟨.eq_of hsr (encB_free _ _), .int_of rfl, .int_of hse, .of_eq h8 (cellsR_free _ _)⟩ ee.symm (fun _ => by rw [n1']; rfl)
    case succ.zero =>
      (conv => whnf)
      refine ⟨rfl, _, ⟨by simp, rfl⟩, ?_⟩
      (conv => whnf)
      subst hasg hbody
      refine roundV_of tab_ok mixed rfl (by simp) (show 8 < 10 by omega) ?_
      (conv => whnf)
      refine ⟨rfl, ?_⟩
      (conv => whnf)
      split
      · rename_i hc
        have hc : x1.toNat ≠ 2 := by simp at hc; omega
        (conv => whnf)
        refine ⟨rfl, ?_⟩
        (conv => whnf)
        refine ⟨⟨1 + 1, by omega, ?_⟩, Wk.of id [] ⟨.yld rfl (by omega), .free attributesV_cap, .free attrV_free, .int_of rfl, .int_of rfl, trivial⟩ (LeH.of ⟨⟨by omega, .inl ⟨by simp, _, rfl, rfl, rfl, rfl, rfl, rfl, rfl, .ptr rfl (by omega), .ptr rfl (by omega), .ptr rfl (by omega), .ptr rfl (by omega), .ptr rfl (by omega), .ptr rfl (by omega), .ptr rfl (by omega), trivial⟩⟩,
          ⟨by omega, .inl ⟨by simp, _, rfl, LeB.free (blk := .var true 147 (readerV fr b last seen q a)) (readerV_free _ _ _ _ _ _)⟩⟩, ⟨by omega, .inl ⟨by simp, _, rfl, id, rfl, .ptr rfl (by omega), trivial⟩⟩, ⟨by omega, .inl ⟨by simp, _, rfl, id, rfl, .free .int, trivial⟩⟩, ⟨by omega, .inl ⟨by simp, _, rfl, id, rfl, .free .int, trivial⟩⟩,
          ⟨by omega, .inl ⟨by simp, _, rfl, id, rfl, .free .int, trivial⟩⟩, ⟨by omega, .inl ⟨by simp, _, rfl, id, rfl, .free .int, trivial⟩⟩, ⟨by omega, .inl ⟨by simp, _, rfl, id, rfl, .free .bool, trivial⟩⟩, ⟨by omega, .inl ⟨by simp, _, rfl, id, rfl, .free .int, trivial⟩⟩, trivial⟩ (fun _ _ _ _ h => h) (fun _ _ => rfl) (by omega) (by simp)), by simp only; omega⟩
        intro j hj
        rcases Nat.lt_or_ge j 1 with h | h
        · exact hne j h
        · obtain rfl : j = 1 := by omega
          exact fun e => hc e.symm
      rename_i hc
      have hc : x1.toNat = 2 := by simp at hc; omega
      obtain rfl : x1 = 2 := UInt8.toNat_inj.1 hc
      have n1' : byteN b 1 = 2 := by rw [n1]; rfl
      (conv => whnf)
      have hF : flagsI (byteN b 1) = 64 := by rw [n1']; rfl
      have hH := head_is (last := last) h h4 h3 (by rw [hF]; decide)
      rw [hF] at hH
      cases hf : (bits BinOp.andNot IntKind.u8 (x0.toNat : Int) 16 != 64)
      case true =>
        have e : oneE b last = 292 := by
          have : headE b last = 292 := by
            rw [hH, if_pos]
            left
            rw [andNot16 _ h0] at hf
            rw [n0, show lngB b = (x0.toNat / 16 % 2 == 1) by rw [lngB, n0]]
            simpa using hf
          simp [oneE, this]
        (conv => whnf)
        refine ⟨rfl, ?_⟩
        (conv => whnf)
        refine ⟨_, _, _, Ends.here, ?_⟩
        (conv => whnf)
        refine ⟨rfl, ⟨by rw [hAN]; omega, by rw [hAN]; simp; omega⟩, ?_⟩
        (conv => whnf)
        refine ⟨by kernel_rfl, ?_⟩
        (conv => whnf)
        exact Ends.oneE rfl (rest_free _ _ _ _ _ _) e.symm (by rw [e]; decide)
      have hf : (byteN b 0 : Int) - (if lngB b then 16 else 0) = 64 := by
        rw [andNot16 _ h0] at hf
        rw [n0, show lngB b = (x0.toNat / 16 % 2 == 1) by rw [lngB, n0]]
        simpa using hf
      (conv => whnf)
      split
      · rename_i hg
        have e : oneE b last = 292 := by
          have : headE b last = 292 := by
            rw [hH, if_pos]
            right
            rw [hd] at hg
            simpa using hg
          simp [oneE, this]
        (conv => whnf)
        refine ⟨rfl, ?_⟩
        (conv => whnf)
        refine ⟨_, _, _, Ends.here, ?_⟩
        (conv => whnf)
        refine ⟨rfl, ⟨by rw [hAN]; omega, by rw [hAN]; simp; omega⟩, ?_⟩
        (conv => whnf)
        refine ⟨by kernel_rfl, ?_⟩
        (conv => whnf)
        exact Ends.oneE rfl (rest_free _ _ _ _ _ _) e.symm (by rw [e]; decide)
      rename_i hg
      have hg : lngB b = decide (255 < numB b) := by rw [hd] at hg; simpa using hg
      rw [if_neg (by rintro (h | h) <;> contradiction)] at hH
      (conv => whnf)
      refine ⟨by kernel_rfl, ?_⟩
      (conv => whnf)
      split
      · rename_i hr
        have e : oneE b last = 293 := by
          have : headE b last = 293 := by
            rw [hH, if_pos]
            rw [n1']
            simp at hr
            omega
          simp [oneE, this]
        (conv => whnf)
        refine ⟨rfl, ?_⟩
        (conv => whnf)
        refine ⟨_, _, _, Ends.here, ?_⟩
        (conv => whnf)
        refine ⟨rfl, ⟨by rw [hAN]; omega, by rw [hAN]; simp; omega⟩, ?_⟩
        (conv => whnf)
        refine ⟨by kernel_rfl, ?_⟩
        (conv => whnf)
        exact Ends.oneE rfl (rest_free _ _ _ _ _ _) e.symm (by rw [e]; decide)
      rename_i hr
      have hr : ¬ 2 ≤ last := by simp at hr; omega
      rw [if_neg (by rw [n1']; exact hr)] at hH
      (conv => whnf)
      refine ⟨rfl, ⟨by omega, by rw [hAN]; omega, by rw [hAN]; simp; omega, by rw [hAN]; simp; omega⟩, ?_⟩
      (conv => whnf)
      refine ⟨by kernel_rfl, ?_⟩
      (conv => whnf)
      obtain rfl := hq (by omega)
      have hsl : V.sl fr 1 (List.drop (atB b : Int).toNat (List.take (IntKind.i64.wrap ((atB b : Int) + (numB b : Int))).toNat (List.map (fun x => [V.int .u8 x.toNat]) b))) = encB fr (valB b) := by
        rw [hAN, Int.toNat_natCast, Int.toNat_natCast, ← List.map_take, ← List.map_drop, List.drop_take, Nat.add_sub_cancel_left]
        rfl
      have hsr : V.sl fr 1 (List.drop (IntKind.i64.wrap ((atB b : Int) + (numB b : Int))).toNat (List.map (fun x => [V.int .u8 x.toNat]) b)) = encB fr (restB b) := by
        rw [hAN, Int.toNat_natCast, ← List.map_drop]
        rfl
      have hvl : (valB b).length ≤ 1000000 := by simp [valB]; omega
      refine callV_read (b := 0) (readRoute_ok fr (valB b) hvl a _ _ _ (encB_free _ _) .int .int) rfl (encB_free _ _) .int .int ⟨.ptr rfl (by omega), .eq_of hsl (encB_free _ _), trivial⟩ fun c8 h8 hf8 hok => ?_
      obtain ⟨a0, a1, a2, a3, a4, a5, a6, a7, rfl⟩ := eight h8
      have ee : oneE b last = lowE 2 (valB b) := by
        rw [oneE, if_neg (by simp [hH]), n1']
      (conv => whnf)
      refine ⟨rfl, ?_⟩
      (conv => whnf)
      refine ⟨_, _, _, Ends.here, ?_⟩
      (conv => whnf)
      cases he : (lowE 2 (valB b) == 0) with
      | false =>
        have he' : lowE 2 (valB b) ≠ 0 := by simpa using he
        (conv => whnf)
        refine ⟨rfl, ⟨by rw [hAN]; omega, by rw [hAN]; simp; omega⟩, ?_⟩
        (conv => whnf)
        refine ⟨by kernel_rfl, ?_⟩
        (conv => whnf)
        exact Ends.oneE rfl (rest8_free hf8) ee.symm (by rw [ee]; exact he')
      | true =>
        have he' : lowE 2 (valB b) = 0 := by simpa using he
        have h8 := hok he'
        (conv => whnf)
        refine ⟨rfl, ⟨by rw [hAN]; omega, by rw [hAN]; simp; omega⟩, ?_⟩
        (conv => whnf)
        refine ⟨by kernel_rfl, ?_⟩
        (conv => whnf)
        refine Ends.oneK (cells' := readerV fr (restB b) 2 (seen + 1) _ (lowA 2 a (valB b))) rfl (readerV_free _ _ _ _ _ _) ⟨.eq_of hsr (encB_free _ _), .int_of rfl, .int_of hse, .of_eq h8 (cellsR_free _ _)⟩ ee.symm (fun _ => by rw [n1']; rfl)
    case succ.succ.zero =>
      (conv => whnf)
      refine ⟨rfl, _, ⟨by simp, rfl⟩, ?_⟩
      (conv => whnf)
      subst hasg hbody
      refine roundV_of tab_ok mixed rfl (by simp) (show 8 < 10 by omega) ?_
      (conv => whnf)
      refine ⟨rfl, ?_⟩
      (conv => whnf)
      split
      · rename_i hc
        have hc : x1.toNat ≠ 3 := by simp at hc; omega
        (conv => whnf)
        refine ⟨rfl, ?_⟩
        (conv => whnf)
        refine ⟨⟨2 + 1, by omega, ?_⟩, Wk.of id [] ⟨.yld rfl (by omega), .free attributesV_cap, .free attrV_free, .int_of rfl, .int_of rfl, trivial⟩ (LeH.of ⟨⟨by omega, .inl ⟨by simp, _, rfl, rfl, rfl, rfl, rfl, rfl, rfl, .ptr rfl (by omega), .ptr rfl (by omega), .ptr rfl (by omega), .ptr rfl (by omega), .ptr rfl (by omega), .ptr rfl (by omega), .ptr rfl (by omega), trivial⟩⟩,
          ⟨by omega, .inl ⟨by simp, _, rfl, LeB.free (blk := .var true 147 (readerV fr b last seen q a)) (readerV_free _ _ _ _ _ _)⟩⟩, ⟨by omega, .inl ⟨by simp, _, rfl, id, rfl, .ptr rfl (by omega), trivial⟩⟩, ⟨by omega, .inl ⟨by simp, _, rfl, id, rfl, .free .int, trivial⟩⟩, ⟨by omega, .inl ⟨by simp, _, rfl, id, rfl, .free .int, trivial⟩⟩,
          ⟨by omega, .inl ⟨by simp, _, rfl, id, rfl, .free .int, trivial⟩⟩, ⟨by omega, .inl ⟨by simp, _, rfl, id, rfl, .free .int, trivial⟩⟩, ⟨by omega, .inl ⟨by simp, _, rfl, id, rfl, .free .bool, trivial⟩⟩, ⟨by omega, .inl ⟨by simp, _, rfl, id, rfl, .free .int, trivial⟩⟩, trivial⟩ (fun _ _ _ _ h => h) (fun _ _ => rfl) (by omega) (by simp)), by simp only; omega⟩
        intro j hj
        rcases Nat.lt_or_ge j 2 with h | h
        · exact hne j h
        · obtain rfl : j = 2 := by omega
          exact fun e => hc e.symm
      rename_i hc
      have hc : x1.toNat = 3 := by simp at hc; omega
      obtain rfl : x1 = 3 := UInt8.toNat_inj.1 hc
      have n1' : byteN b 1 = 3 := by rw [n1]; rfl
      (conv => whnf)
      have hF : flagsI (byteN b 1) = 64 := by rw [n1']; rfl
      have hH := head_is (last := last) h h4 h3 (by rw [hF]; decide)
      rw [hF] at hH
      cases hf : (bits BinOp.andNot IntKind.u8 (x0.toNat : Int) 16 != 64)
      case true =>
        have e : oneE b last = 292 := by
          have : headE b last = 292 := by
            rw [hH, if_pos]
            left
            rw [andNot16 _ h0] at hf
            rw [n0, show lngB b = (x0.toNat / 16 % 2 == 1) by rw [lngB, n0]]
            simpa using hf
          simp [oneE, this]
        (conv => whnf)
        refine ⟨rfl, ?_⟩
        (conv => whnf)
        refine ⟨_, _, _, Ends.here, ?_⟩
        (conv => whnf)
        refine ⟨rfl, ⟨by rw [hAN]; omega, by rw [hAN]; simp; omega⟩, ?_⟩
        (conv => whnf)
        refine ⟨by kernel_rfl, ?_⟩
        (conv => whnf)
        exact Ends.oneE rfl (rest_free _ _ _ _ _ _) e.symm (by rw [e]; decide)
      have hf : (byteN b 0 : Int) - (if lngB b then 16 else 0) = 64 := by
        rw [andNot16 _ h0] at hf
        rw [n0, show lngB b = (x0.toNat / 16 % 2 == 1) by rw [lngB, n0]]
        simpa using hf
      (conv => whnf)
      split
      · rename_i hg
        have e : oneE b last = 292 := by
          have : headE b last = 292 := by
            rw [hH, if_pos]
            right
            rw [hd] at hg
            simpa using hg
          simp [oneE, this]
        (conv => whnf)
        refine ⟨rfl, ?_⟩
        (conv => whnf)
        refine ⟨_, _, _, Ends.here, ?_⟩
        (conv => whnf)
        refine ⟨rfl, ⟨by rw [hAN]; omega, by rw [hAN]; simp; omega⟩, ?_⟩
        (conv => whnf)
        refine ⟨by kernel_rfl, ?_⟩
        (conv => whnf)
        exact Ends.oneE rfl (rest_free _ _ _ _ _ _) e.symm (by rw [e]; decide)
      rename_i hg
      have hg : lngB b = decide (255 < numB b) := by rw [hd] at hg; simpa using hg
      rw [if_neg (by rintro (h | h) <;> contradiction)] at hH
      (conv => whnf)
      refine ⟨by kernel_rfl, ?_⟩
      (conv => whnf)
      split
      · rename_i hr
        have e : oneE b last = 293 := by
          have : headE b last = 293 := by
            rw [hH, if_pos]
            rw [n1']
            simp at hr
            omega
          simp [oneE, this]
        (conv => whnf)
        refine ⟨rfl, ?_⟩
        (conv => whnf)
        refine ⟨_, _, _, Ends.here, ?_⟩
        (conv => whnf)
        refine ⟨rfl, ⟨by rw [hAN]; omega, by rw [hAN]; simp; omega⟩, ?_⟩
        (conv => whnf)
        refine ⟨by kernel_rfl, ?_⟩
        (conv => whnf)
        exact Ends.oneE rfl (rest_free _ _ _ _ _ _) e.symm (by rw [e]; decide)
      rename_i hr
      have hr : ¬ 3 ≤ last := by simp at hr; omega
      rw [if_neg (by rw [n1']; exact hr)] at hH
      (conv => whnf)
      refine ⟨rfl, ⟨by omega, by rw [hAN]; omega, by rw [hAN]; simp; omega, by rw [hAN]; simp; omega⟩, ?_⟩
      (conv => whnf)
      refine ⟨by kernel_rfl, ?_⟩
      (conv => whnf)
      have hsl : V.sl fr 1 (List.drop (atB b : Int).toNat (List.take (IntKind.i64.wrap ((atB b : Int) + (numB b : Int))).toNat (List.map (fun x => [V.int .u8 x.toNat]) b))) = encB fr (valB b) := by
        rw [hAN, Int.toNat_natCast, Int.toNat_natCast, ← List.map_take, ← List.map_drop, List.drop_take, Nat.add_sub_cancel_left]
        rfl
      have hsr : V.sl fr 1 (List.drop (IntKind.i64.wrap ((atB b : Int) + (numB b : Int))).toNat (List.map (fun x => [V.int .u8 x.toNat]) b)) = encB fr (restB b) := by
        rw [hAN, Int.toNat_natCast, ← List.map_drop]
        rfl
      have hvl : (valB b).length ≤ 1000000 := by simp [valB]; omega
      refine callV_read (b := 0) (read3_ok fr (valB b) q a _ _ _ (encB_free _ _) .int .int) rfl (encB_free _ _) .int .int ⟨.ptr rfl (by omega), .eq_of hsl (encB_free _ _), .free (iptr_fn_free _), trivial⟩ fun c8 h8 hf8 hok => ?_
      obtain ⟨a0, a1, a2, a3, a4, a5, a6, a7, rfl⟩ := eight h8
      have ee : oneE b last = lowE 3 (valB b) := by
        rw [oneE, if_neg (by simp [hH]), n1']
      (conv => whnf)
      refine ⟨rfl, ?_⟩
      (conv => whnf)
      refine ⟨_, _, _, Ends.here, ?_⟩
      (conv => whnf)
      cases he : (lowE 3 (valB b) == 0) with
      | false =>
        have he' : lowE 3 (valB b) ≠ 0 := by simpa using he
        (conv => whnf)
        refine ⟨rfl, ⟨by rw [hAN]; omega, by rw [hAN]; simp; omega⟩, ?_⟩
        (conv => whnf)
        refine ⟨by kernel_rfl, ?_⟩
        (conv => whnf)
        exact Ends.oneE rfl (rest8_free hf8) ee.symm (by rw [ee]; exact he')
      | true =>
        have he' : lowE 3 (valB b) = 0 := by simpa using he
        have h8 := hok he'
        (conv => whnf)
        refine ⟨rfl, ⟨by rw [hAN]; omega, by rw [hAN]; simp; omega⟩, ?_⟩
        (conv => whnf)
        refine ⟨by kernel_rfl, ?_⟩
        (conv => whnf)
        refine Ends.oneK (cells' := readerV fr (restB b) 3 (seen + 1) _ (lowA 3 a (valB b))) rfl (readerV_free _ _ _ _ _ _) ⟨.eq_of hsr (encB_free _ _), .int_of rfl, .int_of hse, .of_eq h8 (cellsR_free _ _)⟩ ee.symm (fun _ => by rw [n1']; rfl)
    case succ.succ.succ.zero =>
      (conv => whnf)
      refine ⟨rfl, _, ⟨by simp, rfl⟩, ?_⟩
      (conv => whnf)
      subst hasg hbody
      refine roundV_of tab_ok mixed rfl (by simp) (show 8 < 10 by omega) ?_
      (conv => whnf)
      refine ⟨rfl, ?_⟩
      (conv => whnf)
      split
      · rename_i hc
        have hc : x1.toNat ≠ 4 := by simp at hc; omega
        (conv => whnf)
        refine ⟨rfl, ?_⟩
        (conv => whnf)
        refine ⟨⟨3 + 1, by omega, ?_⟩, Wk.of id [] ⟨.yld rfl (by omega), .free attributesV_cap, .free attrV_free, .int_of rfl, .int_of rfl, trivial⟩ (LeH.of ⟨⟨by omega, .inl ⟨by simp, _, rfl, rfl, rfl, rfl, rfl, rfl, rfl, .ptr rfl (by omega), .ptr rfl (by omega), .ptr rfl (by omega), .ptr rfl (by omega), .ptr rfl (by omega), .ptr rfl (by omega), .ptr rfl (by omega), trivial⟩⟩,
          ⟨by omega, .inl ⟨by simp, _, rfl, LeB.free (blk := .var true 147 (readerV fr b last seen q a)) (readerV_free _ _ _ _ _ _)⟩⟩, ⟨by omega, .inl ⟨by simp, _, rfl, id, rfl, .ptr rfl (by omega), trivial⟩⟩, ⟨by omega, .inl ⟨by simp, _, rfl, id, rfl, .free .int, trivial⟩⟩, ⟨by omega, .inl ⟨by simp, _, rfl, id, rfl, .free .int, trivial⟩⟩,
          ⟨by omega, .inl ⟨by simp, _, rfl, id, rfl, .free .int, trivial⟩⟩, ⟨by omega, .inl ⟨by simp, _, rfl, id, rfl, .free .int, trivial⟩⟩, ⟨by omega, .inl ⟨by simp, _, rfl, id, rfl, .free .bool, trivial⟩⟩, ⟨by omega, .inl ⟨by simp, _, rfl, id, rfl, .free .int, trivial⟩⟩, trivial⟩ (fun _ _ _ _ h => h) (fun _ _ => rfl) (by omega) (by simp)), by simp only; omega⟩
        intro j hj
        rcases Nat.lt_or_ge j 3 with h | h
        · exact hne j h
        · obtain rfl : j = 3 := by omega
          exact fun e => hc e.symm
      rename_i hc
      have hc : x1.toNat = 4 := by simp at hc; omega
      obtain rfl : x1 = 4 := UInt8.toNat_inj.1 hc
      have n1' : byteN b 1 = 4 := by rw [n1]; rfl
      (conv => whnf)
      have hF : flagsI (byteN b 1) = 128 := by rw [n1']; rfl
      have hH := head_is (last := last) h h4 h3 (by rw [hF]; decide)
      rw [hF] at hH
      cases hf : (bits BinOp.andNot IntKind.u8 (x0.toNat : Int) 16 != 128)
      case true =>
        have e : oneE b last = 292 := by
          have : headE b last = 292 := by
            rw [hH, if_pos]
            left
            rw [andNot16 _ h0] at hf
            rw [n0, show lngB b = (x0.toNat / 16 % 2 == 1) by rw [lngB, n0]]
            simpa using hf
          simp [oneE, this]
        (conv => whnf)
        refine ⟨rfl, ?_⟩
        (conv => whnf)
        refine ⟨_, _, _, Ends.here, ?_⟩
        (conv => whnf)
        refine ⟨rfl, ⟨by rw [hAN]; omega, by rw [hAN]; simp; omega⟩, ?_⟩
        (conv => whnf)
        refine ⟨by kernel_rfl, ?_⟩
        (conv => whnf)
        exact Ends.oneE rfl (rest_free _ _ _ _ _ _) e.symm (by rw [e]; decide)
      have hf : (byteN b 0 : Int) - (if lngB b then 16 else 0) = 128 := by
        rw [andNot16 _ h0] at hf
        rw [n0, show lngB b = (x0.toNat / 16 % 2 == 1) by rw [lngB, n0]]
        simpa using hf
      (conv => whnf)
      split
      · rename_i hg
        have e : oneE b last = 292 := by
          have : headE b last = 292 := by
            rw [hH, if_pos]
            right
            rw [hd] at hg
            simpa using hg
          simp [oneE, this]
        (conv => whnf)
        refine ⟨rfl, ?_⟩
        (conv => whnf)
        refine ⟨_, _, _, Ends.here, ?_⟩
        (conv => whnf)
        refine ⟨rfl, ⟨by rw [hAN]; omega, by rw [hAN]; simp; omega⟩, ?_⟩
        (conv => whnf)
        refine ⟨by kernel_rfl, ?_⟩
        (conv => whnf)
        exact Ends.oneE rfl (rest_free _ _ _ _ _ _) e.symm (by rw [e]; decide)
      rename_i hg
      have hg : lngB b = decide (255 < numB b) := by rw [hd] at hg; simpa using hg
      rw [if_neg (by rintro (h | h) <;> contradiction)] at hH
      (conv => whnf)
      refine ⟨by kernel_rfl, ?_⟩
      (conv => whnf)
      split
      · rename_i hr
        have e : oneE b last = 293 := by
          have : headE b last = 293 := by
            rw [hH, if_pos]
            rw [n1']
            simp at hr
            omega
          simp [oneE, this]
        (conv => whnf)
        refine ⟨rfl, ?_⟩
        (conv => whnf)
        refine ⟨_, _, _, Ends.here, ?_⟩
        (conv => whnf)
        refine ⟨rfl, ⟨by rw [hAN]; omega, by rw [hAN]; simp; omega⟩, ?_⟩
        (conv => whnf)
        refine ⟨by kernel_rfl, ?_⟩
        (conv => whnf)
        exact Ends.oneE rfl (rest_free _ _ _ _ _ _) e.symm (by rw [e]; decide)
      rename_i hr
      have hr : ¬ 4 ≤ last := by simp at hr; omega
      rw [if_neg (by rw [n1']; exact hr)] at hH
      (conv => whnf)
      refine ⟨rfl, ⟨by omega, by rw [hAN]; omega, by rw [hAN]; simp; omega, by rw [hAN]; simp; omega⟩, ?_⟩
      (conv => whnf)
      refine ⟨by kernel_rfl, ?_⟩
      (conv => whnf)
      have hsl : V.sl fr 1 (List.drop (atB b : Int).toNat (List.take (IntKind.i64.wrap ((atB b : Int) + (numB b : Int))).toNat (List.map (fun x => [V.int .u8 x.toNat]) b))) = encB fr (valB b) := by
        rw [hAN, Int.toNat_natCast, Int.toNat_natCast, ← List.map_take, ← List.map_drop, List.drop_take, Nat.add_sub_cancel_left]
        rfl
      have hsr : V.sl fr 1 (List.drop (IntKind.i64.wrap ((atB b : Int) + (numB b : Int))).toNat (List.map (fun x => [V.int .u8 x.toNat]) b)) = encB fr (restB b) := by
        rw [hAN, Int.toNat_natCast, ← List.map_drop]
        rfl
      have hvl : (valB b).length ≤ 1000000 := by simp [valB]; omega
      refine callV_read (b := 0) (read4_ok fr (valB b) q a _ _ _ (encB_free _ _) .int .int) rfl (encB_free _ _) .int .int ⟨.ptr rfl (by omega), .eq_of hsl (encB_free _ _), .free (iptr_fn_free _), trivial⟩ fun c8 h8 hf8 hok => ?_
      obtain ⟨a0, a1, a2, a3, a4, a5, a6, a7, rfl⟩ := eight h8
      have ee : oneE b last = lowE 4 (valB b) := by
        rw [oneE, if_neg (by simp [hH]), n1']
      (conv => whnf)
      refine ⟨rfl, ?_⟩
      (conv => whnf)
      refine ⟨_, _, _, Ends.here, ?_⟩
      (conv => whnf)
      cases he : (lowE 4 (valB b) == 0) with
      | false =>
        have he' : lowE 4 (valB b) ≠ 0 := by simpa using he
        (conv => whnf)
        refine ⟨rfl, ⟨by rw [hAN]; omega, by rw [hAN]; simp; omega⟩, ?_⟩
        (conv => whnf)
        refine ⟨by kernel_rfl, ?_⟩
        (conv => whnf)
        exact Ends.oneE rfl (rest8_free hf8) ee.symm (by rw [ee]; exact he')
      | true =>
        have he' : lowE 4 (valB b) = 0 := by simpa using he
        have h8 := hok he'
        (conv => whnf)
        refine ⟨rfl, ⟨by rw [hAN]; omega, by rw [hAN]; simp; omega⟩, ?_⟩
        (conv => whnf)
        refine ⟨by kernel_rfl, ?_⟩
        (conv => whnf)
        refine Ends.oneK (cells' := readerV fr (restB b) 4 seen _ (lowA 4 a (valB b))) rfl (readerV_free _ _ _ _ _ _) ⟨.eq_of hsr (encB_free _ _), .int_of rfl, .int_of rfl, .of_eq h8 (cellsR_free _ _)⟩ ee.symm (fun _ => by rw [n1']; rfl)
    case succ.succ.succ.succ.zero =>
      (conv => whnf)
      refine ⟨rfl, _, ⟨by simp, rfl⟩, ?_⟩
      (conv => whnf)
      subst hasg hbody
      refine roundV_of tab_ok mixed rfl (by simp) (show 8 < 10 by omega) ?_
      (conv => whnf)
      refine ⟨rfl, ?_⟩
      (conv => whnf)
      split
      · rename_i hc
        have hc : x1.toNat ≠ 5 := by simp at hc; omega
        (conv => whnf)
        refine ⟨rfl, ?_⟩
        (conv => whnf)
        refine ⟨⟨4 + 1, by omega, ?_⟩, Wk.of id [] ⟨.yld rfl (by omega), .free attributesV_cap, .free attrV_free, .int_of rfl, .int_of rfl, trivial⟩ (LeH.of ⟨⟨by omega, .inl ⟨by simp, _, rfl, rfl, rfl, rfl, rfl, rfl, rfl, .ptr rfl (by omega), .ptr rfl (by omega), .ptr rfl (by omega), .ptr rfl (by omega), .ptr rfl (by omega), .ptr rfl (by omega), .ptr rfl (by omega), trivial⟩⟩,
          ⟨by omega, .inl ⟨by simp, _, rfl, LeB.free (blk := .var true 147 (readerV fr b last seen q a)) (readerV_free _ _ _ _ _ _)⟩⟩, ⟨by omega, .inl ⟨by simp, _, rfl, id, rfl, .ptr rfl (by omega), trivial⟩⟩, ⟨by omega, .inl ⟨by simp, _, rfl, id, rfl, .free .int, trivial⟩⟩, ⟨by omega, .inl ⟨by simp, _, rfl, id, rfl, .free .int, trivial⟩⟩,
          ⟨by omega, .inl ⟨by simp, _, rfl, id, rfl, .free .int, trivial⟩⟩, ⟨by omega, .inl ⟨by simp, _, rfl, id, rfl, .free .int, trivial⟩⟩, ⟨by omega, .inl ⟨by simp, _, rfl, id, rfl, .free .bool, trivial⟩⟩, ⟨by omega, .inl ⟨by simp, _, rfl, id, rfl, .free .int, trivial⟩⟩, trivial⟩ (fun _ _ _ _ h => h) (fun _ _ => rfl) (by omega) (by simp)), by simp only; omega⟩
        intro j hj
        rcases Nat.lt_or_ge j 4 with h | h
        · exact hne j h
        · obtain rfl : j = 4 := by omega
          exact fun e => hc e.symm
      rename_i hc
      have hc : x1.toNat = 5 := by simp at hc; omega
      obtain rfl : x1 = 5 := UInt8.toNat_inj.1 hc
      have n1' : byteN b 1 = 5 := by rw [n1]; rfl
      (conv => whnf)
      have hF : flagsI (byteN b 1) = 64 := by rw [n1']; rfl
      have hH := head_is (last := last) h h4 h3 (by rw [hF]; decide)
      rw [hF] at hH
      cases hf : (bits BinOp.andNot IntKind.u8 (x0.toNat : Int) 16 != 64)
      case true =>
        have e : oneE b last = 292 := by
          have : headE b last = 292 := by
            rw [hH, if_pos]
            left
            rw [andNot16 _ h0] at hf
            rw [n0, show lngB b = (x0.toNat / 16 % 2 == 1) by rw [lngB, n0]]
            simpa using hf
          simp [oneE, this]
        (conv => whnf)
        refine ⟨rfl, ?_⟩
        (conv => whnf)
        refine ⟨_, _, _, Ends.here, ?_⟩
        (conv => whnf)
        refine ⟨rfl, ⟨by rw [hAN]; omega, by rw [hAN]; simp; omega⟩, ?_⟩
        (conv => whnf)
        refine ⟨by kernel_rfl, ?_⟩
        (conv => whnf)
        exact Ends.oneE rfl (rest_free _ _ _ _ _ _) e.symm (by rw [e]; decide)
      have hf : (byteN b 0 : Int) - (if lngB b then 16 else 0) = 64 := by
        rw [andNot16 _ h0] at hf
        rw [n0, show lngB b = (x0.toNat / 16 % 2 == 1) by rw [lngB, n0]]
        simpa using hf
      (conv => whnf)
      split
      · rename_i hg
        have e : oneE b last = 292 := by
          have : headE b last = 292 := by
            rw [hH, if_pos]
            right
            rw [hd] at hg
            simpa using hg
          simp [oneE, this]
        (conv => whnf)
        refine ⟨rfl, ?_⟩
        (conv => whnf)
        refine ⟨_, _, _, Ends.here, ?_⟩
        (conv => whnf)
        refine ⟨rfl, ⟨by rw [hAN]; omega, by rw [hAN]; simp; omega⟩, ?_⟩
        (conv => whnf)
        refine ⟨by kernel_rfl, ?_⟩
        (conv => whnf)
        exact Ends.oneE rfl (rest_free _ _ _ _ _ _) e.symm (by rw [e]; decide)
      rename_i hg
      have hg : lngB b = decide (255 < numB b) := by rw [hd] at hg; simpa using hg
      rw [if_neg (by rintro (h | h) <;> contradiction)] at hH
      (conv => whnf)
      refine ⟨by kernel_rfl, ?_⟩
      (conv => whnf)
      split
      · rename_i hr
        have e : oneE b last = 293 := by
          have : headE b last = 293 := by
            rw [hH, if_pos]
            rw [n1']
            simp at hr
            omega
          simp [oneE, this]
        (conv => whnf)
        refine ⟨rfl, ?_⟩
        (conv => whnf)
        refine ⟨_, _, _, Ends.here, ?_⟩
        (conv => whnf)
        refine ⟨rfl, ⟨by rw [hAN]; omega, by rw [hAN]; simp; omega⟩, ?_⟩
        (conv => whnf)
        refine ⟨by kernel_rfl, ?_⟩
        (conv => whnf)
        exact Ends.oneE rfl (rest_free _ _ _ _ _ _) e.symm (by rw [e]; decide)
      rename_i hr
      have hr : ¬ 5 ≤ last := by simp at hr; omega
      rw [if_neg (by rw [n1']; exact hr)] at hH
      (conv => whnf)
      refine ⟨rfl, ⟨by omega, by rw [hAN]; omega, by rw [hAN]; simp; omega, by rw [hAN]; simp; omega⟩, ?_⟩
      (conv => whnf)
      refine ⟨by kernel_rfl, ?_⟩
      (conv => whnf)
      have hsl : V.sl fr 1 (List.drop (atB b : Int).toNat (List.take (IntKind.i64.wrap ((atB b : Int) + (numB b : Int))).toNat (List.map (fun x => [V.int .u8 x.toNat]) b))) = encB fr (valB b) := by
        rw [hAN, Int.toNat_natCast, Int.toNat_natCast, ← List.map_take, ← List.map_drop, List.drop_take, Nat.add_sub_cancel_left]
        rfl
      have hsr : V.sl fr 1 (List.drop (IntKind.i64.wrap ((atB b : Int) + (numB b : Int))).toNat (List.map (fun x => [V.int .u8 x.toNat]) b)) = encB fr (restB b) := by
        rw [hAN, Int.toNat_natCast, ← List.map_drop]
        rfl
      have hvl : (valB b).length ≤ 1000000 := by simp [valB]; omega
      refine callV_read (b := 0) (read5_ok fr (valB b) q a _ _ _ (encB_free _ _) .int .int) rfl (encB_free _ _) .int .int ⟨.ptr rfl (by omega), .eq_of hsl (encB_free _ _), .free (iptr_fn_free _), trivial⟩ fun c8 h8 hf8 hok => ?_
      obtain ⟨a0, a1, a2, a3, a4, a5, a6, a7, rfl⟩ := eight h8
      have ee : oneE b last = lowE 5 (valB b) := by
        rw [oneE, if_neg (by simp [hH]), n1']
      (conv => whnf)
      refine ⟨rfl, ?_⟩
      (conv => whnf)
      refine ⟨_, _, _, Ends.here, ?_⟩
      (conv => whnf)
      cases he : (lowE 5 (valB b) == 0) with
      | false =>
        have he' : lowE 5 (valB b) ≠ 0 := by simpa using he
        (conv => whnf)
        refine ⟨rfl, ⟨by rw [hAN]; omega, by rw [hAN]; simp; omega⟩, ?_⟩
        (conv => whnf)
        refine ⟨by kernel_rfl, ?_⟩
        (conv => whnf)
        exact Ends.oneE rfl (rest8_free hf8) ee.symm (by rw [ee]; exact he')
      | true =>
        have he' : lowE 5 (valB b) = 0 := by simpa using he
        have h8 := hok he'
        (conv => whnf)
        refine ⟨rfl, ⟨by rw [hAN]; omega, by rw [hAN]; simp; omega⟩, ?_⟩
        (conv => whnf)
        refine ⟨by kernel_rfl, ?_⟩
        (conv => whnf)
        refine Ends.oneK (cells' := readerV fr (restB b) 5 seen _ (lowA 5 a (valB b))) rfl (readerV_free _ _ _ _ _ _) ⟨.eq_of hsr (encB_free _ _), .int_of rfl, .int_of rfl, .of_eq h8 (cellsR_free _ _)⟩ ee.symm (fun _ => by rw [n1']; rfl)
    case succ.succ.succ.succ.succ.zero =>
      (conv => whnf)
      refine ⟨rfl, _, ⟨by simp, rfl⟩, ?_⟩
      (conv => whnf)
      subst hasg hbody
      refine roundV_of tab_ok mixed rfl (by simp) (show 8 < 10 by omega) ?_
      (conv => whnf)
      refine ⟨rfl, ?_⟩
      (conv => whnf)
      split
      · rename_i hc
        have hc : x1.toNat ≠ 8 := by simp at hc; omega
        (conv => whnf)
        refine ⟨rfl, ?_⟩
        (conv => whnf)
        refine ⟨⟨5 + 1, by omega, ?_⟩, Wk.of id [] ⟨.yld rfl (by omega), .free attributesV_cap, .free attrV_free, .int_of rfl, .int_of rfl, trivial⟩ (LeH.of ⟨⟨by omega, .inl ⟨by simp, _, rfl, rfl, rfl, rfl, rfl, rfl, rfl, .ptr rfl (by omega), .ptr rfl (by omega), .ptr rfl (by omega), .ptr rfl (by omega), .ptr rfl (by omega), .ptr rfl (by omega), .ptr rfl (by omega), trivial⟩⟩,
          ⟨by omega, .inl ⟨by simp, _, rfl, LeB.free (blk := .var true 147 (readerV fr b last seen q a)) (readerV_free _ _ _ _ _ _)⟩⟩, ⟨by omega, .inl ⟨by simp, _, rfl, id, rfl, .ptr rfl (by omega), trivial⟩⟩, ⟨by omega, .inl ⟨by simp, _, rfl, id, rfl, .free .int, trivial⟩⟩, ⟨by omega, .inl ⟨by simp, _, rfl, id, rfl, .free .int, trivial⟩⟩,
          ⟨by omega, .inl ⟨by simp, _, rfl, id, rfl, .free .int, trivial⟩⟩, ⟨by omega, .inl ⟨by simp, _, rfl, id, rfl, .free .int, trivial⟩⟩, ⟨by omega, .inl ⟨by simp, _, rfl, id, rfl, .free .bool, trivial⟩⟩, ⟨by omega, .inl ⟨by simp, _, rfl, id, rfl, .free .int, trivial⟩⟩, trivial⟩ (fun _ _ _ _ h => h) (fun _ _ => rfl) (by omega) (by simp)), by simp only; omega⟩
        intro j hj
        rcases Nat.lt_or_ge j 5 with h | h
        · exact hne j h
        · obtain rfl : j = 5 := by omega
          exact fun e => hc e.symm
      rename_i hc
      have hc : x1.toNat = 8 := by simp at hc; omega
      obtain rfl : x1 = 8 := UInt8.toNat_inj.1 hc
      have n1' : byteN b 1 = 8 := by rw [n1]; rfl
      (conv => whnf)
      have hF : flagsI (byteN b 1) = 192 := by rw [n1']; rfl
      have hH := head_is (last := last) h h4 h3 (by rw [hF]; decide)
      rw [hF] at hH
      cases hf : (bits BinOp.andNot IntKind.u8 (x0.toNat : Int) 16 != 192)
      case true =>
        have e : oneE b last = 292 := by
          have : headE b last = 292 := by
            rw [hH, if_pos]
            left
            rw [andNot16 _ h0] at hf
            rw [n0, show lngB b = (x0.toNat / 16 % 2 == 1) by rw [lngB, n0]]
            simpa using hf
          simp [oneE, this]
        (conv => whnf)
        refine ⟨rfl, ?_⟩
        (conv => whnf)
        refine ⟨_, _, _, Ends.here, ?_⟩
        (conv => whnf)
        refine ⟨rfl, ⟨by rw [hAN]; omega, by rw [hAN]; simp; omega⟩, ?_⟩
        (conv => whnf)
        refine ⟨by kernel_rfl, ?_⟩
        (conv => whnf)
        exact Ends.oneE rfl (rest_free _ _ _ _ _ _) e.symm (by rw [e]; decide)
      have hf : (byteN b 0 : Int) - (if lngB b then 16 else 0) = 192 := by
        rw [andNot16 _ h0] at hf
        rw [n0, show lngB b = (x0.toNat / 16 % 2 == 1) by rw [lngB, n0]]
        simpa using hf
      (conv => whnf)
      split
      · rename_i hg
        have e : oneE b last = 292 := by
          have : headE b last = 292 := by
            rw [hH, if_pos]
            right
            rw [hd] at hg
            simpa using hg
          simp [oneE, this]
        (conv => whnf)
        refine ⟨rfl, ?_⟩
        (conv => whnf)
        refine ⟨_, _, _, Ends.here, ?_⟩
        (conv => whnf)
        refine ⟨rfl, ⟨by rw [hAN]; omega, by rw [hAN]; simp; omega⟩, ?_⟩
        (conv => whnf)
        refine ⟨by kernel_rfl, ?_⟩
        (conv => whnf)
        exact Ends.oneE rfl (rest_free _ _ _ _ _ _) e.symm (by rw [e]; decide)
      rename_i hg
      have hg : lngB b = decide (255 < numB b) := by rw [hd] at hg; simpa using hg
      rw [if_neg (by rintro (h | h) <;> contradiction)] at hH
      (conv => whnf)
      refine ⟨by kernel_rfl, ?_⟩
      (conv => whnf)
      split
      · rename_i hr
        have e : oneE b last = 293 := by
          have : headE b last = 293 := by
            rw [hH, if_pos]
            rw [n1']
            simp at hr
            omega
          simp [oneE, this]
        (conv => whnf)
        refine ⟨rfl, ?_⟩
        (conv => whnf)
        refine ⟨_, _, _, Ends.here, ?_⟩
        (conv => whnf)
        refine ⟨rfl, ⟨by rw [hAN]; omega, by rw [hAN]; simp; omega⟩, ?_⟩
        (conv => whnf)
        refine ⟨by kernel_rfl, ?_⟩
        (conv => whnf)
        exact Ends.oneE rfl (rest_free _ _ _ _ _ _) e.symm (by rw [e]; decide)
      rename_i hr
      have hr : ¬ 8 ≤ last := by simp at hr; omega
      rw [if_neg (by rw [n1']; exact hr)] at hH
      (conv => whnf)
      refine ⟨rfl, ⟨by omega, by rw [hAN]; omega, by rw [hAN]; simp; omega, by rw [hAN]; simp; omega⟩, ?_⟩
      (conv => whnf)
      refine ⟨by kernel_rfl, ?_⟩
      (conv => whnf)
      have hsl : V.sl fr 1 (List.drop (atB b : Int).toNat (List.take (IntKind.i64.wrap ((atB b : Int) + (numB b : Int))).toNat (List.map (fun x => [V.int .u8 x.toNat]) b))) = encB fr (valB b) := by
        rw [hAN, Int.toNat_natCast, Int.toNat_natCast, ← List.map_take, ← List.map_drop, List.drop_take, Nat.add_sub_cancel_left]
        rfl
      have hsr : V.sl fr 1 (List.drop (IntKind.i64.wrap ((atB b : Int) + (numB b : Int))).toNat (List.map (fun x => [V.int .u8 x.toNat]) b)) = encB fr (restB b) := by
        rw [hAN, Int.toNat_natCast, ← List.map_drop]
        rfl
      have hvl : (valB b).length ≤ 1000000 := by simp [valB]; omega
      refine callV_read (b := 0) (read8_ok fr (valB b) hvl q a _ _ _ (encB_free _ _) .int .int) rfl (encB_free _ _) .int .int ⟨.ptr rfl (by omega), .eq_of hsl (encB_free _ _), trivial⟩ fun c8 h8 hf8 hok => ?_
      obtain ⟨a0, a1, a2, a3, a4, a5, a6, a7, rfl⟩ := eight h8
      have ee : oneE b last = lowE 8 (valB b) := by
        rw [oneE, if_neg (by simp [hH]), n1']
      (conv => whnf)
      refine ⟨rfl, ?_⟩
      (conv => whnf)
      refine ⟨_, _, _, Ends.here, ?_⟩
      (conv => whnf)
      cases he : (lowE 8 (valB b) == 0) with
      | false =>
        have he' : lowE 8 (valB b) ≠ 0 := by simpa using he
        (conv => whnf)
        refine ⟨rfl, ⟨by rw [hAN]; omega, by rw [hAN]; simp; omega⟩, ?_⟩
        (conv => whnf)
        refine ⟨by kernel_rfl, ?_⟩
        (conv => whnf)
        exact Ends.oneE rfl (rest8_free hf8) ee.symm (by rw [ee]; exact he')
      | true =>
        have he' : lowE 8 (valB b) = 0 := by simpa using he
        have h8 := hok he'
        (conv => whnf)
        refine ⟨rfl, ⟨by rw [hAN]; omega, by rw [hAN]; simp; omega⟩, ?_⟩
        (conv => whnf)
        refine ⟨by kernel_rfl, ?_⟩
        (conv => whnf)
        refine Ends.oneK (cells' := readerV fr (restB b) 8 seen _ (lowA 8 a (valB b))) rfl (readerV_free _ _ _ _ _ _) ⟨.eq_of hsr (encB_free _ _), .int_of rfl, .int_of rfl, .of_eq h8 (cellsR_free _ _)⟩ ee.symm (fun _ => by rw [n1']; rfl)
    case succ.succ.succ.succ.succ.succ.zero =>
      have hF := flags_none hne
      have e : oneE b last = 291 := by
        have : headE b last = 291 := by
          unfold headE
          rw [if_neg (by omega), if_neg (by rintro ⟨h1, h2⟩; have := h4 h1; omega), if_neg (by omega), if_pos (by rw [n1, hF]; decide)]
        simp [oneE, this]
      (conv => whnf)
      refine ⟨_, _, _, Ends.here, ?_⟩
      (conv => whnf)
      refine ⟨rfl, ⟨by rw [hAN]; omega, by rw [hAN]; simp; omega⟩, ?_⟩
      (conv => whnf)
      refine ⟨by kernel_rfl, ?_⟩
      (conv => whnf)
      exact Ends.oneE rfl (rest_free _ _ _ _ _ _) e.symm (by rw [e]; decide)
end Go.Proofs.YtehhligadnlijaaGreatDoor
set_option linter.unusedVariables false
set_option linter.unusedSimpArgs false
namespace Go.Proofs.YtehhligadnlijaaGreatDoor
open Go.RowKit
open Go.Proofs.Tryz (prog)
attribute [local irreducible] CallV RoundV
theorem callV_one {f : FuncId} {args : List V} {fr : Bool} {b : List UInt8} {last seen : Nat} {q : Bool} {a : Attrs} {h : Heap} {nx i : Nat} {K : V → Heap → Nat → Prop}
    (hc : CallV prog f [.ptr 0 0] [(0, some (.var true 147 (readerV fr b last seen q a)))] 1 (OneR fr b last seen q a)) (hb : hget h i = some (.var true 147 (readerV fr b last seen q a))) (ha : LeL h nx (fun _ => i) 1 [] args [.ptr 0 0])
    (hK : ∀ cells' : List V, (∀ x ∈ cells', Free x) → (oneE b last = 0 → cells' = readerV fr (restB b) (byteN b 1) (if byteN b 1 ≤ 3 then seen + 1 else seen) (q || byteN b 1 == 2) (lowA (byteN b 1) a (valB b))) →
      K (.int .i64 (oneE b last)) ((i, some (.var true 147 cells')) :: h) nx) : CallV prog f args h nx K := by
  refine callV_ptr (R := fun v' cells' => v' = .int .i64 (oneE b last) ∧ (∀ x ∈ cells', Free x) ∧ (oneE b last = 0 → cells' = readerV fr (restB b) (byteN b 1) (if byteN b 1 ≤ 3 then seen + 1 else seen) (q || byteN b 1 == 2) (lowA (byteN b 1) a (valB b)))) (hc.mono ?_) hb (readerV_free _ _ _ _ _ _) ha ?_
  · rintro v' h' nx' ⟨cells', rfl, hf, hok, rfl, rfl⟩
    exact ⟨_, ⟨rfl, hf, hok⟩, rfl, rfl⟩
  · rintro v' cells' ⟨rfl, hf, hok⟩
    exact ⟨.int, hf, hK cells' hf hok⟩
structure At (b : List UInt8) where
  rest : List UInt8
  last : Nat
  seen : Nat
  q : Bool
  a : Attrs
  law : parseA b 0 0 noA = parseA rest last seen a
  lim : last < 256
  cnt : seen + rest.length ≤ b.length
  nop : last < 2 → q = false
  nil : q = false → a.path = []
theorem oneE_zero {b : List UInt8} {last : Nat} (h : oneE b last = 0) : headE b last = 0 ∧ lowE (byteN b 1) (valB b) = 0 := by
  unfold oneE at h
  split at h
  · rename_i h1; exact absurd h h1
  · rename_i h1; exact ⟨by simpa using h1, h⟩
theorem parseA_err {b : List UInt8} {last seen : Nat} {a : Attrs} (hb : b ≠ []) (h : oneE b last ≠ 0) : parseA b last seen a = (noA, oneE b last) := by
  by_cases h1 : headE b last = 0
  · have : oneE b last = lowE (byteN b 1) (valB b) := by simp [oneE, h1]
    rw [this] at h ⊢
    exact parseA_low hb h1 h
  · have : oneE b last = headE b last := by simp [oneE, h1]
    rw [this]
    exact parseA_head hb h1
def At.next {b : List UInt8} (k : At b) (hb : k.rest ≠ []) (h : oneE k.rest k.last = 0) : At b where
  rest := restB k.rest
  last := byteN k.rest 1
  seen := if byteN k.rest 1 ≤ 3 then k.seen + 1 else k.seen
  q := k.q || byteN k.rest 1 == 2
  a := lowA (byteN k.rest 1) k.a (valB k.rest)
  law := k.law.trans (parseA_go hb (oneE_zero h).1 (oneE_zero h).2)
  lim := byteN_lt _ _
  cnt := by
    have := restB_lt hb
    have := k.cnt
    split <;> omega
  nop := fun hl => by
    have h1 : ¬ byteN k.rest 1 ≤ k.last := by
      have := (oneE_zero h).1
      unfold headE at this
      intro hle
      rw [if_pos hle] at this
      revert this
      repeat' split
      all_goals decide
    have h2 : k.q = false := k.nop (by omega)
    have h3 : (byteN k.rest 1 == 2) = false := by simp; omega
    rw [h2, h3]; rfl
  nil := fun hq => by
    have h1 : k.q = false := by cases hk : k.q with | false => rfl | true => rw [hk] at hq; cases hq
    have h2 : byteN k.rest 1 ≠ 2 := by intro e; rw [h1, e] at hq; cases hq
    have h3 := k.nil h1
    unfold lowA
    repeat' split
    all_goals first | exact h3 | contradiction
set_option maxRecDepth 100000 in
theorem parse_ok (fr : Bool) (b : List UInt8) (hb : b.length ≤ 1000000) : PCon prog 67 [encB fr b] (parseE true (parseA b 0 0 noA).1 (parseA b 0 0 noA).2) := by
  refine callV_of (fn := Go.Proofs.Tryz.f67) (body := _) tab_ok mixed rfl rfl (by decide) (by simp [Go.Proofs.Tryz.f67]) ?_
  (conv => whnf)
  refine vcg_loop tab_ok mixed (fun k : At b => ⟨[(2, .ptr 0 0), (4, .ptr 1 0)], [(0, some (.var true 45 zeroA)), (1, some (.var true 147 (readerV fr k.rest k.last k.seen k.q k.a)))], 2⟩) (fun k => k.rest.length) ⟨b, 0, 0, false, noA, rfl, by omega, by omega, fun _ => rfl, fun _ => rfl⟩ (Wk.of id [] ⟨.ptr rfl (by omega), .ptr rfl (by omega), trivial⟩ (LeH.of ⟨⟨by omega, .inl ⟨by simp, _, rfl, id, rfl, ?_⟩⟩, ⟨by omega, .inl ⟨by simp, _, rfl, id, rfl, ?_⟩⟩, trivial⟩ (fun _ _ _ _ h => h) (fun _ _ => rfl) (by omega) (by simp))) (fun k => ?_)
  · exact LeL.free zeroA_free
  · exact ⟨.free (encB_free _ _), .int_of rfl, .int_of rfl, .free .int, .free .snil, .free .int, .free .bool, .free .int, .free .bool, .free .int, .snil_sl, trivial⟩
  (conv => whnf)
  intro _
  (conv => whnf)
  split
  · rename_i hc
    have hne : k.rest ≠ [] := by intro e; rw [e] at hc; simp at hc
    (conv => whnf)
    refine callV_one (i := 1) (one_ok fr k.rest (by have := k.cnt; omega) k.last k.seen k.lim (by have := k.cnt; omega) k.q k.nop k.a) rfl ⟨.ptr rfl (by omega), trivial⟩ fun cells' hf hok => ?_
    (conv => whnf)
    cases he : (oneE k.rest k.last != 0) with
    | true =>
      have he' : oneE k.rest k.last ≠ 0 := by simpa using he
      have hp : parseA b 0 0 noA = (noA, oneE k.rest k.last) := k.law.trans (parseA_err hne he')
      (conv => whnf)
      rw [hp]
      exact Ends.pure [] (.tupL ⟨.noA, .int_of rfl, trivial⟩) (by simp)
    | false =>
      have he' : oneE k.rest k.last = 0 := by simpa using he
      (conv => whnf)
      refine ⟨k.next hne he', Wk.of id [] ⟨.ptr rfl (by omega), .ptr rfl (by omega), trivial⟩ (LeH.of ⟨⟨by omega, .inl ⟨by simp, _, rfl, id, rfl, LeL.free zeroA_free⟩⟩, ⟨by omega, .inl ⟨by simp, _, rfl, id, rfl, .of_eq (hok he') (readerV_free _ _ _ _ _ _)⟩⟩, trivial⟩ (fun _ _ _ _ h => h) (fun _ _ => rfl) (by omega) (by simp)), restB_lt hne⟩
  · rename_i hc
    have hnil : k.rest = [] := by simp at hc; exact hc
    have hl : parseA b 0 0 noA = if k.seen = 3 then (k.a, 0) else (noA, 299) := by rw [k.law, hnil, parseA_nil]
    (conv => whnf)
    cases h3 : ((k.seen : Int) != 3) with
    | true =>
      have h3' : k.seen ≠ 3 := by simp at h3; omega
      rw [if_neg h3'] at hl
      (conv => whnf)
      rw [hl]
      exact Ends.pure [] (.tupL ⟨.noA, .int_of rfl, trivial⟩) (by simp)
    | false =>
      have h3' : k.seen = 3 := by simp at h3; omega
      rw [if_pos h3'] at hl
      cases hq : k.q with
      | true =>
        (conv => whnf)
        rw [hl]
        exact Ends.pure [] (.tupL ⟨.eq_of rfl (encA_free true k.a), .int_of rfl, trivial⟩) (by simp)
      | false =>
        have hp := k.nil hq
        (conv => whnf)
        rw [hl]
        refine Ends.pure [] (.tupL ⟨.aggL ⟨.free .int, ?_, .free .int, .free .bool, .free .int, .free .bool, .free .int, .free (encW_free _ _), trivial⟩, .int_of rfl, trivial⟩) (by simp)
        show LeV _ _ _ _ _ .snil (encLegs true k.a.path)
        rw [hp]
        exact .snil_sl
end Go.Proofs.YtehhligadnlijaaGreatDoor
set_option linter.unusedVariables false
set_option linter.unusedSimpArgs false
namespace Go.Proofs.YtehhligadnlijaaGreatDoor
open Go.RowKit
open Go.Proofs.Tryz (prog)
attribute [local irreducible] CallV RoundV
theorem rawA_len {a : Attrs} (hf : fewA a = true) : (rawA a).length ≤ 20000 := by
  obtain ⟨hp, hpl, htl⟩ := fewA_out hf
  have hpb := pathB_len hp
  have al : ∀ {f c : UInt8} {v : List UInt8}, (attrB f c v).length ≤ 4 + v.length := fun {f c v} => by unfold attrB; split <;> simp <;> omega
  have h1 := al (f := 64) (c := 1) (v := [a.origin])
  have h2 := al (f := 64) (c := 2) (v := pathB a.path)
  have h3 := al (f := 64) (c := 3) (v := fourB a.next)
  have h4 : (if a.hasMed then attrB 128 4 (fourB a.med) else []).length ≤ 8 := by
    split
    · exact al
    · simp
  have h5 : (if a.hasPref then attrB 64 5 (fourB a.pref) else []).length ≤ 8 := by
    split
    · exact al
    · simp
  have h6 : (if 0 < a.tags.length then attrB 192 8 (allB a.tags) else []).length ≤ 244 := by
    split
    · have := al (f := 192) (c := 8) (v := allB a.tags)
      rw [allB_len] at this
      omega
    · simp
  have e3 : (fourB a.next).length = 4 := rfl
  have e1 : ([a.origin] : List UInt8).length = 1 := rfl
  simp only [rawA, rawO, List.length_append]
  omega
end Go.Proofs.YtehhligadnlijaaGreatDoor
set_option linter.unusedVariables false
set_option linter.unusedSimpArgs false
namespace Go.Proofs.YtehhligadnlijaaGreatDoor
open Go.RowKit
open Go.Proofs.Tryz (prog)
attribute [local irreducible] CallV RoundV
def Go (tn : Nat) (many : Int) (n : Nat) : Prop := tn = 0 → n = 0 ∨ (n : Int) < many
end Go.Proofs.YtehhligadnlijaaGreatDoor
set_option linter.unusedVariables false
set_option linter.unusedSimpArgs false
namespace Go.Proofs.YtehhligadnlijaaGreatDoor
open Go.RowKit
open Go.Proofs.Tryz (prog)
attribute [local irreducible] CallV RoundV
theorem w_eq {x y : UInt32} : ((x.toNat : Int) == (y.toNat : Int)) = (x == y) := by
  have := u32_neq (x := x) (y := y)
  simpa [bne] using this
theorem b_eq {x y : UInt8} : ((x.toNat : Int) == (y.toNat : Int)) = (x == y) := by
  have := u8_neq (x := x) (y := y)
  simpa [bne] using this
theorem take_step {α : Type} {l m : List α} {i : Nat} (h1 : i < l.length) (h2 : i < m.length) (hr : l.take i = m.take i) (he : l[i] = m[i]) : l.take (i + 1) = m.take (i + 1) := by
  rw [List.take_succ_eq_append_getElem h1, List.take_succ_eq_append_getElem h2, hr, he]
set_option maxRecDepth 100000 in
theorem equal_ok (fr fr' : Bool) (a b : List UInt32) : PCon prog 100 [encW fr a, encW fr' b] (.bool (decide (a = b))) := by
  refine callV_of (fn := Go.Proofs.Tryz.f100) (body := _) tab_ok mixed rfl rfl (by decide) (by simp [Go.Proofs.Tryz.f100]) ?_
  (conv => whnf)
  intro ha
  have ha : a.length ≤ maxLen := by simpa [gd] using ha
  (conv => whnf)
  intro hb
  (conv => whnf)
  split
  · rename_i hne
    (conv => whnf)
    refine Ends.pure [] (.bool_of ?_) (by simp)
    symm
    rw [decide_eq_false_iff_not]
    rintro rfl
    simp at hne
  · rename_i hne
    have hlen : a.length = b.length := by simp at hne; omega
    (conv => whnf)
    intro _
    (conv => whnf)
    refine vcg_loop tab_ok mixed (fun i : {i : Nat // i ≤ a.length ∧ a.take i = b.take i} => ⟨[(0, encW fr a), (1, encW fr' b), (12, cI a.length), (13, .int .i64 i.1)], [], 0⟩) (fun i => a.length - i.1) ⟨0, by omega, rfl⟩ (Wk.of id [] ⟨.free (encW_free _ _), .free (encW_free _ _), .int_of (by simp), .int_of rfl, trivial⟩ (LeH.nil (Nat.le_refl _) (fun b h => by omega) (by simp))) (fun i => ?_)
    obtain ⟨i, hi, hr⟩ := i
    (conv => whnf)
    split
    · rename_i hc
      have hc : i < a.length := by simpa using hc
      (conv => whnf)
      refine ⟨rfl, _, ⟨by first | omega | (simp only; omega), idxW hc⟩, ?_⟩
      (conv => whnf)
      refine ⟨rfl, _, ⟨by first | omega | (simp only; omega), idxW (show i < b.length by omega)⟩, ?_⟩
      (conv => whnf)
      refine ⟨by kernel_rfl, ?_⟩
      (conv => whnf)
      split
      · rename_i h1
        (conv => whnf)
        refine Ends.pure [] (.bool_of ?_) (by simp)
        symm
        rw [decide_eq_false_iff_not]
        rintro rfl
        simp at h1
      · rename_i h1
        have h1 : a[i] = b[i] := by
          simp at h1
          exact UInt32.toNat_inj.1 (by omega)
        (conv => whnf)
        exact ⟨⟨i + 1, by omega, take_step hc (by omega) hr h1⟩, Wk.of id [] ⟨.free (encW_free _ _), .free (encW_free _ _), .int_of rfl, .int_of (wrap64_succ hc ha), trivial⟩ (LeH.nil (Nat.le_refl _) (fun b h => by omega) (by simp)), by simp only; omega⟩
    · rename_i hc
      have hc : i = a.length := by simp at hc; omega
      subst hc
      rw [List.take_length, hlen, List.take_length] at hr
      (conv => whnf)
      refine Ends.pure [] (.bool_of ?_) (by simp)
      simp [hr]
set_option maxRecDepth 100000 in
theorem same1_ok (fr fr' : Bool) (p q : Leg) : PCon prog 99 [.agg (encLeg fr p), .agg (encLeg fr' q)] (.bool (decide (p = q))) := by
  obtain ⟨ps, pn⟩ := p
  obtain ⟨qs, qn⟩ := q
  refine callV_of (fn := Go.Proofs.Tryz.f99) (body := _) tab_ok mixed rfl rfl (by decide) (by simp [Go.Proofs.Tryz.f99]) ?_
  (conv => whnf)
  split
  · rename_i h
    have h : ps = qs := by simpa using h
    (conv => whnf)
    refine callV_pure (equal_ok fr fr' pn qn) ⟨.free (encW_free _ _), .free (encW_free _ _), trivial⟩ ?_
    (conv => whnf)
    refine Ends.pure [] (.bool_of ?_) (by simp)
    simp [h]
  · rename_i h
    have h : ps ≠ qs := by simpa using h
    (conv => whnf)
    refine Ends.pure [] (.bool_of ?_) (by simp)
    simp [h]
set_option maxRecDepth 100000 in
theorem equalFunc_ok (fr fr' : Bool) (a b : List Leg) : PCon prog 101 [encLegs fr a, encLegs fr' b, .fn (.func 99) [] []] (.bool (decide (a = b))) := by
  refine callV_of (fn := Go.Proofs.Tryz.f101) (body := _) tab_ok mixed rfl rfl (by decide) (by simp [Go.Proofs.Tryz.f101]) ?_
  (conv => whnf)
  intro ha
  have ha : a.length ≤ maxLen := by simpa [gd] using ha
  (conv => whnf)
  intro hb
  (conv => whnf)
  split
  · rename_i hne
    (conv => whnf)
    refine Ends.pure [] (.bool_of ?_) (by simp)
    symm
    rw [decide_eq_false_iff_not]
    rintro rfl
    simp at hne
  · rename_i hne
    have hlen : a.length = b.length := by simp at hne; omega
    (conv => whnf)
    intro _
    (conv => whnf)
    refine vcg_loop tab_ok mixed (fun i : {i : Nat // i ≤ a.length ∧ a.take i = b.take i} => ⟨[(1, encLegs fr' b), (2, .fn (.func 99) [] []), (15, encLegs fr a), (16, cI a.length), (17, .int .i64 i.1)], [], 0⟩) (fun i => a.length - i.1) ⟨0, by omega, rfl⟩ (Wk.of id [] ⟨.free (encLegs_free _ _), .free (.fn (by simp) (by simp)), .free (encLegs_free _ _), .int_of (by simp), .int_of rfl, trivial⟩ (LeH.nil (Nat.le_refl _) (fun b h => by omega) (by simp))) (fun i => ?_)
    obtain ⟨i, hi, hr⟩ := i
    (conv => whnf)
    split
    · rename_i hc
      have hc : i < a.length := by simpa using hc
      have hc' : i < b.length := by omega
      (conv => whnf)
      refine ⟨rfl, _, ⟨by first | omega | (simp only; omega), idxL hc⟩, ?_⟩
      (conv => whnf)
      refine ⟨rfl, _, ⟨by first | omega | (simp only; omega), idxL hc'⟩, ?_⟩
      (conv => whnf)
      refine callV_pure (same1_ok fr fr' a[i] b[i]) ⟨.free (.agg (encLeg_free _ _)), .free (.agg (encLeg_free _ _)), trivial⟩ ?_
      (conv => whnf)
      split
      · rename_i h1
        (conv => whnf)
        refine Ends.pure [] (.bool_of ?_) (by simp)
        symm
        rw [decide_eq_false_iff_not]
        rintro rfl
        simp at h1
      · rename_i h1
        have h1 : a[i] = b[i] := by simpa using h1
        (conv => whnf)
        exact ⟨⟨i + 1, by omega, take_step hc hc' hr h1⟩, Wk.of id [] ⟨.free (encLegs_free _ _), .free (.fn (by simp) (by simp)), .free (encLegs_free _ _), .int_of rfl, .int_of (wrap64_succ hc ha), trivial⟩ (LeH.nil (Nat.le_refl _) (fun b h => by omega) (by simp)), by simp only; omega⟩
    · rename_i hc
      have hc : i = a.length := by simp at hc; omega
      subst hc
      rw [List.take_length, hlen, List.take_length] at hr
      (conv => whnf)
      refine Ends.pure [] (.bool_of ?_) (by simp)
      simp [hr]
set_option maxRecDepth 100000 in
set_option maxHeartbeats 4000000 in
theorem same_ok (fr fr' : Bool) (a b : Attrs) : PCon prog 58 [encA fr a, encA fr' b] (.bool (sameA a b)) := by
  refine callV_of (fn := Go.Proofs.Tryz.f58) (body := _) tab_ok mixed rfl rfl (by decide) (by simp [Go.Proofs.Tryz.f58]) ?_
  have fin : ∀ {s : St} {r : Bool}, sameA a b = r → ∃ v1 h' nx', Ends 0 s (.bool r) v1 h' nx' ∧ (v1 = .bool (sameA a b) ∧ h' = [] ∧ nx' = 0) := fun h => Ends.pure [] (.bool_of h.symm) (by simp)
  (conv => whnf)
  repeat' first
    | refine fin ?_
    | (split <;> (conv => whnf))
    | (refine callV_pure (equalFunc_ok fr fr' a.path b.path) ⟨.free (encLegs_free _ _), .free (encLegs_free _ _), .free (.fn (by simp) (by simp)), trivial⟩ ?_; (conv => whnf))
    | (refine callV_pure (equal_ok fr fr' a.tags b.tags) ⟨.free (encW_free _ _), .free (encW_free _ _), trivial⟩ ?_; (conv => whnf))
  any_goals (clear fin; simp only [sameA, decide_eq_false_iff_not]; rintro rfl; simp_all; done)
  clear fin
  simp only [w_eq, b_eq, beq_iff_eq, decide_eq_true_eq] at *
  obtain ⟨o1, p1, n1, h1, m1, g1, q1, t1⟩ := a
  obtain ⟨o2, p2, n2, h2, m2, g2, q2, t2⟩ := b
  simp_all [sameA]
end Go.Proofs.YtehhligadnlijaaGreatDoor
set_option linter.unusedVariables false
set_option linter.unusedSimpArgs false
namespace Go.Proofs.YtehhligadnlijaaGreatDoor
open Go.RowKit
instance {fr p} : FreeLI (encLeg fr p) := ⟨⟨encLeg_free fr p⟩⟩
instance {fr} {l : List Leg} : FreeRI (l.map (encLeg fr)) := ⟨⟨rowsLegs_free fr l⟩⟩
instance {fr l} : FreeI (encLegs fr l) := ⟨⟨encLegs_free fr l⟩⟩
instance {fr a} : FreeLI (cellsA fr a) := ⟨⟨cellsA_free fr a⟩⟩
instance {fr a} : FreeI (encA fr a) := ⟨⟨encA_free fr a⟩⟩
instance : FreeLI zeroA := ⟨⟨zeroA_free⟩⟩
end Go.Proofs.YtehhligadnlijaaGreatDoor
