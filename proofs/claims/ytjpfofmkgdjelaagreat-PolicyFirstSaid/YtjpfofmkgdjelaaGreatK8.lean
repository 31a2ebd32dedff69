/- Joined: S1, S2. -/
import Derived.Test.YtjpfofmkgdjelaaGreatK6
import Derived.Test.YtjpfofmkgdjelaaGreatK3
/- Contracts: two policies compared. -/
set_option linter.unusedVariables false
set_option linter.unusedSimpArgs false
namespace Go.Proofs.YtjpfofmkgdjelaaGreat
open Go.RowKit
open Go.Proofs.Tryz (prog)
attribute [local irreducible] CallV RoundV aggK

theorem wfW (x : UInt32) : (Lit.int .u32 (x.toNat : Int)).wf = true := by
  have := x.toNat_lt
  simp only [Lit.wf, Bool.and_eq_true, decide_eq_true_eq]
  exact ⟨by simp [IntKind.min, IntKind.signed]; try omega, by simp [IntKind.max, IntKind.signed, IntKind.bits]; omega⟩
theorem wfB (x : UInt8) : (Lit.int .u8 (x.toNat : Int)).wf = true := by
  have := x.toNat_lt
  simp only [Lit.wf, Bool.and_eq_true, decide_eq_true_eq]
  exact ⟨by simp [IntKind.min, IntKind.signed]; try omega, by simp [IntKind.max, IntKind.signed, IntKind.bits]; omega⟩
/-- A rule's cells as literals. -/
def litW (x : UInt32) : Lit := .int .u32 (x.toNat : Int)
def litB (x : UInt8) : Lit := .int .u8 (x.toNat : Int)
def litsRu (r : Rule) : List Lit := [litW r.cover.addr, litB r.cover.len, litB r.least, litB r.most, .bool r.hasTag, litW r.tag, litW r.sys, .bool r.deny, .bool r.hasPref, .bool r.hasMed, .bool r.hasAdd, litW r.pref, litW r.med, litW r.add, litB r.times]
theorem litW_inj {x y : UInt32} (h : litW x = litW y) : x = y := by
  simp only [litW, Lit.int.injEq, true_and] at h
  exact UInt32.toNat_inj.1 (by omega)
theorem litB_inj {x y : UInt8} (h : litB x = litB y) : x = y := by
  simp only [litB, Lit.int.injEq, true_and] at h
  exact UInt8.toNat_inj.1 (by omega)
theorem litsRu_inj {r s : Rule} : litsRu r = litsRu s ↔ r = s := by
  constructor
  · intro h
    obtain ⟨⟨a, b⟩, c, d, e, f, g, i, j, k, l, m, n, o, p⟩ := r
    obtain ⟨⟨a', b'⟩, c', d', e', f', g', i', j', k', l', m', n', o', p'⟩ := s
    simp only [litsRu, List.cons.injEq, Lit.bool.injEq, and_true] at h
    obtain ⟨h1, h2, h3, h4, h5, h6, h7, h8, h9, h10, h11, h12, h13, h14, h15⟩ := h
    rw [litW_inj h1, litB_inj h2, litB_inj h3, litB_inj h4, h5, litW_inj h6, litW_inj h7, h8, h9, h10, h11, litW_inj h12, litW_inj h13, litW_inj h14, litB_inj h15]
  · exact fun h => by rw [h]
set_option maxRecDepth 100000 in
theorem litRu (r : Rule) {K : List Lit → Prop} (h : K (litsRu r)) : litK tab 60 26 (cellsRu r) K :=
  And.intro (wfW _) (And.intro (wfB _) (And.intro (wfB _) (And.intro (wfB _) (And.intro (wfW _) (And.intro (wfW _) (And.intro (wfW _) (And.intro (wfW _) (And.intro (wfW _) (And.intro (wfB _) h)))))))))
theorem aggK_neq {T : Tab} {t : Nat} {fs : List (Nat × Nat)} (hk : (T t).key = true) (hs : (T t).k = .struct fs) {cs ds : List V} {K : V → Prop}
    (h : litK T 60 t cs fun la => litK T 60 t ds fun lb => ∃ r : Bool, (r = true ↔ la = lb) ∧ K (.bool (!r))) : aggK T .neq t cs ds K := by
  rw [aggK, hk, hs]
  exact h
theorem aggK_eql {T : Tab} {t : Nat} {fs : List (Nat × Nat)} (hk : (T t).key = true) (hs : (T t).k = .struct fs) {cs ds : List V} {K : V → Prop}
    (h : litK T 60 t cs fun la => litK T 60 t ds fun lb => ∃ r : Bool, (r = true ↔ la = lb) ∧ K (.bool r)) : aggK T .eql t cs ds K := by
  rw [aggK, hk, hs]
  exact h
/-- Two rules, compared. -/
theorem neqRu (r s : Rule) {K : V → Prop} (h : K (.bool (!decide (r = s)))) : aggK tab .neq 26 (cellsRu r) (cellsRu s) K := by
  refine aggK_neq rfl rfl ?_
  refine litRu r ?_
  refine litRu s ?_
  exact ⟨decide (r = s), by rw [litsRu_inj]; simp, h⟩
theorem eqlRu (r s : Rule) {K : V → Prop} (h : K (.bool (decide (r = s)))) : aggK tab .eql 26 (cellsRu r) (cellsRu s) K := by
  refine aggK_eql rfl rfl ?_
  refine litRu r ?_
  refine litRu s ?_
  exact ⟨decide (r = s), by rw [litsRu_inj]; simp, h⟩
set_option maxRecDepth 100000 in
set_option maxHeartbeats 4000000 in
theorem equalRu_ok (fr fr' : Bool) (a b : List Rule) : PCon prog 59 [encRus fr a, encRus fr' b] (.bool (decide (a = b))) := by
  refine callV_of (fn := Go.Proofs.Tryz.f59) (body := _) tab_ok mixed rfl rfl (by decide) (by simp [Go.Proofs.Tryz.f59]) ?_
  (conv => whnf)
  intro ha
  have ha : a.length ≤ maxLen := by simpa [gd] using ha
  (conv => whnf)
  intro hb
  (conv => whnf)
  split
  · rename_i hne
    (conv => whnf)
    refine Ends.pure [] (.bool_of ?_) (by simp)
    symm
    rw [decide_eq_false_iff_not]
    rintro rfl
    simp at hne
  · rename_i hne
    have hlen : a.length = b.length := by simp at hne; omega
    (conv => whnf)
    intro _
    (conv => whnf)
    refine vcg_loop tab_ok mixed (fun i : {i : Nat // i ≤ a.length ∧ a.take i = b.take i} => ⟨[(0, encRus fr a), (1, encRus fr' b), (12, cI a.length), (13, .int .i64 i.1)], [], 0⟩) (fun i => a.length - i.1) ⟨0, by omega, rfl⟩ (Wk.of id [] ⟨.free (encRus_free _ _), .free (encRus_free _ _), .int_of (by simp), .int_of rfl, trivial⟩ (LeH.nil (Nat.le_refl _) (fun b h => by omega) (by simp))) (fun i => ?_)
    obtain ⟨i, hi, hr⟩ := i
    (conv => whnf)
    split
    · rename_i hc
      have hc : i < a.length := by simpa using hc
      have hc' : i < b.length := by omega
      (conv => whnf)
      refine ⟨rfl, _, ⟨by first | omega | (simp only; omega), idxRu hc⟩, ?_⟩
      (conv => whnf)
      refine ⟨rfl, _, ⟨by first | omega | (simp only; omega), idxRu hc'⟩, ?_⟩
      (conv => whnf)
      refine neqRu a[i] b[i] ?_
      (conv => whnf)
      refine ⟨by kernel_rfl, ?_⟩
      (conv => whnf)
      split
      · rename_i h1
        (conv => whnf)
        refine Ends.pure [] (.bool_of ?_) (by simp)
        symm
        rw [decide_eq_false_iff_not]
        rintro rfl
        simp at h1
      · rename_i h1
        have h1 : a[i] = b[i] := by simpa using h1
        (conv => whnf)
        exact ⟨⟨i + 1, by omega, take_step hc hc' hr h1⟩, Wk.of id [] ⟨.free (encRus_free _ _), .free (encRus_free _ _), .int_of rfl, .int_of (wrap64_succ hc ha), trivial⟩ (LeH.nil (Nat.le_refl _) (fun b h => by omega) (by simp)), by simp only; omega⟩
    · rename_i hc
      have hc : i = a.length := by simp at hc; omega
      subst hc
      rw [List.take_length, hlen, List.take_length] at hr
      (conv => whnf)
      refine Ends.pure [] (.bool_of ?_) (by simp)
      simp [hr]
def sameP (p q : Policy) : Bool := decide (p.rules = q.rules) && decide (p.els = q.els)
theorem sameP_eq {p q : Policy} : sameP p q = true ↔ p = q := by
  obtain ⟨a, b⟩ := p
  obtain ⟨c, d⟩ := q
  simp [sameP]
set_option maxRecDepth 100000 in
set_option maxHeartbeats 4000000 in
theorem psame_ok (fr fr' : Bool) (p q : Policy) : PCon prog 30 [encPo fr p, encPo fr' q] (.bool (sameP p q)) := by
  refine callV_of (fn := Go.Proofs.Tryz.f30) (body := _) tab_ok mixed rfl rfl (by decide) (by simp [Go.Proofs.Tryz.f30]) ?_
  (conv => whnf)
  split
  · rename_i h
    (conv => whnf)
    refine callV_pure (equalRu_ok fr fr' p.rules q.rules) ⟨.free (encRus_free _ _), .free (encRus_free _ _), trivial⟩ ?_
    (conv => whnf)
    refine Ends.pure [] (.bool_of ?_) (by simp)
    simp_all [sameP]
  · rename_i h
    (conv => whnf)
    refine Ends.pure [] (.bool_of ?_) (by simp)
    simp_all [sameP]
set_option maxRecDepth 100000 in
set_option maxHeartbeats 4000000 in
theorem rsame_ok (fr fr' : Bool) (p q : Policy) : PCon prog 26 [encPo fr p, encPo fr' q] (.bool (sameP p q)) := by
  refine callV_of (fn := Go.Proofs.Tryz.f26) (body := _) tab_ok mixed rfl rfl (by decide) (by simp [Go.Proofs.Tryz.f26]) ?_
  have fin : ∀ {s : St} {r : Bool}, sameP p q = r → ∃ v1 h' nx', Ends 0 s (.bool r) v1 h' nx' ∧ (v1 = .bool (sameP p q) ∧ h' = [] ∧ nx' = 0) := fun h => Ends.pure [] (.bool_of h.symm) (by simp)
  (conv => whnf)
  split
  · rename_i h
    (conv => whnf)
    refine fin ?_
    simp at h
    simp [sameP, h]
  rename_i h
  have hels : p.els = q.els := by simpa using h
  (conv => whnf)
  intro ha
  have ha : p.rules.length ≤ maxLen := by simpa [gd] using ha
  (conv => whnf)
  intro hb
  have hb : q.rules.length ≤ maxLen := by simpa [gd] using hb
  (conv => whnf)
  split
  · rename_i h
    (conv => whnf)
    refine fin ?_
    simp only [sameP, Bool.and_eq_false_imp, decide_eq_true_eq]
    intro hr
    simp [hr] at h
  rename_i h
  have hlen : p.rules.length = q.rules.length := by simp at h; omega
  (conv => whnf)
  refine vcg_loop tab_ok mixed (fun i : {i : Nat // i ≤ p.rules.length ∧ p.rules.take i = q.rules.take i} => ⟨[(2, .ptr 0 0), (3, .ptr 1 0), (5, cI i.1)], [(0, some (.var true 29 (cellsPo fr p))), (1, some (.var true 29 (cellsPo fr' q)))], 2⟩) (fun i => p.rules.length - i.1) ⟨0, by omega, rfl⟩ (Wk.i (by repeat' (first | exact True.intro | exact id | exact rfl | decide | exact Nat.le_of_ble_eq_true rfl | exact .ptr rfl (by omega) | exact .osl_of rfl (by omega) rfl | exact .fr rfl | exact LeL.fr rfl | exact .yld rfl (by omega) | exact .eptr rfl (by omega) | exact .osl0 | exact .snil_sl | exact .to_any | exact LeV.nineA | exact LeV.noA | exact LeB.fr rfl id id | exact LeB.fr (by simp; done) id id | refine Or.inl ⟨by simp, _, rfl, ?_⟩ | exact Or.inr ⟨by simp, _, _, _, _, rfl⟩ | refine ⟨rfl, rfl, rfl, rfl, rfl, rfl, ?_⟩ | refine ⟨?_, ?_⟩)) (by omega)) (fun i => ?_)
  obtain ⟨i, hi, hr⟩ := i
  (conv => whnf)
  intro _
  (conv => whnf)
  split
  · rename_i hc
    have hc : i < p.rules.length := by simpa using hc
    have hc' : i < q.rules.length := by omega
    (conv => whnf)
    refine ⟨rfl, _, ⟨by first | omega | (simp only; omega), idxRu hc⟩, ?_⟩
    (conv => whnf)
    refine ⟨rfl, _, ⟨by first | omega | (simp only; omega), idxRu hc'⟩, ?_⟩
    (conv => whnf)
    refine neqRu p.rules[i] q.rules[i] ?_
    (conv => whnf)
    refine ⟨by kernel_rfl, ?_⟩
    (conv => whnf)
    split
    · rename_i h1
      (conv => whnf)
      refine fin ?_
      simp only [sameP, Bool.and_eq_false_imp, decide_eq_true_eq]
      intro hr
      simp [hr] at h1
    · rename_i h1
      have h1 : p.rules[i] = q.rules[i] := by simpa using h1
      (conv => whnf)
      exact ⟨⟨i + 1, by omega, take_step hc hc' hr h1⟩, (Wk.i (by repeat' (first | exact True.intro | exact id | exact rfl | decide | exact Nat.le_of_ble_eq_true rfl | exact .int_of (wrap64_succ hc ha) | exact .ptr rfl (by omega) | exact .osl_of rfl (by omega) rfl | exact .fr rfl | exact LeL.fr rfl | exact .yld rfl (by omega) | exact .eptr rfl (by omega) | exact .osl0 | exact .snil_sl | exact .to_any | exact LeV.nineA | exact LeV.noA | exact LeB.fr rfl id id | exact LeB.fr (by simp; done) id id | refine Or.inl ⟨by simp, _, rfl, ?_⟩ | exact Or.inr ⟨by simp, _, _, _, _, rfl⟩ | refine ⟨rfl, rfl, rfl, rfl, rfl, rfl, ?_⟩ | refine ⟨?_, ?_⟩)) (by omega)), by simp only; omega⟩
  · rename_i hc
    have hc : i = p.rules.length := by simp at hc; omega
    subst hc
    rw [List.take_length, hlen, List.take_length] at hr
    (conv => whnf)
    refine fin ?_
    simp [sameP, hr, hels]
end Go.Proofs.YtjpfofmkgdjelaaGreat
/- Contract: the law PolicySame. -/
set_option linter.unusedVariables false
set_option linter.unusedSimpArgs false
namespace Go.Proofs.YtjpfofmkgdjelaaGreat
open Go.RowKit
open Go.Proofs.Tryz (prog)
attribute [local irreducible] CallV RoundV aggK

end Go.Proofs.YtjpfofmkgdjelaaGreat
