/- Contracts: what may be said of paths. -/
import Derived.Test.YtcfkendgjinmiaaC1
set_option linter.unusedVariables false
set_option linter.unusedSimpArgs false
namespace Go.Proofs.Ytcfkendgjinmiaa
open Go.RowKit
open Go.Proofs.Try (prog)
attribute [local irreducible] CallV RoundV

set_option maxRecDepth 100000 in
theorem ref_rise_ok (fr : Bool) (l : List UInt32) : PCon prog 42 [encW fr l] (.bool (rises l)) := by
  refine callV_of (fn := Go.Proofs.Try.f42) (body := _) tab_ok mixed rfl rfl (by decide) (by simp [Go.Proofs.Try.f42]) ?_
  (conv => whnf)
  refine vcg_loop tab_ok mixed (fun i : {i : Nat // i < l.length + 1 ∧ rises (l.take (i + 1)) = true} => ⟨[(0, encW fr l), (3, .int .i64 ((i.1 + 1 : Nat) : Int))], [], 0⟩) (fun i => l.length - i.1) ⟨0, by omega, ?_⟩ (Wk.of id [] ⟨?_, ?_, trivial⟩ (LeH.nil (Nat.le_refl _) (fun b h => by omega) (by simp))) (fun i => ?_)
  · cases l with
    | nil => rfl
    | cons a l => simp [rises]
  · exact .free (encW_free _ _)
  · exact .int_of rfl
  obtain ⟨i, hi, hr⟩ := i
  (conv => whnf)
  intro hl
  have hl : l.length ≤ maxLen := by simpa [gd] using hl
  (conv => whnf)
  split
  · rename_i hc
    have hc : i + 1 < l.length := by simp at hc; omega
    (conv => whnf)
    refine ⟨rfl, [.int .u32 (l[i]'(by omega)).toNat], ⟨by simp only [wrap64_pred hc hl, show (i : Nat) < l.length by omega, wrap64_pred (show i < l.length by omega) hl]; omega, by simp only [wrap64_pred (show i < l.length by omega) hl]; exact idxW _⟩, ?_⟩
    (conv => whnf)
    refine ⟨rfl, [.int .u32 (l[i + 1]).toNat], ⟨by simp only; omega, idxW _⟩, ?_⟩
    (conv => whnf)
    refine ⟨by kernel_rfl, ?_⟩
    (conv => whnf)
    split
    · rename_i h1
      (conv => whnf)
      refine Ends.pure [] (.bool_of ?_) (by simp)
      symm
      refine rises_take_false (i := i + 2) (by omega) ?_
      rw [rises_take_succ hc]
      simp only [Bool.and_eq_false_iff, decide_eq_false_iff_not]
      right
      simpa [UInt32.lt_iff_toNat_lt] using h1
    · rename_i h1
      (conv => whnf)
      refine ⟨⟨i + 1, by omega, ?_⟩, Wk.of id [] ⟨?_, ?_, trivial⟩ (LeH.nil (Nat.le_refl _) (fun b h => by omega) (by simp)), by simp only; omega⟩
      · rw [rises_take_succ hc, hr]
        simpa [UInt32.lt_iff_toNat_lt] using h1
      · exact .free (encW_free _ _)
      · exact .int_of (wrap64_succ hc hl)
  · rename_i hc
    have hc : l.length ≤ i + 1 := by simp at hc; omega
    (conv => whnf)
    refine Ends.pure [] (.bool_of ?_) (by simp)
    rw [List.take_of_length_le hc] at hr
    exact hr.symm

set_option maxRecDepth 100000 in
theorem words_ok (fr fr' : Bool) (a b : List UInt32) : PCon prog 40 [encW fr a, encW fr' b] (.bool (decide (a = b))) := by
  refine callV_of (fn := Go.Proofs.Try.f40) (body := _) tab_ok mixed rfl rfl (by decide) (by simp [Go.Proofs.Try.f40]) ?_
  (conv => whnf)
  intro ha
  have ha : a.length ≤ maxLen := by simpa [gd] using ha
  (conv => whnf)
  intro hb
  (conv => whnf)
  split
  · rename_i hne
    (conv => whnf)
    refine Ends.pure [] (.bool_of ?_) (by simp)
    symm
    rw [decide_eq_false_iff_not]
    rintro rfl
    simp at hne
  · rename_i hne
    have hlen : a.length = b.length := by simp at hne; omega
    (conv => whnf)
    refine vcg_loop tab_ok mixed (fun i : {i : Nat // i ≤ a.length ∧ a.take i = b.take i} => ⟨[(0, encW fr a), (1, encW fr' b), (5, .int .i64 i.1)], [], 0⟩) (fun i => a.length - i.1) ⟨0, by omega, rfl⟩ (Wk.of id [] ⟨?_, ?_, ?_, trivial⟩ (LeH.nil (Nat.le_refl _) (fun b h => by omega) (by simp))) (fun i => ?_)
    · exact .free (encW_free _ _)
    · exact .free (encW_free _ _)
    · exact .int_of rfl
    obtain ⟨i, hi, hr⟩ := i
    (conv => whnf)
    intro _
    (conv => whnf)
    split
    · rename_i hc
      have hc : i < a.length := by simpa using hc
      (conv => whnf)
      refine ⟨rfl, _, ⟨by simp only; omega, idxW hc⟩, ?_⟩
      (conv => whnf)
      refine ⟨rfl, _, ⟨by simp only; omega, idxW (show i < b.length by omega)⟩, ?_⟩
      (conv => whnf)
      refine ⟨by kernel_rfl, ?_⟩
      (conv => whnf)
      split
      · rename_i h1
        (conv => whnf)
        refine Ends.pure [] (.bool_of ?_) (by simp)
        symm
        rw [decide_eq_false_iff_not]
        rintro rfl
        simp at h1
      · rename_i h1
        have h1 : a[i] = b[i] := by
          simp at h1
          exact UInt32.toNat_inj.1 (by omega)
        (conv => whnf)
        refine ⟨⟨i + 1, by omega, ?_⟩, Wk.of id [] ⟨?_, ?_, ?_, trivial⟩ (LeH.nil (Nat.le_refl _) (fun b h => by omega) (by simp)), by simp only; omega⟩
        · rw [List.take_succ_eq_append_getElem hc, List.take_succ_eq_append_getElem (show i < b.length by omega), hr, h1]
        · exact .free (encW_free _ _)
        · exact .free (encW_free _ _)
        · exact .int_of (wrap64_succ hc ha)
    · rename_i hc
      have hc : i = a.length := by simp at hc; omega
      subst hc
      (conv => whnf)
      refine Ends.pure [] (.bool_of ?_) (by simp)
      symm
      rw [decide_eq_true_iff]
      rw [List.take_length, hlen, List.take_length] at hr
      exact hr

/-- May a part be said? -/
def legOk (p : Leg) : Bool := decide (1 ≤ p.ns.length) && decide (p.ns.length ≤ 32) && (!p.set || rises p.ns) && p.ns.all (· != 0)
def pathOk (l : List Leg) : Bool := decide (l.length ≤ 8) && l.all legOk

set_option maxRecDepth 100000 in
theorem ref_part_ok (fr : Bool) (p : Leg) : PCon prog 84 [.agg (encLeg fr p)] (.bool (legOk p)) := by
  refine callV_of (fn := Go.Proofs.Try.f84) (body := _) tab_ok mixed rfl rfl (by decide) (by simp [Go.Proofs.Try.f84]) ?_
  (conv => whnf)
  intro hl
  have hl : p.ns.length ≤ maxLen := by simpa [gd] using hl
  have fin : ∀ {s : St}, legOk p = false → ∃ v1 h' nx', Ends 0 s (.bool false) v1 h' nx' ∧ (v1 = .bool (legOk p) ∧ h' = [] ∧ nx' = 0) := fun h => Ends.pure [] (.bool_of h.symm) (by simp)
  (conv => whnf)
  split
  · rename_i h0
    (conv => whnf)
    exact fin (by simp at h0; simp [legOk]; omega)
  · rename_i h0
    have h0 : 1 ≤ p.ns.length := by simp at h0; omega
    (conv => whnf)
    intro _
    (conv => whnf)
    split
    · rename_i h1
      (conv => whnf)
      exact fin (by simp at h1; simp [legOk]; omega)
    · rename_i h1
      have h1 : p.ns.length ≤ 32 := by simp at h1; omega
      (conv => whnf)
      split
      case' h_1 =>
        rename_i h2
        (conv => whnf)
        refine callV_pure (ref_rise_ok fr p.ns) ⟨.free (encW_free _ _), trivial⟩ ?_
        (conv => whnf)
        split
        · rename_i h3
          (conv => whnf)
          exact fin (by simp at h3; simp [legOk, h2, h3])
        rename_i h3
        have hr : (!p.set || rises p.ns) = true := by simp at h3; simp [h3]
        (conv => whnf)
      case' h_2 =>
        rename_i h2
        have hr : (!p.set || rises p.ns) = true := by simp [h2]
        (conv => whnf)
      all_goals
        refine vcg_loop tab_ok mixed (fun i : {i : Nat // i ≤ p.ns.length ∧ (p.ns.take i).all (· != 0) = true} => ⟨[(1, .ptr 0 0), (3, cI i.1)], [(0, some (.var true 54 (encLeg fr p)))], 1⟩) (fun i => p.ns.length - i.1) ⟨0, by omega, rfl⟩ (Wk.of id [] ⟨?_, ?_, trivial⟩ (LeH.same ⟨⟨rfl, encLeg_free _ _, by omega⟩, trivial⟩ (by omega))) (fun i => ?_)
        · exact .ptr rfl (by omega)
        · exact .int_of rfl
        obtain ⟨i, hi, hz⟩ := i
        (conv => whnf)
        intro _
        (conv => whnf)
        split
        · rename_i hc
          have hc : i < p.ns.length := by simpa using hc
          (conv => whnf)
          refine ⟨rfl, _, ⟨by simp only; omega, idxW hc⟩, ?_⟩
          (conv => whnf)
          split
          · rename_i h4
            (conv => whnf)
            refine fin ?_
            have := all_false (p := (· != 0)) hc (by
              simp at h4
              simp only [bne_eq_false_iff_eq]
              exact UInt32.toNat_inj.1 (by simp; omega))
            simp [legOk, this]
          · rename_i h4
            (conv => whnf)
            refine ⟨⟨i + 1, by omega, ?_⟩, Wk.of id [] ⟨?_, ?_, trivial⟩ (LeH.same ⟨⟨rfl, encLeg_free _ _, by omega⟩, trivial⟩ (by omega)), by simp only; omega⟩
            · rw [all_take_succ hc, hz]
              simp at h4
              simp only [Bool.true_and, bne_iff_ne, ne_eq]
              intro e
              rw [e] at h4
              simp at h4
            · exact .ptr rfl (by omega)
            · exact .int_of (wrap64_succ hc hl)
        · rename_i hc
          have hc : i = p.ns.length := by simp at hc; omega
          subst hc
          (conv => whnf)
          refine Ends.pure [] (.bool_of ?_) (by simp)
          rw [List.take_length] at hz
          simp only [legOk, hr, hz, Bool.and_true]
          simp [h0, h1]
end Go.Proofs.Ytcfkendgjinmiaa
