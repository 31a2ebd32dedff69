/- Contracts: which are the same; how much there is. -/
import Derived.Test.YtcfkendgjinmiaaC4
set_option linter.unusedVariables false
set_option linter.unusedSimpArgs false
namespace Go.Proofs.Ytcfkendgjinmiaa
open Go.RowKit
open Go.Proofs.Try (prog)
attribute [local irreducible] CallV RoundV

theorem u32_neq {x y : UInt32} : ((x.toNat : Int) != (y.toNat : Int)) = (x != y) := by
  cases h : x != y with
  | true => simp only [bne_iff_ne, ne_eq] at h ⊢; intro e; exact h (UInt32.toNat_inj.1 (by omega))
  | false => simp only [bne_eq_false_iff_eq] at h ⊢; subst h; rfl
theorem u8_neq {x y : UInt8} : ((x.toNat : Int) != (y.toNat : Int)) = (x != y) := by
  cases h : x != y with
  | true => simp only [bne_iff_ne, ne_eq] at h ⊢; intro e; exact h (UInt8.toNat_inj.1 (by omega))
  | false => simp only [bne_eq_false_iff_eq] at h ⊢; subst h; rfl
def sameA (a b : Attrs) : Bool := decide (a = b)

set_option maxRecDepth 100000 in
set_option maxHeartbeats 4000000 in
theorem ref_same_ok (fr fr' : Bool) (a b : Attrs) : PCon prog 16 [encA fr a, encA fr' b] (.bool (sameA a b)) := by
  refine callV_of (fn := Go.Proofs.Try.f16) (body := _) tab_ok mixed rfl rfl (by decide) (by simp [Go.Proofs.Try.f16]) ?_
  have fin : ∀ {s : St} {r : Bool}, sameA a b = r → ∃ v1 h' nx', Ends 0 s (.bool r) v1 h' nx' ∧ (v1 = .bool (sameA a b) ∧ h' = [] ∧ nx' = 0) := fun h => Ends.pure [] (.bool_of h.symm) (by simp)
  (conv => whnf)
  repeat' first
    | refine fin ?_
    | (split <;> (conv => whnf))
    | (refine fun (_ : gd none _) => ?_; (conv => whnf))
    | (refine callV_pure (words_ok fr fr' a.tags b.tags) ⟨.free (encW_free _ _), .free (encW_free _ _), trivial⟩ ?_; (conv => whnf))
  any_goals (simp only [sameA, decide_eq_false_iff_not]; rintro rfl; simp_all; done)
  have hlen : a.path.length = b.path.length := by
    have := ‹((((a.path.map (encLeg fr)).length : Nat) : Int) != (((b.path.map (encLeg fr')).length : Nat) : Int)) = false›
    simp at this
    omega
  have hall : a.origin = b.origin ∧ a.next = b.next ∧ a.hasMed = b.hasMed ∧ a.med = b.med ∧ a.hasPref = b.hasPref ∧ a.pref = b.pref ∧ a.tags = b.tags := by
    clear fin
    simp_all [u32_neq, u8_neq]
  have hl : a.path.length ≤ maxLen := by
    have := ‹gd none ((a.path.map (encLeg fr)).length ≤ maxLen)›
    simpa [gd] using this
  have cell : ∀ {fr0 : Bool} {x : Attrs}, FreeB (.var true 26 (cellsA fr0 x)) := fun {fr0 x} => cellsA_free fr0 x
  refine vcg_loop tab_ok mixed (fun i : {i : Nat // i ≤ a.path.length ∧ a.path.take i = b.path.take i} => ⟨[(2, .ptr 0 0), (3, .ptr 1 0), (5, cI i.1)], [(0, some (.var true 26 (cellsA fr a))), (1, some (.var true 26 (cellsA fr' b)))], 2⟩) (fun i => a.path.length - i.1) ⟨0, by omega, rfl⟩ (Wk.of id [] ⟨?_, ?_, ?_, trivial⟩ (LeH.same ⟨⟨rfl, cell, by omega⟩, ⟨rfl, cell, by omega⟩, trivial⟩ (by omega))) (fun i => ?_)
  · exact .ptr rfl (by omega)
  · exact .ptr rfl (by omega)
  · exact .int_of rfl
  obtain ⟨i, hi, hr⟩ := i
  (conv => whnf)
  refine fun (_ : gd none _) => ?_
  (conv => whnf)
  split
  · rename_i hc
    have hc : i < a.path.length := by simpa using hc
    have hc' : i < b.path.length := by omega
    have hdif : a.path[i] ≠ b.path[i] → sameA a b = false := by
      intro h
      simp only [sameA, decide_eq_false_iff_not]
      rintro rfl
      exact h rfl
    (conv => whnf)
    refine ⟨rfl, _, ⟨by simp only; omega, idxL hc⟩, ?_⟩
    (conv => whnf)
    refine ⟨rfl, _, ⟨by simp only; omega, idxL hc'⟩, ?_⟩
    (conv => whnf)
    split
    · rename_i h1
      (conv => whnf)
      refine ⟨by kernel_rfl, ?_⟩
      (conv => whnf)
      refine fin (hdif fun e => ?_)
      simp [e] at h1
    · rename_i h1
      (conv => whnf)
      refine ⟨rfl, _, ⟨by simp only; omega, idxL hc⟩, ?_⟩
      (conv => whnf)
      refine ⟨rfl, _, ⟨by simp only; omega, idxL hc'⟩, ?_⟩
      (conv => whnf)
      refine ⟨.bool (decide (a.path[i].ns = b.path[i].ns)), [], fun h nx _ => ?_, by simp, ?_⟩
      · refine pureV_pure (words_ok fr fr' a.path[i].ns b.path[i].ns) ?_
        exact ⟨.free (encW_free _ _), .free (encW_free _ _), trivial⟩
      (conv => whnf)
      refine ⟨by kernel_rfl, ?_⟩
      (conv => whnf)
      split
      · rename_i h2
        (conv => whnf)
        refine fin (hdif fun e => ?_)
        simp [e] at h2
      · rename_i h2
        (conv => whnf)
        refine ⟨⟨i + 1, by omega, ?_⟩, Wk.of id [] ⟨?_, ?_, ?_, trivial⟩ (LeH.same ⟨⟨rfl, cell, by omega⟩, ⟨rfl, cell, by omega⟩, trivial⟩ (by omega)), by simp only; omega⟩
        · rw [List.take_succ_eq_append_getElem hc, List.take_succ_eq_append_getElem hc', hr]
          have e1 : a.path[i].set = b.path[i].set := by simpa using h1
          have e2 : a.path[i].ns = b.path[i].ns := by simpa using h2
          have : a.path[i] = b.path[i] := by
            cases ha : a.path[i]; cases hb : b.path[i]
            simp_all
          rw [this]
        · exact .ptr rfl (by omega)
        · exact .ptr rfl (by omega)
        · exact .int_of (wrap64_succ hc hl)
  · rename_i hc
    have hc : i = a.path.length := by simp at hc; omega
    subst hc
    (conv => whnf)
    refine fin ?_
    rw [List.take_length, hlen, List.take_length] at hr
    obtain ⟨q1, q2, q3, q4, q5, q6, q7⟩ := hall
    simp only [sameA, decide_eq_true_eq]
    cases a; cases b
    simp_all
end Go.Proofs.Ytcfkendgjinmiaa
