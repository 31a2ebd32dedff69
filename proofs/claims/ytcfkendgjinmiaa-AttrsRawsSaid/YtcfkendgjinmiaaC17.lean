/- Contracts: a path's length. -/
import Derived.Test.YtcfkendgjinmiaaC16
set_option linter.unusedVariables false
set_option linter.unusedSimpArgs false
namespace Go.Proofs.Ytcfkendgjinmiaa
open Go.RowKit
open Go.Proofs.Try (prog)
attribute [local irreducible] CallV RoundV

def lenOf (p : Leg) : Nat := if p.set then 1 else p.ns.length
def lengthOf (l : List Leg) : Nat := (l.map lenOf).sum
theorem lengthOf_succ {l : List Leg} {i : Nat} (h : i < l.length) : lengthOf (l.take (i + 1)) = lengthOf (l.take i) + lenOf l[i] := by
  unfold lengthOf
  rw [List.take_succ_eq_append_getElem h, List.map_append, List.sum_append]
  simp only [List.map_cons, List.map_nil, List.sum_cons, List.sum_nil, Nat.add_zero]
theorem lengthOf_le {l : List Leg} (h : ∀ p ∈ l, p.ns.length ≤ 60) : lengthOf l ≤ 61 * l.length := by
  induction l with
  | nil => simp [lengthOf]
  | cons p l ih =>
    have := ih (fun q hq => h q (by simp [hq]))
    have h1 := h p (by simp)
    have h2 : lenOf p ≤ 61 := by unfold lenOf; split <;> omega
    have e : lengthOf (p :: l) = lenOf p + lengthOf l := by simp [lengthOf]
    rw [e, List.length_cons]
    omega
set_option maxRecDepth 100000 in
theorem length_ok (fr : Bool) (l : List Leg) (hl0 : l.length ≤ 1000) (hp : ∀ p ∈ l, p.ns.length ≤ 60) : PCon prog 25 [encLegs fr l] (cI (lengthOf l)) := by
  refine callV_of (fn := Go.Proofs.Try.f25) (body := _) tab_ok mixed rfl rfl (by decide) (by simp [Go.Proofs.Try.f25]) ?_
  (conv => whnf)
  intro hl
  have hl : l.length ≤ maxLen := by simpa [gd] using hl
  (conv => whnf)
  refine vcg_loop tab_ok mixed (fun i : {i : Nat // i ≤ l.length} => ⟨[(2, cI (lengthOf (l.take i.1))), (5, encLegs fr l), (6, cI l.length), (7, cI i.1)], [], 0⟩) (fun i => l.length - i.1) ⟨0, by omega⟩ (Wk.of id [] ⟨.int_of rfl, .free (encLegs_free _ _), .int_of (by simp), .int_of rfl, trivial⟩ (LeH.nil (Nat.le_refl _) (fun b h => by omega) (by simp))) (fun i => ?_)
  obtain ⟨i, hi⟩ := i
  (conv => whnf)
  split
  · rename_i hc
    have hc : i < l.length := by simpa using hc
    have hpi := hp l[i] (List.getElem_mem hc)
    have hb := lengthOf_le (l := l.take i) (fun p hp' => hp p (List.mem_of_mem_take hp'))
    rw [List.length_take, Nat.min_eq_left hi] at hb
    (conv => whnf)
    refine ⟨rfl, _, ⟨by first | omega | (simp only; omega), idxL hc⟩, ?_⟩
    (conv => whnf)
    split
    · rename_i hs
      (conv => whnf)
      refine ⟨⟨i + 1, by omega⟩, Wk.of id [] ⟨.int_of ?_, .free (encLegs_free _ _), .int_of rfl, .int_of (wrap64_succ hc hl), trivial⟩ (LeH.nil (Nat.le_refl _) (fun b h => by omega) (by simp)), by simp only; omega⟩
      rw [lengthOf_succ hc]
      simp only [lenOf, hs, if_true]
      rw [wrap64] <;> omega
    · rename_i hs
      (conv => whnf)
      intro _
      (conv => whnf)
      refine ⟨⟨i + 1, by omega⟩, Wk.of id [] ⟨.int_of ?_, .free (encLegs_free _ _), .int_of rfl, .int_of (wrap64_succ hc hl), trivial⟩ (LeH.nil (Nat.le_refl _) (fun b h => by omega) (by simp)), by simp only; omega⟩
      rw [lengthOf_succ hc]
      simp only [lenOf, hs, List.length_map, Bool.false_eq_true, if_false]
      rw [wrap64] <;> omega
  · rename_i hc
    have hc : i = l.length := by simp at hc; omega
    subst hc
    (conv => whnf)
    exact Ends.pure [] (.int_of (by simp)) (by simp)
end Go.Proofs.Ytcfkendgjinmiaa
