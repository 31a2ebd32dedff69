/- Contracts: paths, and what may be said. -/
import Derived.Test.YtcfkendgjinmiaaC2
set_option linter.unusedVariables false
set_option linter.unusedSimpArgs false
namespace Go.Proofs.Ytcfkendgjinmiaa
open Go.RowKit
open Go.Proofs.Try (prog)
attribute [local irreducible] CallV RoundV

set_option maxRecDepth 100000 in
theorem ref_path_ok (fr : Bool) (l : List Leg) : PCon prog 41 [encLegs fr l] (.bool (pathOk l)) := by
  refine callV_of (fn := Go.Proofs.Try.f41) (body := _) tab_ok mixed rfl rfl (by decide) (by simp [Go.Proofs.Try.f41]) ?_
  (conv => whnf)
  intro hl
  have hl : l.length ≤ maxLen := by simpa [gd] using hl
  (conv => whnf)
  split
  · rename_i h0
    (conv => whnf)
    exact Ends.pure [] (.bool_of (by simp at h0; simp [pathOk]; omega)) (by simp)
  rename_i h0
  have h0 : l.length ≤ 8 := by simp at h0; omega
  (conv => whnf)
  refine vcg_loop tab_ok mixed (fun i : {i : Nat // i ≤ l.length ∧ (l.take i).all legOk = true} => ⟨[(0, encLegs fr l), (3, cI i.1)], [], 0⟩) (fun i => l.length - i.1) ⟨0, by omega, rfl⟩ (Wk.of id [] ⟨?_, ?_, trivial⟩ (LeH.nil (Nat.le_refl _) (fun b h => by omega) (by simp))) (fun i => ?_)
  · exact .free (encLegs_free _ _)
  · exact .int_of rfl
  obtain ⟨i, hi, hz⟩ := i
  (conv => whnf)
  intro _
  (conv => whnf)
  split
  · rename_i hc
    have hc : i < l.length := by simpa using hc
    (conv => whnf)
    refine ⟨rfl, _, ⟨by simp only; omega, idxL hc⟩, ?_⟩
    (conv => whnf)
    refine callV_pure (ref_part_ok fr l[i]) ⟨.free (.agg (encLeg_free _ _)), trivial⟩ ?_
    (conv => whnf)
    split
    · rename_i h1
      (conv => whnf)
      refine Ends.pure [] (.bool_of ?_) (by simp)
      have := all_false (p := legOk) hc (by simpa using h1)
      simp [pathOk, this]
    · rename_i h1
      (conv => whnf)
      refine ⟨⟨i + 1, by omega, ?_⟩, Wk.of id [] ⟨?_, ?_, trivial⟩ (LeH.nil (Nat.le_refl _) (fun b h => by omega) (by simp)), by simp only; omega⟩
      · rw [all_take_succ hc, hz]; simpa using h1
      · exact .free (encLegs_free _ _)
      · exact .int_of (wrap64_succ hc hl)
  · rename_i hc
    have hc : i = l.length := by simp at hc; omega
    subst hc
    (conv => whnf)
    refine Ends.pure [] (.bool_of ?_) (by simp)
    rw [List.take_length] at hz
    simp [pathOk, hz, h0]

set_option maxRecDepth 100000 in
theorem index_ok (fr : Bool) (l : List UInt32) (x : UInt32) : PCon prog 100 [encW fr l, cW x] (.int .i64 (if l.all (· != x) then -1 else (l.findIdx (· == x) : Nat))) := by
  refine callV_of (fn := Go.Proofs.Try.f100) (body := _) tab_ok mixed rfl rfl (by decide) (by simp [Go.Proofs.Try.f100]) ?_
  (conv => whnf)
  intro hl
  have hl : l.length ≤ maxLen := by simpa [gd] using hl
  (conv => whnf)
  refine vcg_loop tab_ok mixed (fun i : {i : Nat // i ≤ l.length ∧ (l.take i).all (· != x) = true} => ⟨[(0, encW fr l), (1, cW x), (7, cI l.length), (8, cI i.1)], [], 0⟩) (fun i => l.length - i.1) ⟨0, by omega, rfl⟩ (Wk.of id [] ⟨?_, ?_, ?_, ?_, trivial⟩ (LeH.nil (Nat.le_refl _) (fun b h => by omega) (by simp))) (fun i => ?_)
  · exact .free (encW_free _ _)
  · exact .int_of rfl
  · exact .int_of (by simp)
  · exact .int_of rfl
  obtain ⟨i, hi, hz⟩ := i
  (conv => whnf)
  split
  · rename_i hc
    have hc : i < l.length := by simpa using hc
    (conv => whnf)
    refine ⟨rfl, _, ⟨by simp only; omega, idxW hc⟩, ?_⟩
    (conv => whnf)
    split
    · rename_i h1
      have h1 : l[i] = x := by simp at h1; exact UInt32.toNat_inj.1 (by omega)
      (conv => whnf)
      refine Ends.pure [] (.int_of ?_) (by simp)
      have := all_false (p := (· != x)) hc (by simp [h1])
      rw [if_neg (by rw [this]; simp)]
      congr 1
      symm
      rw [List.findIdx_eq hc]
      refine ⟨by simp [h1], fun j hj => ?_⟩
      rw [List.all_eq_true] at hz
      have := hz (l[j]'(by omega)) (by rw [List.mem_take_iff_getElem]; exact ⟨j, by omega, rfl⟩)
      simpa using this
    · rename_i h1
      (conv => whnf)
      refine ⟨⟨i + 1, by omega, ?_⟩, Wk.of id [] ⟨?_, ?_, ?_, ?_, trivial⟩ (LeH.nil (Nat.le_refl _) (fun b h => by omega) (by simp)), by simp only; omega⟩
      · rw [all_take_succ hc, hz]
        simp at h1
        simp only [Bool.true_and, bne_iff_ne, ne_eq]
        intro e
        rw [e] at h1
        simp at h1
      · exact .free (encW_free _ _)
      · exact .int_of rfl
      · exact .int_of rfl
      · exact .int_of (wrap64_succ hc hl)
  · rename_i hc
    have hc : i = l.length := by simp at hc; omega
    subst hc
    (conv => whnf)
    refine Ends.pure [] (.int_of ?_) (by simp)
    rw [List.take_length] at hz
    rw [if_pos hz]
set_option maxRecDepth 100000 in
theorem contains_ok (fr : Bool) (l : List UInt32) (x : UInt32) : PCon prog 82 [encW fr l, cW x] (.bool (!l.all (· != x))) := by
  refine callV_of (fn := Go.Proofs.Try.f82) (body := _) tab_ok mixed rfl rfl (by decide) (by simp [Go.Proofs.Try.f82]) ?_
  (conv => whnf)
  refine callV_pure (index_ok fr l x) ⟨.free (encW_free _ _), .free .int, trivial⟩ ?_
  (conv => whnf)
  refine Ends.pure [] (.bool_of ?_) (by simp)
  split
  · rename_i h; simp [h]
  · rename_i h; simp at h; simp [h]

set_option maxRecDepth 100000 in
theorem path1_ok (fr : Bool) (p : Leg) : PCon prog 81 [.agg (encLeg fr p)] (.bool (!legOk p)) := by
  refine callV_of (fn := Go.Proofs.Try.f81) (body := _) tab_ok mixed rfl rfl (by decide) (by simp [Go.Proofs.Try.f81]) ?_
  (conv => whnf)
  intro hl
  have hl : p.ns.length ≤ maxLen := by simpa [gd] using hl
  have fin : ∀ {s : St} {b : Bool}, legOk p = !b → ∃ v1 h' nx', Ends 0 s (.bool b) v1 h' nx' ∧ (v1 = .bool (!legOk p) ∧ h' = [] ∧ nx' = 0) := fun h => Ends.pure [] (.bool_of (by rw [h]; simp)) (by simp)
  (conv => whnf)
  split
  · rename_i h0
    (conv => whnf)
    exact fin (by simp at h0; simp [legOk]; omega)
  rename_i h0
  have h0 : 1 ≤ p.ns.length := by simp at h0; omega
  (conv => whnf)
  intro _
  (conv => whnf)
  split
  · rename_i h1
    (conv => whnf)
    exact fin (by simp at h1; simp [legOk]; omega)
  rename_i h1
  have h1 : p.ns.length ≤ 32 := by simp at h1; omega
  (conv => whnf)
  refine callV_pure (contains_ok fr p.ns 0) ⟨.free (encW_free _ _), .free .int, trivial⟩ ?_
  (conv => whnf)
  split
  · rename_i h2
    (conv => whnf)
    exact fin (by simp at h2; simp [legOk]; intros; assumption)
  rename_i h2
  (conv => whnf)
  split
  · rename_i h3
    (conv => whnf)
    refine callV_pure (rise_ok fr p.ns) ⟨.free (encW_free _ _), trivial⟩ ?_
    (conv => whnf)
    refine fin ?_
    simp at h2
    simp [legOk, h0, h1, h3]
    exact fun _ => h2
  · rename_i h3
    (conv => whnf)
    refine fin ?_
    simp at h2
    simp [legOk, h0, h1, h3]
    exact h2
end Go.Proofs.Ytcfkendgjinmiaa
