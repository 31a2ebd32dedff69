/- Contracts: the attributes' values. -/
import Derived.Test.YtcfkendgjinmiaaC10
set_option linter.unusedVariables false
set_option linter.unusedSimpArgs false
namespace Go.Proofs.Ytcfkendgjinmiaa
open Go.RowKit
open Go.Proofs.Try (prog)
attribute [local irreducible] CallV RoundV

set_option maxRecDepth 100000 in
set_option maxHeartbeats 2000000 in
theorem route_ok (fr : Bool) (a : Attrs) (hf : fewA a = true) : PCon prog 63 [encA fr a] (encB true (pathB a.path)) := by
  obtain ⟨hp, hpl, htl⟩ := fewA_out hf
  have cell : ∀ {fr0 : Bool} {x : Attrs}, FreeB (.var true 26 (cellsA fr0 x)) := fun {fr0 x} => cellsA_free fr0 x
  refine callV_of (fn := Go.Proofs.Try.f63) (body := _) tab_ok mixed rfl rfl (by decide) (by simp [Go.Proofs.Try.f63]) ?_
  (conv => whnf)
  intro hl
  have hl : a.path.length ≤ maxLen := by simpa [gd] using hl
  (conv => whnf)
  refine vcg_loop tab_ok mixed (fun i : {i : Nat // i ≤ a.path.length} => ⟨[(2, .osl 1 1 0 (pathB (a.path.take i.1)).length), (7, encLegs fr a.path), (8, cI a.path.length), (9, cI i.1)], [(1, some (.arr true false 5 1 (rowsB (pathB (a.path.take i.1)))))], 2⟩) (fun i => a.path.length - i.1) ⟨0, by omega⟩ ?_ (fun i => ?_)
  · refine Wk.of id [] ⟨?_, ?_, ?_, ?_, trivial⟩ (LeH.of ⟨⟨by omega, .inr ⟨by simp, _, _, _, _, rfl⟩⟩, trivial⟩ (fun _ _ _ _ h => h) (fun _ _ => rfl) (by omega) (by simp))
    · exact .osl0
    · exact .free (encLegs_free _ _)
    · exact .int_of (by simp)
    · exact .int_of rfl
  obtain ⟨i, hi⟩ := i
  (conv => whnf)
  split
  · rename_i hc
    have hc : i < a.path.length := by simpa using hc
    have hpi := hp a.path[i] (List.getElem_mem hc)
    have hpb : (pathB (a.path.take i)).length ≤ 242 * i := by
      have := pathB_len (l := a.path.take i) (fun p hp' => hp p (List.mem_of_mem_take hp'))
      rw [List.length_take, Nat.min_eq_left hi] at this
      exact this
    (conv => whnf)
    refine ⟨rfl, _, ⟨by first | omega | (simp only; omega), idxL hc⟩, ?_⟩
    (conv => whnf)
    split
    case' h_1 => rename_i hk; have hkind : kindB a.path[i] = 1 := by simp [kindB, hk]
    case' h_2 => rename_i hk; have hkind : kindB a.path[i] = 2 := by simp [kindB, hk]
    all_goals
      (conv => whnf)
      refine ⟨rfl, by simp, ⟨rfl, rfl, rfl, rfl, by decide⟩, by simp, ⟨by simp [tab, tabOf, nth]; omega, by simp; omega⟩, ?_⟩
      (conv => whnf)
      refine ⟨encB true (allB a.path[i].ns), [], fun h nx _ => ?_, by simp, ?_⟩
      · refine pureV_pure (all_ok fr a.path[i].ns (by omega)) ?_
        exact ⟨.free (encW_free _ _), trivial⟩
      (conv => whnf)
      refine ⟨⟨rfl, rfl, rfl, rfl, by decide⟩, by simp, ⟨by simp [tab, tabOf, nth, allB_len]; omega, by simp [allB_len]; omega⟩, ?_⟩
      (conv => whnf)
      refine ⟨by kernel_rfl, ?_⟩
      (conv => whnf)
      refine ⟨⟨i + 1, by omega⟩, Wk.of (renOf [(1, 5)]) [] ⟨?_, ?_, ?_, ?_, trivial⟩ (LeH.of ⟨⟨by omega, .inl ⟨by simp, _, rfl, LeB.eq_of ?_ (rowsB_free _)⟩⟩, trivial⟩ (show ∀ b ∈ [1], ∀ b' ∈ [1], renOf [(1, 5)] b = renOf [(1, 5)] b' → b = b' by decide) (fun b hb => by omega) (by omega) (by simp)), by simp only; omega⟩
      · exact .osl_of rfl (by omega) (by simp only; rw [pathB_succ hc, List.length_append, legB_len]; simp [allB_len]; omega)
      · exact .free (encLegs_free _ _)
      · exact .int_of rfl
      · exact .int_of (wrap64_succ hc hl)
      · simp only [List.length_map, u8_nat]
        rw [pathB_succ hc]
        simp [rowsB, legB, hkind, List.take_of_length_le]
  · rename_i hc
    have hc : i = a.path.length := by simp at hc; omega
    subst hc
    (conv => whnf)
    refine Ends.pure [1] (.freezeB (bs := pathB a.path) (by simp) rfl (by simp) (by simp)) (one_none rfl)

set_option maxRecDepth 100000 in
theorem always_ok (fr : Bool) (a : Attrs) : PCon prog 60 [encA fr a] (.bool true) := by
  refine callV_of (fn := Go.Proofs.Try.f60) (body := _) tab_ok mixed rfl rfl (by decide) (by simp [Go.Proofs.Try.f60]) ?_
  (conv => whnf)
  exact Ends.pure [] (.bool_of rfl) (by simp)
set_option maxRecDepth 100000 in
theorem hasMed_ok (fr : Bool) (a : Attrs) : PCon prog 69 [encA fr a] (.bool a.hasMed) := by
  refine callV_of (fn := Go.Proofs.Try.f69) (body := _) tab_ok mixed rfl rfl (by decide) (by simp [Go.Proofs.Try.f69]) ?_
  (conv => whnf)
  exact Ends.pure [] (.bool_of rfl) (by simp)
set_option maxRecDepth 100000 in
theorem hasPref_ok (fr : Bool) (a : Attrs) : PCon prog 72 [encA fr a] (.bool a.hasPref) := by
  refine callV_of (fn := Go.Proofs.Try.f72) (body := _) tab_ok mixed rfl rfl (by decide) (by simp [Go.Proofs.Try.f72]) ?_
  (conv => whnf)
  exact Ends.pure [] (.bool_of rfl) (by simp)
set_option maxRecDepth 100000 in
theorem hasTags_ok (fr : Bool) (a : Attrs) : PCon prog 75 [encA fr a] (.bool (decide (0 < a.tags.length))) := by
  refine callV_of (fn := Go.Proofs.Try.f75) (body := _) tab_ok mixed rfl rfl (by decide) (by simp [Go.Proofs.Try.f75]) ?_
  (conv => whnf)
  intro _
  (conv => whnf)
  exact Ends.pure [] (.bool_of (by simp)) (by simp)
set_option maxRecDepth 100000 in
theorem vOrigin_ok (fr : Bool) (a : Attrs) : PCon prog 61 [encA fr a] (encB true [a.origin]) := by
  refine callV_of (fn := Go.Proofs.Try.f61) (body := _) tab_ok mixed rfl rfl (by decide) (by simp [Go.Proofs.Try.f61]) ?_
  (conv => whnf)
  exact Ends.pure [1] (.freezeB (bs := [a.origin]) (by simp) rfl rfl rfl) (one_none rfl)
set_option maxRecDepth 100000 in
theorem vNext_ok (fr : Bool) (a : Attrs) : PCon prog 65 [encA fr a] (encB true (fourB a.next)) := by
  refine callV_of (fn := Go.Proofs.Try.f65) (body := _) tab_ok mixed rfl rfl (by decide) (by simp [Go.Proofs.Try.f65]) ?_
  (conv => whnf)
  refine callV_pure (high_ok _) ⟨.free .int, .free .int, trivial⟩ ?_
  (conv => whnf)
  exact Ends.pure [] (.free (encB_free _ _)) (by simp)
set_option maxRecDepth 100000 in
theorem vMed_ok (fr : Bool) (a : Attrs) : PCon prog 70 [encA fr a] (encB true (fourB a.med)) := by
  refine callV_of (fn := Go.Proofs.Try.f70) (body := _) tab_ok mixed rfl rfl (by decide) (by simp [Go.Proofs.Try.f70]) ?_
  (conv => whnf)
  refine callV_pure (high_ok _) ⟨.free .int, .free .int, trivial⟩ ?_
  (conv => whnf)
  exact Ends.pure [] (.free (encB_free _ _)) (by simp)
set_option maxRecDepth 100000 in
theorem vPref_ok (fr : Bool) (a : Attrs) : PCon prog 73 [encA fr a] (encB true (fourB a.pref)) := by
  refine callV_of (fn := Go.Proofs.Try.f73) (body := _) tab_ok mixed rfl rfl (by decide) (by simp [Go.Proofs.Try.f73]) ?_
  (conv => whnf)
  refine callV_pure (high_ok _) ⟨.free .int, .free .int, trivial⟩ ?_
  (conv => whnf)
  exact Ends.pure [] (.free (encB_free _ _)) (by simp)
set_option maxRecDepth 100000 in
theorem vTags_ok (fr : Bool) (a : Attrs) (hf : fewA a = true) : PCon prog 76 [encA fr a] (encB true (allB a.tags)) := by
  obtain ⟨_, _, htl⟩ := fewA_out hf
  refine callV_of (fn := Go.Proofs.Try.f76) (body := _) tab_ok mixed rfl rfl (by decide) (by simp [Go.Proofs.Try.f76]) ?_
  (conv => whnf)
  refine callV_pure (all_ok _ _ (by omega)) ⟨.free (encW_free _ _), trivial⟩ ?_
  (conv => whnf)
  exact Ends.pure [] (.free (encB_free _ _)) (by simp)
end Go.Proofs.Ytcfkendgjinmiaa
