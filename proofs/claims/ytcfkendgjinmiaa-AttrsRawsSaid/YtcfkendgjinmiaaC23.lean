/- Contract: the law AttrsRaws. -/
import Derived.Test.YtcfkendgjinmiaaC22
set_option linter.unusedVariables false
set_option linter.unusedSimpArgs false
namespace Go.Proofs.Ytcfkendgjinmiaa
open Go.RowKit
open Go.Proofs.Try (prog)
attribute [local irreducible] CallV RoundV

theorem sameA_refl (a : Attrs) : sameA a a = true := by
  simp [sameA]
set_option maxRecDepth 100000 in
theorem raws_ok (fr : Bool) (a : Attrs) : PCon prog 3 [encA fr a] (.bool true) := by
  refine callV_of (fn := Go.Proofs.Try.f3) (body := _) tab_ok mixed rfl rfl (by decide) (by simp [Go.Proofs.Try.f3]) ?_
  (conv => whnf)
  refine callV_pure (few_ok fr a) ⟨.free (encA_free _ _), trivial⟩ ?_
  cases hf : fewA a with
  | false =>
    (conv => whnf)
    refine callV_pure works_ok trivial ?_
    (conv => whnf)
    exact Ends.pure [] (.free .bool) (by simp)
  | true =>
    (conv => whnf)
    refine callV_pure (lent_ok fr a hf) ⟨.free (encA_free _ _), trivial⟩ ?_
    (conv => whnf)
    refine callV_pure (raw_ok true a hf) ⟨.free (encA_free _ _), trivial⟩ ?_
    cases hr : rightA a with
    | false =>
      rw [rawE_no hr]
      (conv => whnf)
      refine callV_pure (check_ok true a) ⟨.free (encA_free _ _), trivial⟩ ?_
      rw [checkA_no hr]
      (conv => whnf)
      refine callV_pure (ref_same_ok true fr a a) ⟨.free (encA_free _ _), .free (encA_free _ _), trivial⟩ ?_
      rw [sameA_refl]
      (conv => whnf)
      refine callV_pure (right_ok fr a) ⟨.free (encA_free _ _), trivial⟩ ?_
      rw [hr]
      (conv => whnf)
      intro _
      (conv => whnf)
      refine callV_pure (num_ok 2) ⟨.int_of rfl, trivial⟩ ?_
      (conv => whnf)
      refine callV_pure (num_ok 2) ⟨.int_of rfl, trivial⟩ ?_
      (conv => whnf)
      refine callV_pure works_ok trivial ?_
      (conv => whnf)
      exact Ends.pure [] (.free .bool) (by simp)
    | true =>
      rw [rawE_yes hr, rawP_eq]
      (conv => whnf)
      refine callV_pure (check_ok true a) ⟨.free (encA_free _ _), trivial⟩ ?_
      rw [checkA_yes hr]
      (conv => whnf)
      refine callV_pure (ref_same_ok true fr a a) ⟨.free (encA_free _ _), .free (encA_free _ _), trivial⟩ ?_
      rw [sameA_refl]
      (conv => whnf)
      refine callV_pure (right_ok fr a) ⟨.free (encA_free _ _), trivial⟩ ?_
      rw [hr]
      (conv => whnf)
      refine ⟨rfl, ⟨(rawA a).toArray⟩, rfl, ?_⟩
      (conv => whnf)
      refine ⟨encB true (rawA a), [], fun h nx _ => pureV_pure (ref_raw_ok fr a hf) ⟨.free (encA_free _ _), trivial⟩, by simp, ?_⟩
      (conv => whnf)
      refine ⟨rfl, ⟨(rawA a).toArray⟩, rfl, ?_⟩
      (conv => whnf)
      split
      case h_2 h => exact absurd h (by simp)
      (conv => whnf)
      refine ⟨_, [], fun h nx _ => pureV_pure (num_ok 0) ⟨.int_of rfl, trivial⟩, by simp, ?_⟩
      (conv => whnf)
      refine ⟨_, [], fun h nx _ => pureV_pure (num_ok 0) ⟨.int_of rfl, trivial⟩, by simp, ?_⟩
      (conv => whnf)
      refine ⟨_, [], fun h nx _ => pureV_pure works_ok trivial, by simp, ?_⟩
      (conv => whnf)
      refine ⟨by kernel_rfl, ?_⟩
      (conv => whnf)
      exact Ends.pure [] (.free .bool) (by simp)
end Go.Proofs.Ytcfkendgjinmiaa
