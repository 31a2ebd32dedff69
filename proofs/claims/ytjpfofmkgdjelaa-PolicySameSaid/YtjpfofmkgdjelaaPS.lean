/- PolicySame: for every input the law returns true, and the input reads as it did. No conditions. -/
import Derived.Test.YtjpfofmkgdjelaaK5
import Derived.Test.YtjpfofmkgdjelaaK8
set_option linter.unusedVariables false
set_option linter.unusedSimpArgs false
namespace Go.Proofs.Ytjpfofmkgdjelaa.policySame
open Go.RowKit Go.ChangeShapes Go.WideShapes
open Go.Proofs.Try (prog)
attribute [local irreducible] CallV RoundV

theorem contract : ∀ x : Policy × Policy × Unit, PCon prog 3 [encPo false x.1, encPo false x.2.1] (.bool true) := fun x => policySame_ok x.1 x.2.1
set_option maxRecDepth 100000 in
theorem lifted (os : Os) (started : os.Started) (H : Type) (enc : TypeId × Value → H) :
    ReturnsInHanded {} Go.Proofs.Try.checked os 3 .any (Rows.policySameSpec.pre6 enc prog Go.Proofs.Try.f3 Rows.policySameRow.domain false) (Rows.policySameSpec.post enc prog Go.Proofs.Try.f3 false true false false) := by
  refine returnsInHanded_of_change (C := Go.Proofs.Try.checked) own started (by kernel_rfl) Go.Proofs.Try.func3
    (ChangeSpec.witness6 (enc := enc) (C := Go.Proofs.Try.checked) false ⟨#[], #[.agg #[.slice none 0 0, .bool false], .agg #[.slice none 0 0, .bool false]], []⟩ 30 (by kernel_rfl) (by kernel_rfl) (by kernel_rfl) (by kernel_rfl)) ?_
  intro W base args ds gs before hval hW _ _
  refine law_of (ts := [24, 24]) (tb := 4) rfl rfl Go.Proofs.Try.underlying4 laidOut ?_ rfl ?_ (argsCons arg_policy (argsCons arg_policy argsNil)) contract (by kernel_rfl) hval hW
  · intro t ht
    simp only [List.mem_cons, List.not_mem_nil, or_false] at ht
    rcases ht with rfl | rfl
    · exact read_policy
    · exact read_policy
  · intro ds hl
    match ds, hl with
    | [d0, d1], _ => rfl
theorem proved : Rows.PolicySameSaid :=
  OpenClaim.holds_of_wide 3 Go.Proofs.Try.f3 rfl rfl rfl rfl rfl rfl rfl ⟨rfl, rfl, rfl, rfl, rfl⟩ rfl rfl rfl rfl rfl (by kernel_rfl) Go.Proofs.Try.func3 (by kernel_rfl)
    (of_decide_eq_true (by kernel_rfl)) (by unfold Func.isWrapper; first | (rw [if_pos (by decide +kernel)]; kernel_rfl) | (rw [if_neg (by decide +kernel)]; exact ⟨rfl, rfl⟩))
    (fun os started H enc _ => lifted os started H enc)
end Go.Proofs.Ytjpfofmkgdjelaa.policySame
#print axioms Go.Proofs.Ytjpfofmkgdjelaa.policySame.proved
