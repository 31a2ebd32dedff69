/- AttrsParses: for every input the law returns true, and the input reads as it did. No conditions. -/
import Derived.Test.YtcfkendgjinmiaaK3
import Derived.Test.YtcfkendgjinmiaaK4
set_option linter.unusedVariables false
set_option linter.unusedSimpArgs false
namespace Go.Proofs.Ytcfkendgjinmiaa.attrsParses
open Go.RowKit Go.ChangeShapes Go.WideShapes
open Go.Proofs.Try (prog)
attribute [local irreducible] CallV RoundV

theorem contract : ∀ x : List UInt8 × Unit, PCon prog 4 [encB false x.1] (.bool true) := fun x => parses_ok false x.1
set_option maxRecDepth 100000 in
theorem lifted (os : Os) (started : os.Started) (H : Type) (enc : TypeId × Value → H) :
    ReturnsInHanded {} Go.Proofs.Try.checked os 4 .any (Rows.attrsParsesSpec.pre6 enc prog Go.Proofs.Try.f4 Rows.attrsParsesRow.domain false) (Rows.attrsParsesSpec.post enc prog Go.Proofs.Try.f4 false true false false) := by
  refine returnsInHanded_of_change (C := Go.Proofs.Try.checked) own started (by kernel_rfl) Go.Proofs.Try.func4
    (ChangeSpec.witness6 (enc := enc) (C := Go.Proofs.Try.checked) false ⟨#[], #[.slice none 0 0], []⟩ 8 (by kernel_rfl) (by kernel_rfl) (by kernel_rfl) (by kernel_rfl)) ?_
  intro W base args ds gs before hval hW _ _
  refine law_of (ts := [30]) (tb := 4) rfl rfl Go.Proofs.Try.underlying4 laidOut ?_ rfl ?_ (argsCons arg_bytes argsNil) contract hval hW
  · intro t ht
    simp only [List.mem_cons, List.not_mem_nil, or_false] at ht
    rcases ht with rfl
    · exact read30
  · intro ds hl
    match ds, hl with
    | [d0], _ => rfl
theorem proved : Rows.AttrsParsesSaid :=
  OpenClaim.holds_of_wide 4 Go.Proofs.Try.f4 rfl rfl rfl rfl rfl rfl rfl ⟨rfl, rfl, rfl, rfl, rfl⟩ rfl rfl rfl rfl rfl (by kernel_rfl) Go.Proofs.Try.func4 (by kernel_rfl)
    (of_decide_eq_true (by kernel_rfl)) (by unfold Func.isWrapper; first | (rw [if_pos (by decide +kernel)]; kernel_rfl) | (rw [if_neg (by decide +kernel)]; exact ⟨rfl, rfl⟩))
    (fun os started H enc _ => lifted os started H enc)
end Go.Proofs.Ytcfkendgjinmiaa.attrsParses
#print axioms Go.Proofs.Ytcfkendgjinmiaa.attrsParses.proved
