/- AttrsRaws: for every input the law returns true, and the input reads as it did. No conditions. -/
import Derived.Test.YtcfkendgjinmiaaR0
import Derived.Test.YtcfkendgjinmiaaC23
set_option linter.unusedVariables false
set_option linter.unusedSimpArgs false
namespace Go.Proofs.Ytcfkendgjinmiaa.attrsRaws
open Go.RowKit Go.ChangeShapes Go.WideShapes
open Go.Proofs.Try (prog)
attribute [local irreducible] CallV RoundV

theorem contract : ∀ x : Attrs × Unit, PCon prog 3 [encA false x.1] (.bool true) := fun x => raws_ok false x.1
set_option maxRecDepth 100000 in
theorem lifted (os : Os) (started : os.Started) (H : Type) (enc : TypeId × Value → H) :
    ReturnsInHanded {} Go.Proofs.Try.checked os 3 .any (Rows.attrsRawsSpec.pre6 enc prog Go.Proofs.Try.f3 Rows.attrsRawsRow.domain false) (Rows.attrsRawsSpec.post enc prog Go.Proofs.Try.f3 false true false false) := by
  refine returnsInHanded_of_change (C := Go.Proofs.Try.checked) own started (by kernel_rfl) Go.Proofs.Try.func3
    (ChangeSpec.witness6 (enc := enc) (C := Go.Proofs.Try.checked) false ⟨#[], #[.agg #[.int .u8 0, .slice none 0 0, .int .u32 0, .bool false, .int .u32 0, .bool false, .int .u32 0, .slice none 0 0]], []⟩ 8 (by kernel_rfl) (by kernel_rfl) (by kernel_rfl) (by kernel_rfl)) ?_
  intro W base args ds gs before hval hW _ _
  refine law_of (ts := [26]) (tb := 4) rfl rfl Go.Proofs.Try.underlying4 laidOut ?_ rfl ?_ (argsCons arg_attrs argsNil) contract hval hW
  · intro t ht
    obtain rfl := List.mem_singleton.1 ht
    exact read26
  · intro ds hl
    match ds, hl with
    | [d], _ => rfl
theorem proved : Rows.AttrsRawsSaid :=
  OpenClaim.holds_of_wide 3 Go.Proofs.Try.f3 rfl rfl rfl rfl rfl rfl rfl ⟨rfl, rfl, rfl, rfl, rfl⟩ rfl rfl rfl rfl rfl (by kernel_rfl) Go.Proofs.Try.func3 (by kernel_rfl)
    (of_decide_eq_true (by kernel_rfl)) (by unfold Func.isWrapper; first | (rw [if_pos (by decide +kernel)]; kernel_rfl) | (rw [if_neg (by decide +kernel)]; exact ⟨rfl, rfl⟩))
    (fun os started H enc _ => lifted os started H enc)
end Go.Proofs.Ytcfkendgjinmiaa.attrsRaws
#print axioms Go.Proofs.Ytcfkendgjinmiaa.attrsRaws.proved
