/- AttrsSame: for every input the law returns true, and the input reads as it did. No conditions. -/
import Derived.Test.YtcfkendgjinmiaaK3
import Derived.Test.YtcfkendgjinmiaaK8
set_option linter.unusedVariables false
set_option linter.unusedSimpArgs false
namespace Go.Proofs.Ytcfkendgjinmiaa.attrsSame
open Go.RowKit Go.ChangeShapes Go.WideShapes
open Go.Proofs.Try (prog)
attribute [local irreducible] CallV RoundV

theorem contract : ∀ x : Attrs × Attrs × Unit, PCon prog 8 [encA false x.1, encA false x.2.1] (.bool true) := fun x => same_law_ok x.1 x.2.1
set_option maxRecDepth 100000 in
theorem lifted (os : Os) (started : os.Started) (H : Type) (enc : TypeId × Value → H) :
    ReturnsInHanded {} Go.Proofs.Try.checked os 8 .any (Rows.attrsSameSpec.pre6 enc prog Go.Proofs.Try.f8 Rows.attrsSameRow.domain false) (Rows.attrsSameSpec.post enc prog Go.Proofs.Try.f8 false true false false) := by
  refine returnsInHanded_of_change (C := Go.Proofs.Try.checked) own started (by kernel_rfl) Go.Proofs.Try.func8
    (ChangeSpec.witness6 (enc := enc) (C := Go.Proofs.Try.checked) false ⟨#[], #[.agg #[.int .u8 0, .slice none 0 0, .int .u32 0, .bool false, .int .u32 0, .bool false, .int .u32 0, .slice none 0 0], .agg #[.int .u8 0, .slice none 0 0, .int .u32 0, .bool false, .int .u32 0, .bool false, .int .u32 0, .slice none 0 0]], []⟩ 8 (by kernel_rfl) (by kernel_rfl) (by kernel_rfl) (by kernel_rfl)) ?_
  intro W base args ds gs before hval hW _ _
  refine law_of (ts := [26, 26]) (tb := 4) rfl rfl Go.Proofs.Try.underlying4 laidOut ?_ rfl ?_ (argsCons arg_attrs (argsCons arg_attrs argsNil)) contract (by kernel_rfl) hval hW
  · intro t ht
    simp only [List.mem_cons, List.not_mem_nil, or_false] at ht
    rcases ht with rfl | rfl
    · exact read26
    · exact read26
  · intro ds hl
    match ds, hl with
    | [d0, d1], _ => rfl
theorem proved : Rows.AttrsSameSaid :=
  OpenClaim.holds_of_wide 8 Go.Proofs.Try.f8 rfl rfl rfl rfl rfl rfl rfl ⟨rfl, rfl, rfl, rfl, rfl⟩ rfl rfl rfl rfl rfl (by kernel_rfl) Go.Proofs.Try.func8 (by kernel_rfl)
    (of_decide_eq_true (by kernel_rfl)) (by unfold Func.isWrapper; first | (rw [if_pos (by decide +kernel)]; kernel_rfl) | (rw [if_neg (by decide +kernel)]; exact ⟨rfl, rfl⟩))
    (fun os started H enc _ => lifted os started H enc)
end Go.Proofs.Ytcfkendgjinmiaa.attrsSame
#print axioms Go.Proofs.Ytcfkendgjinmiaa.attrsSame.proved
