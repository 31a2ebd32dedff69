/- RiboutMany: for every input the law returns true, and the input reads as it did. No conditions. -/
import Derived.Test.YteogfjpaljbkoaaGreatK7
set_option linter.unusedVariables false
set_option linter.unusedSimpArgs false
namespace Go.Proofs.YteogfjpaljbkoaaGreat.riboutMany
open Go.RowKit Go.ChangeShapes Go.WideShapes
open Go.Proofs.Tryz (prog)
attribute [local irreducible] CallV RoundV

theorem contract : ∀ x : I64 × I64 × I64 × Unit, PCon prog 5 [.int .i64 x.1.1, .int .i64 x.2.1.1, .int .i64 x.2.2.1.1] (.bool true) := fun x => many26_ok x.1.1 x.2.1.1 x.2.2.1.1 x.2.2.1.2.2
set_option maxRecDepth 100000 in
theorem lifted (os : Os) (started : os.Started) (H : Type) (enc : TypeId × Value → H) :
    ReturnsInHanded {} Go.Proofs.Tryz.checked os 5 .any (Rows.riboutManySpec.pre6 enc prog Go.Proofs.Tryz.f5 Rows.riboutManyRow.domain false) (Rows.riboutManySpec.post enc prog Go.Proofs.Tryz.f5 false true false false) := by
  refine returnsInHanded_of_change (C := Go.Proofs.Tryz.checked) own started (by kernel_rfl) Go.Proofs.Tryz.func5
    (ChangeSpec.witness6 (enc := enc) (C := Go.Proofs.Tryz.checked) false ⟨#[], #[.int .i64 100, .int .i64 0, .int .i64 0], []⟩ 100000 (by kernel_rfl) (by kernel_rfl) (by kernel_rfl) (by kernel_rfl)) ?_
  intro W base args ds gs before hval hW _ _
  refine law_of (ts := [3, 3, 3]) (tb := 4) rfl rfl Go.Proofs.Tryz.underlying4 laidOut ?_ rfl ?_ (argsCons arg_i64 (argsCons arg_i64 (argsCons arg_i64 argsNil))) contract (by kernel_rfl) hval hW
  · intro t ht
    simp only [List.mem_cons, List.not_mem_nil, or_false] at ht
    rcases ht with rfl | rfl | rfl
    · exact read_int
    · exact read_int
    · exact read_int
  · intro ds hl
    match ds, hl with
    | [d0, d1, d2], _ => rfl
theorem proved : Rows.RiboutManySaid :=
  OpenClaim.holds_of_wide 5 Go.Proofs.Tryz.f5 rfl rfl rfl rfl rfl rfl rfl ⟨rfl, rfl, rfl, rfl, rfl⟩ rfl rfl rfl rfl rfl (by kernel_rfl) Go.Proofs.Tryz.func5 (by kernel_rfl)
    (of_decide_eq_true (by kernel_rfl)) (by unfold Func.isWrapper; first | (rw [if_pos (by decide +kernel)]; kernel_rfl) | (rw [if_neg (by decide +kernel)]; exact ⟨rfl, rfl⟩))
    (fun os started H enc _ => lifted os started H enc)
end Go.Proofs.YteogfjpaljbkoaaGreat.riboutMany
#print axioms Go.Proofs.YteogfjpaljbkoaaGreat.riboutMany.proved
