/- RiboutCopies: for every input the law returns true, and the input reads as it did. No conditions. -/
import Derived.Test.YteogfjpaljbkoaaGreatK7
set_option linter.unusedVariables false
set_option linter.unusedSimpArgs false
namespace Go.Proofs.YteogfjpaljbkoaaGreat.riboutCopies
open Go.RowKit Go.ChangeShapes Go.WideShapes
open Go.Proofs.Tryz (prog)
attribute [local irreducible] CallV RoundV

theorem contract : ∀ x : Peer × Policy × List ActO × ActO × ActO × Unit, PCon prog 7 [encPe x.1, encPo false x.2.1, encActsO x.2.2.1, encActO x.2.2.2.1, encActO x.2.2.2.2.1] (.bool true) := fun x => copies26_ok x.1 x.2.1 x.2.2.1 x.2.2.2.1 x.2.2.2.2.1
set_option maxRecDepth 100000 in
theorem lifted (os : Os) (started : os.Started) (H : Type) (enc : TypeId × Value → H) :
    ReturnsInHanded {} Go.Proofs.Tryz.checked os 7 .any (Rows.riboutCopiesSpec.pre6 enc prog Go.Proofs.Tryz.f7 Rows.riboutCopiesRow.domain false) (Rows.riboutCopiesSpec.post enc prog Go.Proofs.Tryz.f7 false true false false) := by
  refine returnsInHanded_of_change (C := Go.Proofs.Tryz.checked) own started (by kernel_rfl) Go.Proofs.Tryz.func7
    (ChangeSpec.witness6 (enc := enc) (C := Go.Proofs.Tryz.checked) false ⟨#[], #[.agg #[.int .u32 0, .int .u32 0, .int .u32 0, .bool false], .agg #[.slice none 0 0, .bool false], .slice none 0 0, .agg #[.int .i64 0, .slice none 0 0, .slice none 0 0, .bool false], .agg #[.int .i64 0, .slice none 0 0, .slice none 0 0, .bool false]], []⟩ 100000 (by kernel_rfl) (by kernel_rfl) (by kernel_rfl) (by kernel_rfl)) ?_
  intro W base args ds gs before hval hW _ _
  refine law_of (ts := [26, 29, 55, 57, 57]) (tb := 4) rfl rfl Go.Proofs.Tryz.underlying4 laidOut ?_ rfl ?_ (argsCons arg_peer (argsCons arg_policy (argsCons arg_actsO (argsCons arg_actO (argsCons arg_actO argsNil))))) contract (by kernel_rfl) hval hW
  · intro t ht
    simp only [List.mem_cons, List.not_mem_nil, or_false] at ht
    rcases ht with rfl | rfl | rfl | rfl | rfl
    · exact read_peer
    · exact read_policy
    · exact read_actsO
    · exact read_actO
    · exact read_actO
  · intro ds hl
    match ds, hl with
    | [d0, d1, d2, d3, d4], _ => rfl
theorem proved : Rows.RiboutCopiesSaid :=
  OpenClaim.holds_of_wide 7 Go.Proofs.Tryz.f7 rfl rfl rfl rfl rfl rfl rfl ⟨rfl, rfl, rfl, rfl, rfl⟩ rfl rfl rfl rfl rfl (by kernel_rfl) Go.Proofs.Tryz.func7 (by kernel_rfl)
    (of_decide_eq_true (by kernel_rfl)) (by unfold Func.isWrapper; first | (rw [if_pos (by decide +kernel)]; kernel_rfl) | (rw [if_neg (by decide +kernel)]; exact ⟨rfl, rfl⟩))
    (fun os started H enc _ => lifted os started H enc)
end Go.Proofs.YteogfjpaljbkoaaGreat.riboutCopies
#print axioms Go.Proofs.YteogfjpaljbkoaaGreat.riboutCopies.proved
