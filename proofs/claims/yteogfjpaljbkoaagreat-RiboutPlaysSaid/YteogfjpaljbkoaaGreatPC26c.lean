/- RiboutPlays: for every input the law returns true, and the input reads as it did. No conditions. -/
import Derived.Test.YteogfjpaljbkoaaGreatK7
set_option linter.unusedVariables false
set_option linter.unusedSimpArgs false
namespace Go.Proofs.YteogfjpaljbkoaaGreat.riboutPlays
open Go.RowKit Go.ChangeShapes Go.WideShapes
open Go.Proofs.Tryz (prog)
attribute [local irreducible] CallV RoundV

theorem contract : ∀ x : SelfL × Peer × Policy × List ActO × Unit, PCon prog 4 [encSf x.1, encPe x.2.1, encPo false x.2.2.1, encActsO x.2.2.2.1] (.bool true) := fun x => plays26_ok x.1 x.2.1 x.2.2.1 x.2.2.2.1
set_option maxRecDepth 100000 in
theorem lifted (os : Os) (started : os.Started) (H : Type) (enc : TypeId × Value → H) :
    ReturnsInHanded {} Go.Proofs.Tryz.checked os 4 .any (Rows.riboutPlaysSpec.pre6 enc prog Go.Proofs.Tryz.f4 Rows.riboutPlaysRow.domain false) (Rows.riboutPlaysSpec.post enc prog Go.Proofs.Tryz.f4 false true false false) := by
  refine returnsInHanded_of_change (C := Go.Proofs.Tryz.checked) own started (by kernel_rfl) Go.Proofs.Tryz.func4
    (ChangeSpec.witness6 (enc := enc) (C := Go.Proofs.Tryz.checked) false ⟨#[], #[.agg #[.int .u32 0, .int .u32 0, .int .u32 0], .agg #[.int .u32 0, .int .u32 0, .int .u32 0, .bool false], .agg #[.slice none 0 0, .bool false], .slice none 0 0], []⟩ 100000 (by kernel_rfl) (by kernel_rfl) (by kernel_rfl) (by kernel_rfl)) ?_
  intro W base args ds gs before hval hW _ _
  refine law_of (ts := [24, 26, 29, 55]) (tb := 4) rfl rfl Go.Proofs.Tryz.underlying4 laidOut ?_ rfl ?_ (argsCons arg_self (argsCons arg_peer (argsCons arg_policy (argsCons arg_actsO argsNil)))) contract (by kernel_rfl) hval hW
  · intro t ht
    simp only [List.mem_cons, List.not_mem_nil, or_false] at ht
    rcases ht with rfl | rfl | rfl | rfl
    · exact read_self
    · exact read_peer
    · exact read_policy
    · exact read_actsO
  · intro ds hl
    match ds, hl with
    | [d0, d1, d2, d3], _ => rfl
theorem proved : Rows.RiboutPlaysSaid :=
  OpenClaim.holds_of_wide 4 Go.Proofs.Tryz.f4 rfl rfl rfl rfl rfl rfl rfl ⟨rfl, rfl, rfl, rfl, rfl⟩ rfl rfl rfl rfl rfl (by kernel_rfl) Go.Proofs.Tryz.func4 (by kernel_rfl)
    (of_decide_eq_true (by kernel_rfl)) (by unfold Func.isWrapper; first | (rw [if_pos (by decide +kernel)]; kernel_rfl) | (rw [if_neg (by decide +kernel)]; exact ⟨rfl, rfl⟩))
    (fun os started H enc _ => lifted os started H enc)
end Go.Proofs.YteogfjpaljbkoaaGreat.riboutPlays
#print axioms Go.Proofs.YteogfjpaljbkoaaGreat.riboutPlays.proved
