/- RiboutHeard: for every input the law returns true, and the input reads as it did. No conditions. -/
import Derived.Test.YteogfjpaljbkoaaGreatKH6
set_option linter.unusedVariables false
set_option linter.unusedSimpArgs false
namespace Go.Proofs.YteogfjpaljbkoaaGreat.riboutHeard
open Go.RowKit Go.ChangeShapes Go.WideShapes
open Go.Proofs.Tryz (prog)
attribute [local irreducible] CallV RoundV

theorem contract : ∀ x : Policy × List (List Route) × Unit, PCon prog 8 [encPo false x.1, encRtss x.2.1] (.bool true) := fun x => heard26_ok x.1 x.2.1
set_option maxRecDepth 100000 in
theorem lifted (os : Os) (started : os.Started) (H : Type) (enc : TypeId × Value → H) :
    ReturnsInHanded {} Go.Proofs.Tryz.checked os 8 .any (Rows.riboutHeardSpec.pre6 enc prog Go.Proofs.Tryz.f8 Rows.riboutHeardRow.domain false) (Rows.riboutHeardSpec.post enc prog Go.Proofs.Tryz.f8 false true false false) := by
  refine returnsInHanded_of_change (C := Go.Proofs.Tryz.checked) own started (by kernel_rfl) Go.Proofs.Tryz.func8
    (ChangeSpec.witness6 (enc := enc) (C := Go.Proofs.Tryz.checked) false ⟨#[], #[.agg #[.slice none 0 0, .bool false], .slice none 0 0], []⟩ 100000 (by kernel_rfl) (by kernel_rfl) (by kernel_rfl) (by kernel_rfl)) ?_
  intro W base args ds gs before hval hW _ _
  refine law_of (ts := [29, 77]) (tb := 4) rfl rfl Go.Proofs.Tryz.underlying4 laidOut ?_ rfl ?_ (argsCons arg_policy (argsCons arg_routess argsNil)) contract (by kernel_rfl) hval hW
  · intro t ht
    simp only [List.mem_cons, List.not_mem_nil, or_false] at ht
    rcases ht with rfl | rfl
    · exact read_policy
    · exact read_routess
  · intro ds hl
    match ds, hl with
    | [d0, d1], _ => rfl
theorem proved : Rows.RiboutHeardSaid :=
  OpenClaim.holds_of_wide 8 Go.Proofs.Tryz.f8 rfl rfl rfl rfl rfl rfl rfl ⟨rfl, rfl, rfl, rfl, rfl⟩ rfl rfl rfl rfl rfl (by kernel_rfl) Go.Proofs.Tryz.func8 (by kernel_rfl)
    (of_decide_eq_true (by kernel_rfl)) (by unfold Func.isWrapper; first | (rw [if_pos (by decide +kernel)]; kernel_rfl) | (rw [if_neg (by decide +kernel)]; exact ⟨rfl, rfl⟩))
    (fun os started H enc _ => lifted os started H enc)
end Go.Proofs.YteogfjpaljbkoaaGreat.riboutHeard
#print axioms Go.Proofs.YteogfjpaljbkoaaGreat.riboutHeard.proved
