/- RibinCopies: for every input the law returns true, and the input reads as it did. No conditions. -/
import Derived.Test.YtfaglgoanmcifaaGreatK6
set_option linter.unusedVariables false
set_option linter.unusedSimpArgs false
namespace Go.Proofs.YtfaglgoanmcifaaGreat.ribinCopies
open Go.RowKit Go.ChangeShapes Go.WideShapes
open Go.Proofs.Tryz (prog)
attribute [local irreducible] CallV RoundV

theorem contract : ∀ x : Peer × Policy × List ActL × ActL × ActL × Unit, PCon prog 8 [encPe x.1, encPo false x.2.1, encActs false x.2.2.1, encAct false x.2.2.2.1, encAct false x.2.2.2.2.1] (.bool true) := fun x => copies24_ok x.1 x.2.1 x.2.2.1 x.2.2.2.1 x.2.2.2.2.1
set_option maxRecDepth 100000 in
theorem lifted (os : Os) (started : os.Started) (H : Type) (enc : TypeId × Value → H) :
    ReturnsInHanded {} Go.Proofs.Tryz.checked os 8 .any (Rows.ribinCopiesSpec.pre6 enc prog Go.Proofs.Tryz.f8 Rows.ribinCopiesRow.domain false) (Rows.ribinCopiesSpec.post enc prog Go.Proofs.Tryz.f8 false true false false) := by
  refine returnsInHanded_of_change (C := Go.Proofs.Tryz.checked) own started (by kernel_rfl) Go.Proofs.Tryz.func8
    (ChangeSpec.witness6 (enc := enc) (C := Go.Proofs.Tryz.checked) false ⟨#[], #[.agg #[.int .u32 0, .int .u32 0, .int .u32 0, .bool false], .agg #[.slice none 0 0, .bool false], .slice none 0 0, .agg #[.int .i64 0, .slice none 0 0, .slice none 0 0, .int .u8 0, .slice none 0 0, .int .u32 0, .bool false, .int .u32 0, .bool false, .int .u32 0, .slice none 0 0, .slice none 0 0, .bool false], .agg #[.int .i64 0, .slice none 0 0, .slice none 0 0, .int .u8 0, .slice none 0 0, .int .u32 0, .bool false, .int .u32 0, .bool false, .int .u32 0, .slice none 0 0, .slice none 0 0, .bool false]], []⟩ 100000 (by kernel_rfl) (by kernel_rfl) (by kernel_rfl) (by kernel_rfl)) ?_
  intro W base args ds gs before hval hW _ _
  refine law_of (ts := [45, 33, 36, 35, 35]) (tb := 4) rfl rfl Go.Proofs.Tryz.underlying4 laidOut ?_ rfl ?_ (argsCons arg_peer (argsCons arg_policy (argsCons arg_acts (argsCons arg_act (argsCons arg_act argsNil))))) contract (by kernel_rfl) hval hW
  · intro t ht
    simp only [List.mem_cons, List.not_mem_nil, or_false] at ht
    rcases ht with rfl | rfl | rfl | rfl | rfl
    · exact read_peer
    · exact read_policy
    · exact read_acts
    · exact read_act
    · exact read_act
  · intro ds hl
    match ds, hl with
    | [d0, d1, d2, d3, d4], _ => rfl
theorem proved : Rows.RibinCopiesSaid :=
  OpenClaim.holds_of_wide 8 Go.Proofs.Tryz.f8 rfl rfl rfl rfl rfl rfl rfl ⟨rfl, rfl, rfl, rfl, rfl⟩ rfl rfl rfl rfl rfl (by kernel_rfl) Go.Proofs.Tryz.func8 (by kernel_rfl)
    (of_decide_eq_true (by kernel_rfl)) (by unfold Func.isWrapper; first | (rw [if_pos (by decide +kernel)]; kernel_rfl) | (rw [if_neg (by decide +kernel)]; exact ⟨rfl, rfl⟩))
    (fun os started H enc _ => lifted os started H enc)
end Go.Proofs.YtfaglgoanmcifaaGreat.ribinCopies
#print axioms Go.Proofs.YtfaglgoanmcifaaGreat.ribinCopies.proved
