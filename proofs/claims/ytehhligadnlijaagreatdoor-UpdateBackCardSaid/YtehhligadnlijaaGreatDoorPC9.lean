/- UpdateBack: for every input the law returns true, and the input reads as it did; the listed variables are tied to the program's text. No conditions. -/
import Derived.Test.YtehhligadnlijaaGreatDoorK6
set_option linter.unusedVariables false
set_option linter.unusedSimpArgs false
namespace Go.Proofs.YtehhligadnlijaaGreatDoor.updateBack
open Go.RowKit Go.ChangeShapes Go.WideShapes
open Go.Proofs.Tryz (prog)
attribute [local irreducible] CallV RoundV

theorem contract : ∀ x : Upd × List UInt8 × Prefix × Prefix × Prefix × Unit, PCon prog 11 [encU false x.1, encB false x.2.1, encP x.2.2.1, encP x.2.2.2.1, encP x.2.2.2.2.1] (.bool true) := fun x => back20_ok x.1 x.2.1 x.2.2.1 x.2.2.2.1 x.2.2.2.2.1 
set_option maxRecDepth 100000 in
theorem lifted (os : Os) (started : os.Started) (H : Type) (enc : TypeId × Value → H) :
    ReturnsInHanded {} Go.Proofs.Tryz.checked os 11 .any (fun w args => (Rows.updateBackSpec.pre enc prog Go.Proofs.Tryz.f11 Rows.updateBackRow.domain false w args ∧ laidMetH prog laidL w) ∧ sizedMet enc prog Go.Proofs.Tryz.f11 (OpenSpec.ofChange Rows.updateBackSpec) false w args)
      (Rows.updateBackSpec.post enc prog Go.Proofs.Tryz.f11 false true false false) := by
  refine returnsInHanded_laid (C := Go.Proofs.Tryz.checked) (X := fun w _ => laidMetH prog laidL w) (fun _ _ _ hh h => h.of_heap hh) own started (by kernel_rfl) Go.Proofs.Tryz.func11
    (ChangeSpec.witness_shaped (enc := enc) (C := Go.Proofs.Tryz.checked) (os := os) (X := fun w _ => laidMetH prog laidL w) false (World.laidAll prog os laidL) #[.agg #[.slice none 0 0, .slice none 0 0, .int .u8 0, .slice none 0 0, .int .u32 0, .bool false, .int .u32 0, .bool false, .int .u32 0, .slice none 0 0], .slice none 0 0, .agg #[.int .u32 0, .int .u8 0], .agg #[.int .u32 0, .int .u8 0], .agg #[.int .u32 0, .int .u8 0]] 8 (World.laidAll_os _ _ _)
      (laid_shaped os _) (by kernel_rfl) (by kernel_rfl) (by kernel_rfl) (door_met os _)) ?_
  intro W base args ds gs before hval hW hL hS
  refine law_of (ts := [47, 50, 24, 24, 24]) (tb := 4) rfl rfl Go.Proofs.Tryz.underlying4 laidOut ?_ rfl ?_ (argsCons arg_update (argsCons arg_bytes (argsCons arg_prefix (argsCons arg_prefix (argsCons arg_prefix argsNil))))) contract (by kernel_rfl) hval hW (glOk hL hS)
  · intro t ht
    simp only [List.mem_cons, List.not_mem_nil, or_false] at ht
    rcases ht with rfl | rfl | rfl | rfl | rfl
    · exact read_update
    · exact read_bytes
    · exact read_prefix
    · exact read_prefix
    · exact read_prefix
  · intro ds hl
    match ds, hl with
    | [d0, d1, d2, d3, d4], _ => rfl
theorem said : Rows.UpdateBackSaid :=
  OpenClaim.holds_of_wide 11 Go.Proofs.Tryz.f11 rfl rfl rfl rfl rfl rfl rfl ⟨rfl, rfl, rfl, rfl, rfl⟩ rfl rfl rfl rfl rfl (by kernel_rfl) Go.Proofs.Tryz.func11 (by kernel_rfl)
    (of_decide_eq_true (by kernel_rfl)) (by unfold Func.isWrapper; first | (rw [if_pos (by decide +kernel)]; kernel_rfl) | (rw [if_neg (by decide +kernel)]; exact ⟨rfl, rfl⟩))
    (fun os started H enc _ => lifted os started H enc)
theorem proved : Rows.UpdateBackCardSaid :=
  Claim7.holds_tied_plain_at .later [] [.data, .data, .data, .data, .sentinel, .sentinel, .pinned] true (true, "761eb24bbb9ac2e0483e2a012c316be60dfb99fa6215e90850bc376ae8a5f1e0") true
    said (fun _ h => by cases h) (by kernel_rfl) (fun _ h => by cases h) updateBack_row_tie rfl ⟨rfl, rfl⟩ (by kernel_rfl) rfl
    (fun f fn hf hfn => by
      obtain rfl : f = 11 := Option.some.inj ((show prog.funcNamed "pursuivant/pursuivantlaw20.UpdateBack" = some 11 by kernel_rfl).symm.trans hf) |>.symm
      obtain rfl : fn = Go.Proofs.Tryz.f11 := (Option.some.inj (Go.Proofs.Tryz.func11.symm.trans hfn)).symm
      exact ⟨by kernel_rfl, fun j t ht => by
        rw [Go.Proofs.Tryz.params11] at ht
        have hm : t ∈ [47, 50, 24, 24, 24] := by simpa using Array.mem_of_getElem? ht
        have hall : ([47, 50, 24, 24, 24].all fun u => !prog.wantsStandIn u) = true := by kernel_rfl
        exact (show prog.wantsStandIn t = false by simpa using List.all_eq_true.1 hall t hm)⟩)
    (by kernel_rfl)
end Go.Proofs.YtehhligadnlijaaGreatDoor.updateBack
#print axioms Go.Proofs.YtehhligadnlijaaGreatDoor.updateBack.proved
