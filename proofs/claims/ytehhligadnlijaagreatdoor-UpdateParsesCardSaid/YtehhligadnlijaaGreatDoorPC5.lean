/- UpdateParses: for every input the law returns true, and the input reads as it did; the listed variables are tied to the program's text. No conditions. -/
import Derived.Test.YtehhligadnlijaaGreatDoorK7
set_option linter.unusedVariables false
set_option linter.unusedSimpArgs false
namespace Go.Proofs.YtehhligadnlijaaGreatDoor.updateParses
open Go.RowKit Go.ChangeShapes Go.WideShapes
open Go.Proofs.Tryz (prog)
attribute [local irreducible] CallV RoundV

theorem contract : ∀ x : List UInt8 × Unit, PCon prog 7 [encB false x.1] (.bool true) := fun x => parses20_ok false x.1 
set_option maxRecDepth 100000 in
theorem lifted (os : Os) (started : os.Started) (H : Type) (enc : TypeId × Value → H) :
    ReturnsInHanded {} Go.Proofs.Tryz.checked os 7 .any (fun w args => (Rows.updateParsesSpec.pre enc prog Go.Proofs.Tryz.f7 Rows.updateParsesRow.domain false w args ∧ laidMetH prog laidL w) ∧ sizedMet enc prog Go.Proofs.Tryz.f7 (OpenSpec.ofChange Rows.updateParsesSpec) false w args)
      (Rows.updateParsesSpec.post enc prog Go.Proofs.Tryz.f7 false true false false) := by
  refine returnsInHanded_laid (C := Go.Proofs.Tryz.checked) (X := fun w _ => laidMetH prog laidL w) (fun _ _ _ hh h => h.of_heap hh) own started (by kernel_rfl) Go.Proofs.Tryz.func7
    (ChangeSpec.witness_shaped (enc := enc) (C := Go.Proofs.Tryz.checked) (os := os) (X := fun w _ => laidMetH prog laidL w) false (World.laidAll prog os laidL) #[.slice none 0 0] 8 (World.laidAll_os _ _ _)
      (laid_shaped os _) (by kernel_rfl) (by kernel_rfl) (by kernel_rfl) (door_met os _)) ?_
  intro W base args ds gs before hval hW hL hS
  refine law_of (ts := [50]) (tb := 4) rfl rfl Go.Proofs.Tryz.underlying4 laidOut ?_ rfl ?_ (argsCons arg_bytes argsNil) contract (by kernel_rfl) hval hW (glOk hL hS)
  · intro t ht
    simp only [List.mem_cons, List.not_mem_nil, or_false] at ht
    rcases ht with rfl
    · exact read_bytes
  · intro ds hl
    match ds, hl with
    | [d0], _ => rfl
theorem said : Rows.UpdateParsesSaid :=
  OpenClaim.holds_of_wide 7 Go.Proofs.Tryz.f7 rfl rfl rfl rfl rfl rfl rfl ⟨rfl, rfl, rfl, rfl, rfl⟩ rfl rfl rfl rfl rfl (by kernel_rfl) Go.Proofs.Tryz.func7 (by kernel_rfl)
    (of_decide_eq_true (by kernel_rfl)) (by unfold Func.isWrapper; first | (rw [if_pos (by decide +kernel)]; kernel_rfl) | (rw [if_neg (by decide +kernel)]; exact ⟨rfl, rfl⟩))
    (fun os started H enc _ => lifted os started H enc)
theorem proved : Rows.UpdateParsesCardSaid :=
  Claim7.holds_tied_plain_at .later [] [.data, .data, .data, .data, .sentinel, .sentinel, .pinned] true (true, "761eb24bbb9ac2e0483e2a012c316be60dfb99fa6215e90850bc376ae8a5f1e0") true
    said (fun _ h => by cases h) (by kernel_rfl) (fun _ h => by cases h) updateParses_row_tie rfl ⟨rfl, rfl⟩ (by kernel_rfl) rfl
    (fun f fn hf hfn => by
      obtain rfl : f = 7 := Option.some.inj ((show prog.funcNamed "pursuivant/pursuivantlaw20.UpdateParses" = some 7 by kernel_rfl).symm.trans hf) |>.symm
      obtain rfl : fn = Go.Proofs.Tryz.f7 := (Option.some.inj (Go.Proofs.Tryz.func7.symm.trans hfn)).symm
      exact ⟨by kernel_rfl, fun j t ht => by
        rw [Go.Proofs.Tryz.params7] at ht
        have hm : t ∈ [50] := by simpa using Array.mem_of_getElem? ht
        have hall : ([50].all fun u => !prog.wantsStandIn u) = true := by kernel_rfl
        exact (show prog.wantsStandIn t = false by simpa using List.all_eq_true.1 hall t hm)⟩)
    (by kernel_rfl)
end Go.Proofs.YtehhligadnlijaaGreatDoor.updateParses
#print axioms Go.Proofs.YtehhligadnlijaaGreatDoor.updateParses.proved
