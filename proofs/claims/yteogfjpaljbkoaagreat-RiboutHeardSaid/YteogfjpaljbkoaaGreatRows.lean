/-
  No cell of these rows narrows 'for every input' (looked for: loops, veiled, ifaces, maps, wideKeys, modest, calm, conditions, laid).
  DERIVED. THE GIVEN ROWS OF THIS SEAT. 6 by the template 'for every input the law returns true; each argument reads behind the call as it read before'; 0 by the template 'total and deterministic' (their statements: YteogfjpaljbkoaaGreatTotals.lean).
  GIVEN WITH THE SEED: the statements are not yours to turn. If you find one false, say at which input.
  Laid BY PROGRAM, IN A SANDBOX (cutbox-rows.mjs): the forced cells as the released guide's own fill.sh prints them over the translation fc3384a4db81a9d6… (all of the seat's roots in one cut). By AI agents, Wed Nov 11 2026. No macro, syntax, notation, axiom, sorry.
-/
import Derived.Test.YteogfjpaljbkoaaGreatChecked
import GoSem.Claim
import GoSem.ClaimJoined
import GoSem.ClaimMapViews
import Derived.JoinedTies
import Derived.KernelRfl
namespace Go.Proofs.YteogfjpaljbkoaaGreat
/- THE CELL 'sum', in the pinned program and in every row, IS THE sha256 OF THE DUMP (.gsa) THAT YteogfjpaljbkoaaGreatProg.lean LOADS. Nothing in Lean hashes anything: it is a label: what it is worth is what the hold of that sum in a sandbox is worth. -/
noncomputable def Tryz.pinned : Pinned := { name := "yteogfjpaljbkoaagreat", sum := "fc3384a4db81a9d667c49119039ab3a55b815415b4ab3706f357bd9aa88cf019", checked := Tryz.checked }
namespace Rows
def none {H : Type} : Left H := { results := [], args := [] }

/-- 'pursuivantlaw26.RiboutSays': WHATEVER THE INPUT: true; the input reads as it did. -/
def riboutSaysSpec : ChangeSpec := { name := "riboutSays", fn := fun _ => fun
  | [d1, d2, d3, d4] => { results := [.lit (.bool true)], args := [d1, d2, d3, d4] }
  | _ => none }
def riboutSaysRow : OpenClaim := { program := "yteogfjpaljbkoaagreat", sum := "fc3384a4db81a9d667c49119039ab3a55b815415b4ab3706f357bd9aa88cf019", func := "pursuivant/pursuivantlaw26.RiboutSays", spec := "riboutSays", inPlace := ["slices.overlaps[uint32]", "slices.overlaps[pursuivant/api.Leg]"], unfollowed := true, recurses := true, plainKeys := false, apart := false }
def RiboutSaysSaid : Prop := riboutSaysRow.holds Tryz.pinned (OpenSpec.ofChange riboutSaysSpec)

/-- ITS FALSE NEIGHBOUR: 'it returns false'. Refute it at one input. -/
def riboutSaysWrong : ChangeSpec := { name := "riboutSays", fn := fun _ => fun
  | [d1, d2, d3, d4] => { results := [.lit (.bool false)], args := [d1, d2, d3, d4] }
  | _ => none }
def RiboutSaysWrongFalsely : Prop := riboutSaysRow.holds Tryz.pinned (OpenSpec.ofChange riboutSaysWrong)

/-- 'pursuivantlaw26.RiboutPlays': WHATEVER THE INPUT: true; the input reads as it did. -/
def riboutPlaysSpec : ChangeSpec := { name := "riboutPlays", fn := fun _ => fun
  | [d1, d2, d3, d4] => { results := [.lit (.bool true)], args := [d1, d2, d3, d4] }
  | _ => none }
def riboutPlaysRow : OpenClaim := { program := "yteogfjpaljbkoaagreat", sum := "fc3384a4db81a9d667c49119039ab3a55b815415b4ab3706f357bd9aa88cf019", func := "pursuivant/pursuivantlaw26.RiboutPlays", spec := "riboutPlays", inPlace := ["slices.overlaps[uint32]", "slices.overlaps[pursuivant/api.Leg]", "maps.clone"], unfollowed := true, recurses := true, plainKeys := false, apart := false }
def RiboutPlaysSaid : Prop := riboutPlaysRow.holds Tryz.pinned (OpenSpec.ofChange riboutPlaysSpec)

/-- ITS FALSE NEIGHBOUR: 'it returns false'. Refute it at one input. -/
def riboutPlaysWrong : ChangeSpec := { name := "riboutPlays", fn := fun _ => fun
  | [d1, d2, d3, d4] => { results := [.lit (.bool false)], args := [d1, d2, d3, d4] }
  | _ => none }
def RiboutPlaysWrongFalsely : Prop := riboutPlaysRow.holds Tryz.pinned (OpenSpec.ofChange riboutPlaysWrong)

/-- 'pursuivantlaw26.RiboutMany': WHATEVER THE INPUT: true; the input reads as it did. -/
def riboutManySpec : ChangeSpec := { name := "riboutMany", fn := fun _ => fun
  | [d1, d2, d3] => { results := [.lit (.bool true)], args := [d1, d2, d3] }
  | _ => none }
def riboutManyRow : OpenClaim := { program := "yteogfjpaljbkoaagreat", sum := "fc3384a4db81a9d667c49119039ab3a55b815415b4ab3706f357bd9aa88cf019", func := "pursuivant/pursuivantlaw26.RiboutMany", spec := "riboutMany", inPlace := ["slices.overlaps[uint32]", "slices.overlaps[pursuivant/api.Leg]", "maps.clone"], unfollowed := true, recurses := true, plainKeys := false, apart := false }
def RiboutManySaid : Prop := riboutManyRow.holds Tryz.pinned (OpenSpec.ofChange riboutManySpec)

/-- ITS FALSE NEIGHBOUR: 'it returns false'. Refute it at one input. -/
def riboutManyWrong : ChangeSpec := { name := "riboutMany", fn := fun _ => fun
  | [d1, d2, d3] => { results := [.lit (.bool false)], args := [d1, d2, d3] }
  | _ => none }
def RiboutManyWrongFalsely : Prop := riboutManyRow.holds Tryz.pinned (OpenSpec.ofChange riboutManyWrong)

/-- 'pursuivantlaw26.RiboutMakes': WHATEVER THE INPUT: true; the input reads as it did. -/
def riboutMakesSpec : ChangeSpec := { name := "riboutMakes", fn := fun _ => fun
  | [d1, d2, d3] => { results := [.lit (.bool true)], args := [d1, d2, d3] }
  | _ => none }
def riboutMakesRow : OpenClaim := { program := "yteogfjpaljbkoaagreat", sum := "fc3384a4db81a9d667c49119039ab3a55b815415b4ab3706f357bd9aa88cf019", func := "pursuivant/pursuivantlaw26.RiboutMakes", spec := "riboutMakes", inPlace := ["slices.overlaps[uint32]", "slices.overlaps[pursuivant/api.Leg]", "maps.clone"], unfollowed := true, recurses := true, plainKeys := false, apart := false }
def RiboutMakesSaid : Prop := riboutMakesRow.holds Tryz.pinned (OpenSpec.ofChange riboutMakesSpec)

/-- ITS FALSE NEIGHBOUR: 'it returns false'. Refute it at one input. -/
def riboutMakesWrong : ChangeSpec := { name := "riboutMakes", fn := fun _ => fun
  | [d1, d2, d3] => { results := [.lit (.bool false)], args := [d1, d2, d3] }
  | _ => none }
def RiboutMakesWrongFalsely : Prop := riboutMakesRow.holds Tryz.pinned (OpenSpec.ofChange riboutMakesWrong)

/-- 'pursuivantlaw26.RiboutCopies': WHATEVER THE INPUT: true; the input reads as it did. -/
def riboutCopiesSpec : ChangeSpec := { name := "riboutCopies", fn := fun _ => fun
  | [d1, d2, d3, d4, d5] => { results := [.lit (.bool true)], args := [d1, d2, d3, d4, d5] }
  | _ => none }
def riboutCopiesRow : OpenClaim := { program := "yteogfjpaljbkoaagreat", sum := "fc3384a4db81a9d667c49119039ab3a55b815415b4ab3706f357bd9aa88cf019", func := "pursuivant/pursuivantlaw26.RiboutCopies", spec := "riboutCopies", inPlace := ["slices.overlaps[uint32]", "slices.overlaps[pursuivant/api.Leg]", "maps.clone"], unfollowed := true, recurses := true, plainKeys := false, apart := false }
def RiboutCopiesSaid : Prop := riboutCopiesRow.holds Tryz.pinned (OpenSpec.ofChange riboutCopiesSpec)

/-- ITS FALSE NEIGHBOUR: 'it returns false'. Refute it at one input. -/
def riboutCopiesWrong : ChangeSpec := { name := "riboutCopies", fn := fun _ => fun
  | [d1, d2, d3, d4, d5] => { results := [.lit (.bool false)], args := [d1, d2, d3, d4, d5] }
  | _ => none }
def RiboutCopiesWrongFalsely : Prop := riboutCopiesRow.holds Tryz.pinned (OpenSpec.ofChange riboutCopiesWrong)

/-- 'pursuivantlaw26.RiboutHeard': WHATEVER THE INPUT: true; the input reads as it did. -/
def riboutHeardSpec : ChangeSpec := { name := "riboutHeard", fn := fun _ => fun
  | [d1, d2] => { results := [.lit (.bool true)], args := [d1, d2] }
  | _ => none }
def riboutHeardRow : OpenClaim := { program := "yteogfjpaljbkoaagreat", sum := "fc3384a4db81a9d667c49119039ab3a55b815415b4ab3706f357bd9aa88cf019", func := "pursuivant/pursuivantlaw26.RiboutHeard", spec := "riboutHeard", inPlace := ["slices.overlaps[uint32]", "slices.overlaps[pursuivant/api.Leg]", "maps.clone"], unfollowed := true, recurses := true, plainKeys := false, apart := false }
def RiboutHeardSaid : Prop := riboutHeardRow.holds Tryz.pinned (OpenSpec.ofChange riboutHeardSpec)

/-- ITS FALSE NEIGHBOUR: 'it returns false'. Refute it at one input. -/
def riboutHeardWrong : ChangeSpec := { name := "riboutHeard", fn := fun _ => fun
  | [d1, d2] => { results := [.lit (.bool false)], args := [d1, d2] }
  | _ => none }
def RiboutHeardWrongFalsely : Prop := riboutHeardRow.holds Tryz.pinned (OpenSpec.ofChange riboutHeardWrong)

/- THE SECOND FORM. 'bulk': how many values and letters a reading holds, each counted each time it is reached (what is shared counts as often as it is met; a slice's spare places count too). A statement '..UptoSaid' is the law's where the arguments, and the package variables that the reading takes, are together of bulk at most 1048576: NARROWER than '..Said'. Prove '..Said' where nothing that the law and all that it calls make is longer than what came in: it says more and counts as full. Else prove '..UptoSaid'. A law counts once. -/
mutual
def uptoBulk {H : Type} : DataW H → Nat
  | .lit (.string bytes) => bytes.length + 1
  | .lit _ => 1
  | .nil => 1
  | .ptr d => uptoBulk d + 1
  | .slice elems spare => uptoBulkAll elems + uptoBulkAll spare + 1
  | .agg parts => uptoBulkAll parts + 1
  | .iface _ d => uptoBulk d + 1
  | .map entries => uptoBulkEntries entries + 1
  | .held _ => 1
def uptoBulkAll {H : Type} : List (DataW H) → Nat
  | [] => 0
  | d :: r => uptoBulk d + uptoBulkAll r
def uptoBulkEntries {H : Type} : List (Lit × DataW H) → Nat
  | [] => 0
  | x :: r => uptoBulkEntry x + uptoBulkEntries r
def uptoBulkEntry {H : Type} : Lit × DataW H → Nat
  | (.string bytes, d) => bytes.length + uptoBulk d + 1
  | (_, d) => uptoBulk d + 1
 end
def uptoSmall : (H : Type) → List (DataW H) → Bool := fun _ ds => decide (uptoBulkAll ds ≤ 1048576)
def OpenSpec.upto (s : _root_.Go.ChangeSpec) : _root_.Go.OpenSpec := { _root_.Go.OpenSpec.ofChange s with cond := some uptoSmall }

/-- 'pursuivantlaw26.RiboutSays', WHERE WHAT IT READS IS OF BULK AT MOST 1048576: true; the input reads as it did. -/
def riboutSaysUptoRow : OpenClaim := { program := "yteogfjpaljbkoaagreat", sum := "fc3384a4db81a9d667c49119039ab3a55b815415b4ab3706f357bd9aa88cf019", func := "pursuivant/pursuivantlaw26.RiboutSays", spec := "riboutSays", inPlace := ["slices.overlaps[uint32]", "slices.overlaps[pursuivant/api.Leg]"], unfollowed := true, recurses := true, plainKeys := false, apart := false, narrowed := true }
def RiboutSaysUptoSaid : Prop := riboutSaysUptoRow.holds Tryz.pinned (OpenSpec.upto riboutSaysSpec)

/-- 'pursuivantlaw26.RiboutPlays', WHERE WHAT IT READS IS OF BULK AT MOST 1048576: true; the input reads as it did. -/
def riboutPlaysUptoRow : OpenClaim := { program := "yteogfjpaljbkoaagreat", sum := "fc3384a4db81a9d667c49119039ab3a55b815415b4ab3706f357bd9aa88cf019", func := "pursuivant/pursuivantlaw26.RiboutPlays", spec := "riboutPlays", inPlace := ["slices.overlaps[uint32]", "slices.overlaps[pursuivant/api.Leg]", "maps.clone"], unfollowed := true, recurses := true, plainKeys := false, apart := false, narrowed := true }
def RiboutPlaysUptoSaid : Prop := riboutPlaysUptoRow.holds Tryz.pinned (OpenSpec.upto riboutPlaysSpec)

/-- 'pursuivantlaw26.RiboutMany', WHERE WHAT IT READS IS OF BULK AT MOST 1048576: true; the input reads as it did. -/
def riboutManyUptoRow : OpenClaim := { program := "yteogfjpaljbkoaagreat", sum := "fc3384a4db81a9d667c49119039ab3a55b815415b4ab3706f357bd9aa88cf019", func := "pursuivant/pursuivantlaw26.RiboutMany", spec := "riboutMany", inPlace := ["slices.overlaps[uint32]", "slices.overlaps[pursuivant/api.Leg]", "maps.clone"], unfollowed := true, recurses := true, plainKeys := false, apart := false, narrowed := true }
def RiboutManyUptoSaid : Prop := riboutManyUptoRow.holds Tryz.pinned (OpenSpec.upto riboutManySpec)

/-- 'pursuivantlaw26.RiboutMakes', WHERE WHAT IT READS IS OF BULK AT MOST 1048576: true; the input reads as it did. -/
def riboutMakesUptoRow : OpenClaim := { program := "yteogfjpaljbkoaagreat", sum := "fc3384a4db81a9d667c49119039ab3a55b815415b4ab3706f357bd9aa88cf019", func := "pursuivant/pursuivantlaw26.RiboutMakes", spec := "riboutMakes", inPlace := ["slices.overlaps[uint32]", "slices.overlaps[pursuivant/api.Leg]", "maps.clone"], unfollowed := true, recurses := true, plainKeys := false, apart := false, narrowed := true }
def RiboutMakesUptoSaid : Prop := riboutMakesUptoRow.holds Tryz.pinned (OpenSpec.upto riboutMakesSpec)

/-- 'pursuivantlaw26.RiboutCopies', WHERE WHAT IT READS IS OF BULK AT MOST 1048576: true; the input reads as it did. -/
def riboutCopiesUptoRow : OpenClaim := { program := "yteogfjpaljbkoaagreat", sum := "fc3384a4db81a9d667c49119039ab3a55b815415b4ab3706f357bd9aa88cf019", func := "pursuivant/pursuivantlaw26.RiboutCopies", spec := "riboutCopies", inPlace := ["slices.overlaps[uint32]", "slices.overlaps[pursuivant/api.Leg]", "maps.clone"], unfollowed := true, recurses := true, plainKeys := false, apart := false, narrowed := true }
def RiboutCopiesUptoSaid : Prop := riboutCopiesUptoRow.holds Tryz.pinned (OpenSpec.upto riboutCopiesSpec)

/-- 'pursuivantlaw26.RiboutHeard', WHERE WHAT IT READS IS OF BULK AT MOST 1048576: true; the input reads as it did. -/
def riboutHeardUptoRow : OpenClaim := { program := "yteogfjpaljbkoaagreat", sum := "fc3384a4db81a9d667c49119039ab3a55b815415b4ab3706f357bd9aa88cf019", func := "pursuivant/pursuivantlaw26.RiboutHeard", spec := "riboutHeard", inPlace := ["slices.overlaps[uint32]", "slices.overlaps[pursuivant/api.Leg]", "maps.clone"], unfollowed := true, recurses := true, plainKeys := false, apart := false, narrowed := true }
def RiboutHeardUptoSaid : Prop := riboutHeardUptoRow.holds Tryz.pinned (OpenSpec.upto riboutHeardSpec)

end Rows
end Go.Proofs.YteogfjpaljbkoaaGreat
