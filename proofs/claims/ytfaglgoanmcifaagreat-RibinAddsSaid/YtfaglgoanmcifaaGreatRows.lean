/-
  No cell of these rows narrows 'for every input' (looked for: loops, veiled, ifaces, maps, wideKeys, modest, calm, conditions, laid).
  DERIVED. THE GIVEN ROWS OF THIS SEAT. 6 by the template 'for every input the law returns true; each argument reads behind the call as it read before'; 0 by the template 'total and deterministic' (their statements: YtfaglgoanmcifaaGreatTotals.lean).
  GIVEN WITH THE SEED: the statements are not yours to turn. If you find one false, say at which input.
  Laid BY PROGRAM, IN A SANDBOX (cutbox-rows.mjs): the forced cells as the released guide's own fill.sh prints them over the translation 33df7680e2b527d8… (all of the seat's roots in one cut). By AI agents, Wed Nov 11 2026. No macro, syntax, notation, axiom, sorry.
-/
import Derived.Test.YtfaglgoanmcifaaGreatChecked
import GoSem.Claim
import GoSem.ClaimJoined
import GoSem.ClaimMapViews
import Derived.JoinedTies
import Derived.KernelRfl
namespace Go.Proofs.YtfaglgoanmcifaaGreat
/- THE CELL 'sum', in the pinned program and in every row, IS THE sha256 OF THE DUMP (.gsa) THAT YtfaglgoanmcifaaGreatProg.lean LOADS. Nothing in Lean hashes anything: it is a label: what it is worth is what the hold of that sum in a sandbox is worth. -/
noncomputable def Tryz.pinned : Pinned := { name := "ytfaglgoanmcifaagreat", sum := "33df7680e2b527d8481ddf7a92671567722638afdc5f8cd6ab1f8927d4f945d6", checked := Tryz.checked }
namespace Rows
def none {H : Type} : Left H := { results := [], args := [] }

/-- 'pursuivantlaw24.RibinLeaves': WHATEVER THE INPUT: true; the input reads as it did. -/
def ribinLeavesSpec : ChangeSpec := { name := "ribinLeaves", fn := fun _ => fun
  | [d1, d2, d3] => { results := [.lit (.bool true)], args := [d1, d2, d3] }
  | _ => none }
def ribinLeavesRow : OpenClaim := { program := "ytfaglgoanmcifaagreat", sum := "33df7680e2b527d8481ddf7a92671567722638afdc5f8cd6ab1f8927d4f945d6", func := "pursuivant/pursuivantlaw24.RibinLeaves", spec := "ribinLeaves", inPlace := ["maps.clone", "slices.overlaps[uint32]", "slices.overlaps[pursuivant/api.Leg]"], unfollowed := true, recurses := true, plainKeys := false, apart := false }
def RibinLeavesSaid : Prop := ribinLeavesRow.holds Tryz.pinned (OpenSpec.ofChange ribinLeavesSpec)

/-- ITS FALSE NEIGHBOUR: 'it returns false'. Refute it at one input. -/
def ribinLeavesWrong : ChangeSpec := { name := "ribinLeaves", fn := fun _ => fun
  | [d1, d2, d3] => { results := [.lit (.bool false)], args := [d1, d2, d3] }
  | _ => none }
def RibinLeavesWrongFalsely : Prop := ribinLeavesRow.holds Tryz.pinned (OpenSpec.ofChange ribinLeavesWrong)

/-- 'pursuivantlaw24.RibinPlays': WHATEVER THE INPUT: true; the input reads as it did. -/
def ribinPlaysSpec : ChangeSpec := { name := "ribinPlays", fn := fun _ => fun
  | [d1, d2, d3, d4] => { results := [.lit (.bool true)], args := [d1, d2, d3, d4] }
  | _ => none }
def ribinPlaysRow : OpenClaim := { program := "ytfaglgoanmcifaagreat", sum := "33df7680e2b527d8481ddf7a92671567722638afdc5f8cd6ab1f8927d4f945d6", func := "pursuivant/pursuivantlaw24.RibinPlays", spec := "ribinPlays", inPlace := ["maps.clone", "slices.overlaps[uint32]", "slices.overlaps[pursuivant/api.Leg]"], unfollowed := true, recurses := true, plainKeys := false, apart := false }
def RibinPlaysSaid : Prop := ribinPlaysRow.holds Tryz.pinned (OpenSpec.ofChange ribinPlaysSpec)

/-- ITS FALSE NEIGHBOUR: 'it returns false'. Refute it at one input. -/
def ribinPlaysWrong : ChangeSpec := { name := "ribinPlays", fn := fun _ => fun
  | [d1, d2, d3, d4] => { results := [.lit (.bool false)], args := [d1, d2, d3, d4] }
  | _ => none }
def RibinPlaysWrongFalsely : Prop := ribinPlaysRow.holds Tryz.pinned (OpenSpec.ofChange ribinPlaysWrong)

/-- 'pursuivantlaw24.RibinFull': WHATEVER THE INPUT: true; the input reads as it did. -/
def ribinFullSpec : ChangeSpec := { name := "ribinFull", fn := fun _ => fun
  | [d1, d2, d3] => { results := [.lit (.bool true)], args := [d1, d2, d3] }
  | _ => none }
def ribinFullRow : OpenClaim := { program := "ytfaglgoanmcifaagreat", sum := "33df7680e2b527d8481ddf7a92671567722638afdc5f8cd6ab1f8927d4f945d6", func := "pursuivant/pursuivantlaw24.RibinFull", spec := "ribinFull", inPlace := ["maps.clone", "slices.overlaps[uint32]", "slices.overlaps[pursuivant/api.Leg]"], unfollowed := true, recurses := true, plainKeys := false, apart := false }
def RibinFullSaid : Prop := ribinFullRow.holds Tryz.pinned (OpenSpec.ofChange ribinFullSpec)

/-- ITS FALSE NEIGHBOUR: 'it returns false'. Refute it at one input. -/
def ribinFullWrong : ChangeSpec := { name := "ribinFull", fn := fun _ => fun
  | [d1, d2, d3] => { results := [.lit (.bool false)], args := [d1, d2, d3] }
  | _ => none }
def RibinFullWrongFalsely : Prop := ribinFullRow.holds Tryz.pinned (OpenSpec.ofChange ribinFullWrong)

/-- 'pursuivantlaw24.RibinAdds': WHATEVER THE INPUT: true; the input reads as it did. -/
def ribinAddsSpec : ChangeSpec := { name := "ribinAdds", fn := fun _ => fun
  | [d1, d2, d3] => { results := [.lit (.bool true)], args := [d1, d2, d3] }
  | _ => none }
def ribinAddsRow : OpenClaim := { program := "ytfaglgoanmcifaagreat", sum := "33df7680e2b527d8481ddf7a92671567722638afdc5f8cd6ab1f8927d4f945d6", func := "pursuivant/pursuivantlaw24.RibinAdds", spec := "ribinAdds", inPlace := ["maps.clone", "slices.overlaps[uint32]", "slices.overlaps[pursuivant/api.Leg]"], unfollowed := true, recurses := true, plainKeys := false, apart := false }
def RibinAddsSaid : Prop := ribinAddsRow.holds Tryz.pinned (OpenSpec.ofChange ribinAddsSpec)

/-- ITS FALSE NEIGHBOUR: 'it returns false'. Refute it at one input. -/
def ribinAddsWrong : ChangeSpec := { name := "ribinAdds", fn := fun _ => fun
  | [d1, d2, d3] => { results := [.lit (.bool false)], args := [d1, d2, d3] }
  | _ => none }
def RibinAddsWrongFalsely : Prop := ribinAddsRow.holds Tryz.pinned (OpenSpec.ofChange ribinAddsWrong)

/-- 'pursuivantlaw24.RibinMakes': WHATEVER THE INPUT: true; the input reads as it did. -/
def ribinMakesSpec : ChangeSpec := { name := "ribinMakes", fn := fun _ => fun
  | [d1, d2, d3] => { results := [.lit (.bool true)], args := [d1, d2, d3] }
  | _ => none }
def ribinMakesRow : OpenClaim := { program := "ytfaglgoanmcifaagreat", sum := "33df7680e2b527d8481ddf7a92671567722638afdc5f8cd6ab1f8927d4f945d6", func := "pursuivant/pursuivantlaw24.RibinMakes", spec := "ribinMakes", inPlace := ["maps.clone", "slices.overlaps[uint32]", "slices.overlaps[pursuivant/api.Leg]"], unfollowed := true, recurses := true, plainKeys := false, apart := false }
def RibinMakesSaid : Prop := ribinMakesRow.holds Tryz.pinned (OpenSpec.ofChange ribinMakesSpec)

/-- ITS FALSE NEIGHBOUR: 'it returns false'. Refute it at one input. -/
def ribinMakesWrong : ChangeSpec := { name := "ribinMakes", fn := fun _ => fun
  | [d1, d2, d3] => { results := [.lit (.bool false)], args := [d1, d2, d3] }
  | _ => none }
def RibinMakesWrongFalsely : Prop := ribinMakesRow.holds Tryz.pinned (OpenSpec.ofChange ribinMakesWrong)

/-- 'pursuivantlaw24.RibinCopies': WHATEVER THE INPUT: true; the input reads as it did. -/
def ribinCopiesSpec : ChangeSpec := { name := "ribinCopies", fn := fun _ => fun
  | [d1, d2, d3, d4, d5] => { results := [.lit (.bool true)], args := [d1, d2, d3, d4, d5] }
  | _ => none }
def ribinCopiesRow : OpenClaim := { program := "ytfaglgoanmcifaagreat", sum := "33df7680e2b527d8481ddf7a92671567722638afdc5f8cd6ab1f8927d4f945d6", func := "pursuivant/pursuivantlaw24.RibinCopies", spec := "ribinCopies", inPlace := ["maps.clone", "slices.overlaps[uint32]", "slices.overlaps[pursuivant/api.Leg]"], unfollowed := true, recurses := true, plainKeys := false, apart := false }
def RibinCopiesSaid : Prop := ribinCopiesRow.holds Tryz.pinned (OpenSpec.ofChange ribinCopiesSpec)

/-- ITS FALSE NEIGHBOUR: 'it returns false'. Refute it at one input. -/
def ribinCopiesWrong : ChangeSpec := { name := "ribinCopies", fn := fun _ => fun
  | [d1, d2, d3, d4, d5] => { results := [.lit (.bool false)], args := [d1, d2, d3, d4, d5] }
  | _ => none }
def RibinCopiesWrongFalsely : Prop := ribinCopiesRow.holds Tryz.pinned (OpenSpec.ofChange ribinCopiesWrong)

/- THE SECOND FORM. 'bulk': how many values and letters a reading holds, each counted each time it is reached (what is shared counts as often as it is met; a slice's spare places count too). A statement '..UptoSaid' is the law's where the arguments, and the package variables that the reading takes, are together of bulk at most 1048576: NARROWER than '..Said'. Prove '..Said' where nothing that the law and all that it calls make is longer than what came in: it says more and counts as full. Else prove '..UptoSaid'. A law counts once. -/
mutual
def uptoBulk {H : Type} : DataW H → Nat
  | .lit (.string bytes) => bytes.length + 1
  | .lit _ => 1
  | .nil => 1
  | .ptr d => uptoBulk d + 1
  | .slice elems spare => uptoBulkAll elems + uptoBulkAll spare + 1
  | .agg parts => uptoBulkAll parts + 1
  | .iface _ d => uptoBulk d + 1
  | .map entries => uptoBulkEntries entries + 1
  | .held _ => 1
def uptoBulkAll {H : Type} : List (DataW H) → Nat
  | [] => 0
  | d :: r => uptoBulk d + uptoBulkAll r
def uptoBulkEntries {H : Type} : List (Lit × DataW H) → Nat
  | [] => 0
  | x :: r => uptoBulkEntry x + uptoBulkEntries r
def uptoBulkEntry {H : Type} : Lit × DataW H → Nat
  | (.string bytes, d) => bytes.length + uptoBulk d + 1
  | (_, d) => uptoBulk d + 1
 end
def uptoSmall : (H : Type) → List (DataW H) → Bool := fun _ ds => decide (uptoBulkAll ds ≤ 1048576)
def OpenSpec.upto (s : _root_.Go.ChangeSpec) : _root_.Go.OpenSpec := { _root_.Go.OpenSpec.ofChange s with cond := some uptoSmall }

/-- 'pursuivantlaw24.RibinLeaves', WHERE WHAT IT READS IS OF BULK AT MOST 1048576: true; the input reads as it did. -/
def ribinLeavesUptoRow : OpenClaim := { program := "ytfaglgoanmcifaagreat", sum := "33df7680e2b527d8481ddf7a92671567722638afdc5f8cd6ab1f8927d4f945d6", func := "pursuivant/pursuivantlaw24.RibinLeaves", spec := "ribinLeaves", inPlace := ["maps.clone", "slices.overlaps[uint32]", "slices.overlaps[pursuivant/api.Leg]"], unfollowed := true, recurses := true, plainKeys := false, apart := false, narrowed := true }
def RibinLeavesUptoSaid : Prop := ribinLeavesUptoRow.holds Tryz.pinned (OpenSpec.upto ribinLeavesSpec)

/-- 'pursuivantlaw24.RibinPlays', WHERE WHAT IT READS IS OF BULK AT MOST 1048576: true; the input reads as it did. -/
def ribinPlaysUptoRow : OpenClaim := { program := "ytfaglgoanmcifaagreat", sum := "33df7680e2b527d8481ddf7a92671567722638afdc5f8cd6ab1f8927d4f945d6", func := "pursuivant/pursuivantlaw24.RibinPlays", spec := "ribinPlays", inPlace := ["maps.clone", "slices.overlaps[uint32]", "slices.overlaps[pursuivant/api.Leg]"], unfollowed := true, recurses := true, plainKeys := false, apart := false, narrowed := true }
def RibinPlaysUptoSaid : Prop := ribinPlaysUptoRow.holds Tryz.pinned (OpenSpec.upto ribinPlaysSpec)

/-- 'pursuivantlaw24.RibinFull', WHERE WHAT IT READS IS OF BULK AT MOST 1048576: true; the input reads as it did. -/
def ribinFullUptoRow : OpenClaim := { program := "ytfaglgoanmcifaagreat", sum := "33df7680e2b527d8481ddf7a92671567722638afdc5f8cd6ab1f8927d4f945d6", func := "pursuivant/pursuivantlaw24.RibinFull", spec := "ribinFull", inPlace := ["maps.clone", "slices.overlaps[uint32]", "slices.overlaps[pursuivant/api.Leg]"], unfollowed := true, recurses := true, plainKeys := false, apart := false, narrowed := true }
def RibinFullUptoSaid : Prop := ribinFullUptoRow.holds Tryz.pinned (OpenSpec.upto ribinFullSpec)

/-- 'pursuivantlaw24.RibinAdds', WHERE WHAT IT READS IS OF BULK AT MOST 1048576: true; the input reads as it did. -/
def ribinAddsUptoRow : OpenClaim := { program := "ytfaglgoanmcifaagreat", sum := "33df7680e2b527d8481ddf7a92671567722638afdc5f8cd6ab1f8927d4f945d6", func := "pursuivant/pursuivantlaw24.RibinAdds", spec := "ribinAdds", inPlace := ["maps.clone", "slices.overlaps[uint32]", "slices.overlaps[pursuivant/api.Leg]"], unfollowed := true, recurses := true, plainKeys := false, apart := false, narrowed := true }
def RibinAddsUptoSaid : Prop := ribinAddsUptoRow.holds Tryz.pinned (OpenSpec.upto ribinAddsSpec)

/-- 'pursuivantlaw24.RibinMakes', WHERE WHAT IT READS IS OF BULK AT MOST 1048576: true; the input reads as it did. -/
def ribinMakesUptoRow : OpenClaim := { program := "ytfaglgoanmcifaagreat", sum := "33df7680e2b527d8481ddf7a92671567722638afdc5f8cd6ab1f8927d4f945d6", func := "pursuivant/pursuivantlaw24.RibinMakes", spec := "ribinMakes", inPlace := ["maps.clone", "slices.overlaps[uint32]", "slices.overlaps[pursuivant/api.Leg]"], unfollowed := true, recurses := true, plainKeys := false, apart := false, narrowed := true }
def RibinMakesUptoSaid : Prop := ribinMakesUptoRow.holds Tryz.pinned (OpenSpec.upto ribinMakesSpec)

/-- 'pursuivantlaw24.RibinCopies', WHERE WHAT IT READS IS OF BULK AT MOST 1048576: true; the input reads as it did. -/
def ribinCopiesUptoRow : OpenClaim := { program := "ytfaglgoanmcifaagreat", sum := "33df7680e2b527d8481ddf7a92671567722638afdc5f8cd6ab1f8927d4f945d6", func := "pursuivant/pursuivantlaw24.RibinCopies", spec := "ribinCopies", inPlace := ["maps.clone", "slices.overlaps[uint32]", "slices.overlaps[pursuivant/api.Leg]"], unfollowed := true, recurses := true, plainKeys := false, apart := false, narrowed := true }
def RibinCopiesUptoSaid : Prop := ribinCopiesUptoRow.holds Tryz.pinned (OpenSpec.upto ribinCopiesSpec)

end Rows
end Go.Proofs.YtfaglgoanmcifaaGreat
