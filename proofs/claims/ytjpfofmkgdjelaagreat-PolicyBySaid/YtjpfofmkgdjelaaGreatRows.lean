/-
  No cell of these rows narrows 'for every input' (looked for: loops, veiled, ifaces, maps, wideKeys, modest, calm, conditions, laid).
  DERIVED. THE GIVEN ROWS OF THIS SEAT. 6 by the template 'for every input the law returns true; each argument reads behind the call as it read before'; 0 by the template 'total and deterministic' (their statements: YtjpfofmkgdjelaaGreatTotals.lean).
  GIVEN WITH THE SEED: the statements are not yours to turn. If you find one false, say at which input.
  Laid BY PROGRAM, IN A SANDBOX (cutbox-rows.mjs): the forced cells as the released guide's own fill.sh prints them over the translation e736df1bbbfff6ff… (all of the seat's roots in one cut). By AI agents, Wed Nov 11 2026. No macro, syntax, notation, axiom, sorry.
-/
import Derived.Test.YtjpfofmkgdjelaaGreatChecked
import GoSem.Claim
import GoSem.ClaimJoined
import GoSem.ClaimMapViews
import Derived.JoinedTies
import Derived.KernelRfl
namespace Go.Proofs.YtjpfofmkgdjelaaGreat
/- THE CELL 'sum', in the pinned program and in every row, IS THE sha256 OF THE DUMP (.gsa) THAT YtjpfofmkgdjelaaGreatProg.lean LOADS. Nothing in Lean hashes anything: it is a label: what it is worth is what the hold of that sum in a sandbox is worth. -/
noncomputable def Tryz.pinned : Pinned := { name := "ytjpfofmkgdjelaagreat", sum := "e736df1bbbfff6ffaea67f3c7863239ebaf0313990f514f1493e810d87e7e4eb", checked := Tryz.checked }
namespace Rows
def none {H : Type} : Left H := { results := [], args := [] }

/-- 'pursuivantlaw23.PolicyFits': WHATEVER THE INPUT: true; the input reads as it did. -/
def policyFitsSpec : ChangeSpec := { name := "policyFits", fn := fun _ => fun
  | [d1, d2, d3, d4] => { results := [.lit (.bool true)], args := [d1, d2, d3, d4] }
  | _ => none }
def policyFitsRow : OpenClaim := { program := "ytjpfofmkgdjelaagreat", sum := "e736df1bbbfff6ffaea67f3c7863239ebaf0313990f514f1493e810d87e7e4eb", func := "pursuivant/pursuivantlaw23.PolicyFits", spec := "policyFits", inPlace := ["slices.overlaps[uint32]", "slices.overlaps[pursuivant/api.Leg]"], unfollowed := true, recurses := true, apart := false }
def PolicyFitsSaid : Prop := policyFitsRow.holds Tryz.pinned (OpenSpec.ofChange policyFitsSpec)

/-- ITS FALSE NEIGHBOUR: 'it returns false'. Refute it at one input. -/
def policyFitsWrong : ChangeSpec := { name := "policyFits", fn := fun _ => fun
  | [d1, d2, d3, d4] => { results := [.lit (.bool false)], args := [d1, d2, d3, d4] }
  | _ => none }
def PolicyFitsWrongFalsely : Prop := policyFitsRow.holds Tryz.pinned (OpenSpec.ofChange policyFitsWrong)

/-- 'pursuivantlaw23.PolicyBy': WHATEVER THE INPUT: true; the input reads as it did. -/
def policyBySpec : ChangeSpec := { name := "policyBy", fn := fun _ => fun
  | [d1, d2, d3, d4] => { results := [.lit (.bool true)], args := [d1, d2, d3, d4] }
  | _ => none }
def policyByRow : OpenClaim := { program := "ytjpfofmkgdjelaagreat", sum := "e736df1bbbfff6ffaea67f3c7863239ebaf0313990f514f1493e810d87e7e4eb", func := "pursuivant/pursuivantlaw23.PolicyBy", spec := "policyBy", inPlace := ["slices.overlaps[uint32]", "slices.overlaps[pursuivant/api.Leg]"], unfollowed := true, recurses := true, apart := false }
def PolicyBySaid : Prop := policyByRow.holds Tryz.pinned (OpenSpec.ofChange policyBySpec)

/-- ITS FALSE NEIGHBOUR: 'it returns false'. Refute it at one input. -/
def policyByWrong : ChangeSpec := { name := "policyBy", fn := fun _ => fun
  | [d1, d2, d3, d4] => { results := [.lit (.bool false)], args := [d1, d2, d3, d4] }
  | _ => none }
def PolicyByWrongFalsely : Prop := policyByRow.holds Tryz.pinned (OpenSpec.ofChange policyByWrong)

/-- 'pursuivantlaw23.PolicyBent': WHATEVER THE INPUT: true; the input reads as it did. -/
def policyBentSpec : ChangeSpec := { name := "policyBent", fn := fun _ => fun
  | [d1, d2, d3, d4] => { results := [.lit (.bool true)], args := [d1, d2, d3, d4] }
  | _ => none }
def policyBentRow : OpenClaim := { program := "ytjpfofmkgdjelaagreat", sum := "e736df1bbbfff6ffaea67f3c7863239ebaf0313990f514f1493e810d87e7e4eb", func := "pursuivant/pursuivantlaw23.PolicyBent", spec := "policyBent", inPlace := ["slices.overlaps[uint32]", "slices.overlaps[pursuivant/api.Leg]"], unfollowed := true, recurses := true, apart := false }
def PolicyBentSaid : Prop := policyBentRow.holds Tryz.pinned (OpenSpec.ofChange policyBentSpec)

/-- ITS FALSE NEIGHBOUR: 'it returns false'. Refute it at one input. -/
def policyBentWrong : ChangeSpec := { name := "policyBent", fn := fun _ => fun
  | [d1, d2, d3, d4] => { results := [.lit (.bool false)], args := [d1, d2, d3, d4] }
  | _ => none }
def PolicyBentWrongFalsely : Prop := policyBentRow.holds Tryz.pinned (OpenSpec.ofChange policyBentWrong)

/-- 'pursuivantlaw23.PolicyOne': WHATEVER THE INPUT: true; the input reads as it did. -/
def policyOneSpec : ChangeSpec := { name := "policyOne", fn := fun _ => fun
  | [d1, d2, d3, d4] => { results := [.lit (.bool true)], args := [d1, d2, d3, d4] }
  | _ => none }
def policyOneRow : OpenClaim := { program := "ytjpfofmkgdjelaagreat", sum := "e736df1bbbfff6ffaea67f3c7863239ebaf0313990f514f1493e810d87e7e4eb", func := "pursuivant/pursuivantlaw23.PolicyOne", spec := "policyOne", inPlace := ["slices.overlaps[uint32]", "slices.overlaps[pursuivant/api.Leg]"], unfollowed := true, recurses := true, apart := false }
def PolicyOneSaid : Prop := policyOneRow.holds Tryz.pinned (OpenSpec.ofChange policyOneSpec)

/-- ITS FALSE NEIGHBOUR: 'it returns false'. Refute it at one input. -/
def policyOneWrong : ChangeSpec := { name := "policyOne", fn := fun _ => fun
  | [d1, d2, d3, d4] => { results := [.lit (.bool false)], args := [d1, d2, d3, d4] }
  | _ => none }
def PolicyOneWrongFalsely : Prop := policyOneRow.holds Tryz.pinned (OpenSpec.ofChange policyOneWrong)

/-- 'pursuivantlaw23.PolicyRaws': WHATEVER THE INPUT: true; the input reads as it did. -/
def policyRawsSpec : ChangeSpec := { name := "policyRaws", fn := fun _ => fun
  | [d1, d2] => { results := [.lit (.bool true)], args := [d1, d2] }
  | _ => none }
def policyRawsRow : OpenClaim := { program := "ytjpfofmkgdjelaagreat", sum := "e736df1bbbfff6ffaea67f3c7863239ebaf0313990f514f1493e810d87e7e4eb", func := "pursuivant/pursuivantlaw23.PolicyRaws", spec := "policyRaws", inPlace := ["slices.overlaps[uint32]", "slices.overlaps[pursuivant/api.Leg]"], unfollowed := true, recurses := true, apart := false }
def PolicyRawsSaid : Prop := policyRawsRow.holds Tryz.pinned (OpenSpec.ofChange policyRawsSpec)

/-- ITS FALSE NEIGHBOUR: 'it returns false'. Refute it at one input. -/
def policyRawsWrong : ChangeSpec := { name := "policyRaws", fn := fun _ => fun
  | [d1, d2] => { results := [.lit (.bool false)], args := [d1, d2] }
  | _ => none }
def PolicyRawsWrongFalsely : Prop := policyRawsRow.holds Tryz.pinned (OpenSpec.ofChange policyRawsWrong)

/-- 'pursuivantlaw23.PolicyFirst': WHATEVER THE INPUT: true; the input reads as it did. -/
def policyFirstSpec : ChangeSpec := { name := "policyFirst", fn := fun _ => fun
  | [d1, d2, d3, d4, d5, d6] => { results := [.lit (.bool true)], args := [d1, d2, d3, d4, d5, d6] }
  | _ => none }
def policyFirstRow : OpenClaim := { program := "ytjpfofmkgdjelaagreat", sum := "e736df1bbbfff6ffaea67f3c7863239ebaf0313990f514f1493e810d87e7e4eb", func := "pursuivant/pursuivantlaw23.PolicyFirst", spec := "policyFirst", inPlace := ["slices.overlaps[uint32]", "slices.overlaps[pursuivant/api.Leg]"], unfollowed := true, recurses := true, apart := false }
def PolicyFirstSaid : Prop := policyFirstRow.holds Tryz.pinned (OpenSpec.ofChange policyFirstSpec)

/-- ITS FALSE NEIGHBOUR: 'it returns false'. Refute it at one input. -/
def policyFirstWrong : ChangeSpec := { name := "policyFirst", fn := fun _ => fun
  | [d1, d2, d3, d4, d5, d6] => { results := [.lit (.bool false)], args := [d1, d2, d3, d4, d5, d6] }
  | _ => none }
def PolicyFirstWrongFalsely : Prop := policyFirstRow.holds Tryz.pinned (OpenSpec.ofChange policyFirstWrong)

/- THE SECOND FORM. 'bulk': how many values and letters a reading holds, each counted each time it is reached (what is shared counts as often as it is met; a slice's spare places count too). A statement '..UptoSaid' is the law's where the arguments, and the package variables that the reading takes, are together of bulk at most 1048576: NARROWER than '..Said'. Prove '..Said' where nothing that the law and all that it calls make is longer than what came in: it says more and counts as full. Else prove '..UptoSaid'. A law counts once. -/
mutual
def uptoBulk {H : Type} : DataW H → Nat
  | .lit (.string bytes) => bytes.length + 1
  | .lit _ => 1
  | .nil => 1
  | .ptr d => uptoBulk d + 1
  | .slice elems spare => uptoBulkAll elems + uptoBulkAll spare + 1
  | .agg parts => uptoBulkAll parts + 1
  | .iface _ d => uptoBulk d + 1
  | .map entries => uptoBulkEntries entries + 1
  | .held _ => 1
def uptoBulkAll {H : Type} : List (DataW H) → Nat
  | [] => 0
  | d :: r => uptoBulk d + uptoBulkAll r
def uptoBulkEntries {H : Type} : List (Lit × DataW H) → Nat
  | [] => 0
  | x :: r => uptoBulkEntry x + uptoBulkEntries r
def uptoBulkEntry {H : Type} : Lit × DataW H → Nat
  | (.string bytes, d) => bytes.length + uptoBulk d + 1
  | (_, d) => uptoBulk d + 1
 end
def uptoSmall : (H : Type) → List (DataW H) → Bool := fun _ ds => decide (uptoBulkAll ds ≤ 1048576)
def OpenSpec.upto (s : _root_.Go.ChangeSpec) : _root_.Go.OpenSpec := { _root_.Go.OpenSpec.ofChange s with cond := some uptoSmall }

/-- 'pursuivantlaw23.PolicyFits', WHERE WHAT IT READS IS OF BULK AT MOST 1048576: true; the input reads as it did. -/
def policyFitsUptoRow : OpenClaim := { program := "ytjpfofmkgdjelaagreat", sum := "e736df1bbbfff6ffaea67f3c7863239ebaf0313990f514f1493e810d87e7e4eb", func := "pursuivant/pursuivantlaw23.PolicyFits", spec := "policyFits", inPlace := ["slices.overlaps[uint32]", "slices.overlaps[pursuivant/api.Leg]"], unfollowed := true, recurses := true, apart := false, narrowed := true }
def PolicyFitsUptoSaid : Prop := policyFitsUptoRow.holds Tryz.pinned (OpenSpec.upto policyFitsSpec)

/-- 'pursuivantlaw23.PolicyBy', WHERE WHAT IT READS IS OF BULK AT MOST 1048576: true; the input reads as it did. -/
def policyByUptoRow : OpenClaim := { program := "ytjpfofmkgdjelaagreat", sum := "e736df1bbbfff6ffaea67f3c7863239ebaf0313990f514f1493e810d87e7e4eb", func := "pursuivant/pursuivantlaw23.PolicyBy", spec := "policyBy", inPlace := ["slices.overlaps[uint32]", "slices.overlaps[pursuivant/api.Leg]"], unfollowed := true, recurses := true, apart := false, narrowed := true }
def PolicyByUptoSaid : Prop := policyByUptoRow.holds Tryz.pinned (OpenSpec.upto policyBySpec)

/-- 'pursuivantlaw23.PolicyBent', WHERE WHAT IT READS IS OF BULK AT MOST 1048576: true; the input reads as it did. -/
def policyBentUptoRow : OpenClaim := { program := "ytjpfofmkgdjelaagreat", sum := "e736df1bbbfff6ffaea67f3c7863239ebaf0313990f514f1493e810d87e7e4eb", func := "pursuivant/pursuivantlaw23.PolicyBent", spec := "policyBent", inPlace := ["slices.overlaps[uint32]", "slices.overlaps[pursuivant/api.Leg]"], unfollowed := true, recurses := true, apart := false, narrowed := true }
def PolicyBentUptoSaid : Prop := policyBentUptoRow.holds Tryz.pinned (OpenSpec.upto policyBentSpec)

/-- 'pursuivantlaw23.PolicyOne', WHERE WHAT IT READS IS OF BULK AT MOST 1048576: true; the input reads as it did. -/
def policyOneUptoRow : OpenClaim := { program := "ytjpfofmkgdjelaagreat", sum := "e736df1bbbfff6ffaea67f3c7863239ebaf0313990f514f1493e810d87e7e4eb", func := "pursuivant/pursuivantlaw23.PolicyOne", spec := "policyOne", inPlace := ["slices.overlaps[uint32]", "slices.overlaps[pursuivant/api.Leg]"], unfollowed := true, recurses := true, apart := false, narrowed := true }
def PolicyOneUptoSaid : Prop := policyOneUptoRow.holds Tryz.pinned (OpenSpec.upto policyOneSpec)

/-- 'pursuivantlaw23.PolicyRaws', WHERE WHAT IT READS IS OF BULK AT MOST 1048576: true; the input reads as it did. -/
def policyRawsUptoRow : OpenClaim := { program := "ytjpfofmkgdjelaagreat", sum := "e736df1bbbfff6ffaea67f3c7863239ebaf0313990f514f1493e810d87e7e4eb", func := "pursuivant/pursuivantlaw23.PolicyRaws", spec := "policyRaws", inPlace := ["slices.overlaps[uint32]", "slices.overlaps[pursuivant/api.Leg]"], unfollowed := true, recurses := true, apart := false, narrowed := true }
def PolicyRawsUptoSaid : Prop := policyRawsUptoRow.holds Tryz.pinned (OpenSpec.upto policyRawsSpec)

/-- 'pursuivantlaw23.PolicyFirst', WHERE WHAT IT READS IS OF BULK AT MOST 1048576: true; the input reads as it did. -/
def policyFirstUptoRow : OpenClaim := { program := "ytjpfofmkgdjelaagreat", sum := "e736df1bbbfff6ffaea67f3c7863239ebaf0313990f514f1493e810d87e7e4eb", func := "pursuivant/pursuivantlaw23.PolicyFirst", spec := "policyFirst", inPlace := ["slices.overlaps[uint32]", "slices.overlaps[pursuivant/api.Leg]"], unfollowed := true, recurses := true, apart := false, narrowed := true }
def PolicyFirstUptoSaid : Prop := policyFirstUptoRow.holds Tryz.pinned (OpenSpec.upto policyFirstSpec)

end Rows
end Go.Proofs.YtjpfofmkgdjelaaGreat
