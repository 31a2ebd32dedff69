/-
  No cell of these rows narrows 'for every input' (looked for: loops, veiled, ifaces, maps, wideKeys, modest, calm, conditions, laid).
  DERIVED. THE GIVEN ROWS OF THIS SEAT. 8 by the template 'for every input the law returns true; each argument reads behind the call as it read before'; 0 by the template 'total and deterministic' (their statements: YtcfkendgjinmiaaTotals.lean).
  GIVEN WITH THE SEED: the statements are not yours to turn. If you find one false, say at which input.
  Laid BY PROGRAM, IN A SANDBOX (cutbox-rows.mjs): the forced cells as the released guide's own fill.sh prints them over the translation cc4bc220b845ba12… (all of the seat's roots in one cut). By AI agents, Wed Nov 11 2026. No macro, syntax, notation, axiom, sorry.
-/
import Derived.Test.YtcfkendgjinmiaaChecked
import GoSem.Claim
import GoSem.ClaimJoined
import GoSem.ClaimMapViews
import Derived.JoinedTies
import Derived.KernelRfl
namespace Go.Proofs.Ytcfkendgjinmiaa
/- THE CELL 'sum', in the pinned program and in every row, IS THE sha256 OF THE DUMP (.gsa) THAT YtcfkendgjinmiaaProg.lean LOADS. Nothing in Lean hashes anything: it is a label: what it is worth is what the hold of that sum in a sandbox is worth. -/
noncomputable def Try.pinned : Pinned := { name := "ytcfkendgjinmiaa", sum := "cc4bc220b845ba128f6435c12aa5d02b0858b8d795f585d7fec72e0a1868b4c3", checked := Try.checked }
namespace Rows
def none {H : Type} : Left H := { results := [], args := [] }

/-- 'pursuivantlaw19.AttrsRaws': WHATEVER THE INPUT: true; the input reads as it did. -/
def attrsRawsSpec : ChangeSpec := { name := "attrsRaws", fn := fun _ => fun
  | [d] => { results := [.lit (.bool true)], args := [d] }
  | _ => none }
def attrsRawsRow : OpenClaim := { program := "ytcfkendgjinmiaa", sum := "cc4bc220b845ba128f6435c12aa5d02b0858b8d795f585d7fec72e0a1868b4c3", func := "pursuivant/pursuivantlaw19.AttrsRaws", spec := "attrsRaws", inPlace := ["slices.overlaps[pursuivant/api.Leg]"], unfollowed := true, recurses := true, apart := false }
def AttrsRawsSaid : Prop := attrsRawsRow.holds Try.pinned (OpenSpec.ofChange attrsRawsSpec)

/-- ITS FALSE NEIGHBOUR: 'it returns false'. Refute it at one input. -/
def attrsRawsWrong : ChangeSpec := { name := "attrsRaws", fn := fun _ => fun
  | [d] => { results := [.lit (.bool false)], args := [d] }
  | _ => none }
def AttrsRawsWrongFalsely : Prop := attrsRawsRow.holds Try.pinned (OpenSpec.ofChange attrsRawsWrong)

/-- 'pursuivantlaw19.AttrsParses': WHATEVER THE INPUT: true; the input reads as it did. -/
def attrsParsesSpec : ChangeSpec := { name := "attrsParses", fn := fun _ => fun
  | [d] => { results := [.lit (.bool true)], args := [d] }
  | _ => none }
def attrsParsesRow : OpenClaim := { program := "ytcfkendgjinmiaa", sum := "cc4bc220b845ba128f6435c12aa5d02b0858b8d795f585d7fec72e0a1868b4c3", func := "pursuivant/pursuivantlaw19.AttrsParses", spec := "attrsParses", inPlace := ["slices.overlaps[pursuivant/api.Leg]"], unfollowed := true, recurses := true, apart := false }
def AttrsParsesSaid : Prop := attrsParsesRow.holds Try.pinned (OpenSpec.ofChange attrsParsesSpec)

/-- ITS FALSE NEIGHBOUR: 'it returns false'. Refute it at one input. -/
def attrsParsesWrong : ChangeSpec := { name := "attrsParses", fn := fun _ => fun
  | [d] => { results := [.lit (.bool false)], args := [d] }
  | _ => none }
def AttrsParsesWrongFalsely : Prop := attrsParsesRow.holds Try.pinned (OpenSpec.ofChange attrsParsesWrong)

/-- 'pursuivantlaw19.AttrsBent': WHATEVER THE INPUT: true; the input reads as it did. -/
def attrsBentSpec : ChangeSpec := { name := "attrsBent", fn := fun _ => fun
  | [d1, d2, d3, d4] => { results := [.lit (.bool true)], args := [d1, d2, d3, d4] }
  | _ => none }
def attrsBentRow : OpenClaim := { program := "ytcfkendgjinmiaa", sum := "cc4bc220b845ba128f6435c12aa5d02b0858b8d795f585d7fec72e0a1868b4c3", func := "pursuivant/pursuivantlaw19.AttrsBent", spec := "attrsBent", inPlace := ["slices.overlaps[pursuivant/api.Leg]"], unfollowed := true, recurses := true, apart := false }
def AttrsBentSaid : Prop := attrsBentRow.holds Try.pinned (OpenSpec.ofChange attrsBentSpec)

/-- ITS FALSE NEIGHBOUR: 'it returns false'. Refute it at one input. -/
def attrsBentWrong : ChangeSpec := { name := "attrsBent", fn := fun _ => fun
  | [d1, d2, d3, d4] => { results := [.lit (.bool false)], args := [d1, d2, d3, d4] }
  | _ => none }
def AttrsBentWrongFalsely : Prop := attrsBentRow.holds Try.pinned (OpenSpec.ofChange attrsBentWrong)

/-- 'pursuivantlaw19.AttrsPrepends': WHATEVER THE INPUT: true; the input reads as it did. -/
def attrsPrependsSpec : ChangeSpec := { name := "attrsPrepends", fn := fun _ => fun
  | [d1, d2, d3] => { results := [.lit (.bool true)], args := [d1, d2, d3] }
  | _ => none }
def attrsPrependsRow : OpenClaim := { program := "ytcfkendgjinmiaa", sum := "cc4bc220b845ba128f6435c12aa5d02b0858b8d795f585d7fec72e0a1868b4c3", func := "pursuivant/pursuivantlaw19.AttrsPrepends", spec := "attrsPrepends", inPlace := ["slices.overlaps[pursuivant/api.Leg]"], unfollowed := true, recurses := true, apart := false }
def AttrsPrependsSaid : Prop := attrsPrependsRow.holds Try.pinned (OpenSpec.ofChange attrsPrependsSpec)

/-- ITS FALSE NEIGHBOUR: 'it returns false'. Refute it at one input. -/
def attrsPrependsWrong : ChangeSpec := { name := "attrsPrepends", fn := fun _ => fun
  | [d1, d2, d3] => { results := [.lit (.bool false)], args := [d1, d2, d3] }
  | _ => none }
def AttrsPrependsWrongFalsely : Prop := attrsPrependsRow.holds Try.pinned (OpenSpec.ofChange attrsPrependsWrong)

/-- 'pursuivantlaw19.AttrsPaths': WHATEVER THE INPUT: true; the input reads as it did. -/
def attrsPathsSpec : ChangeSpec := { name := "attrsPaths", fn := fun _ => fun
  | [d1, d2, d3] => { results := [.lit (.bool true)], args := [d1, d2, d3] }
  | _ => none }
def attrsPathsRow : OpenClaim := { program := "ytcfkendgjinmiaa", sum := "cc4bc220b845ba128f6435c12aa5d02b0858b8d795f585d7fec72e0a1868b4c3", func := "pursuivant/pursuivantlaw19.AttrsPaths", spec := "attrsPaths", inPlace := ["slices.overlaps[pursuivant/api.Leg]"], unfollowed := true, recurses := true, apart := false }
def AttrsPathsSaid : Prop := attrsPathsRow.holds Try.pinned (OpenSpec.ofChange attrsPathsSpec)

/-- ITS FALSE NEIGHBOUR: 'it returns false'. Refute it at one input. -/
def attrsPathsWrong : ChangeSpec := { name := "attrsPaths", fn := fun _ => fun
  | [d1, d2, d3] => { results := [.lit (.bool false)], args := [d1, d2, d3] }
  | _ => none }
def AttrsPathsWrongFalsely : Prop := attrsPathsRow.holds Try.pinned (OpenSpec.ofChange attrsPathsWrong)

/-- 'pursuivantlaw19.AttrsSame': WHATEVER THE INPUT: true; the input reads as it did. -/
def attrsSameSpec : ChangeSpec := { name := "attrsSame", fn := fun _ => fun
  | [d1, d2] => { results := [.lit (.bool true)], args := [d1, d2] }
  | _ => none }
def attrsSameRow : OpenClaim := { program := "ytcfkendgjinmiaa", sum := "cc4bc220b845ba128f6435c12aa5d02b0858b8d795f585d7fec72e0a1868b4c3", func := "pursuivant/pursuivantlaw19.AttrsSame", spec := "attrsSame", inPlace := ["slices.overlaps[pursuivant/api.Leg]"], unfollowed := true, recurses := true, apart := false }
def AttrsSameSaid : Prop := attrsSameRow.holds Try.pinned (OpenSpec.ofChange attrsSameSpec)

/-- ITS FALSE NEIGHBOUR: 'it returns false'. Refute it at one input. -/
def attrsSameWrong : ChangeSpec := { name := "attrsSame", fn := fun _ => fun
  | [d1, d2] => { results := [.lit (.bool false)], args := [d1, d2] }
  | _ => none }
def AttrsSameWrongFalsely : Prop := attrsSameRow.holds Try.pinned (OpenSpec.ofChange attrsSameWrong)

/-- 'pursuivantlaw19.AttrsTags': WHATEVER THE INPUT: true; the input reads as it did. -/
def attrsTagsSpec : ChangeSpec := { name := "attrsTags", fn := fun _ => fun
  | [d1, d2] => { results := [.lit (.bool true)], args := [d1, d2] }
  | _ => none }
def attrsTagsRow : OpenClaim := { program := "ytcfkendgjinmiaa", sum := "cc4bc220b845ba128f6435c12aa5d02b0858b8d795f585d7fec72e0a1868b4c3", func := "pursuivant/pursuivantlaw19.AttrsTags", spec := "attrsTags", inPlace := ["slices.overlaps[pursuivant/api.Leg]", "slices.overlaps[uint32]"], unfollowed := true, recurses := true, apart := false }
def AttrsTagsSaid : Prop := attrsTagsRow.holds Try.pinned (OpenSpec.ofChange attrsTagsSpec)

/-- ITS FALSE NEIGHBOUR: 'it returns false'. Refute it at one input. -/
def attrsTagsWrong : ChangeSpec := { name := "attrsTags", fn := fun _ => fun
  | [d1, d2] => { results := [.lit (.bool false)], args := [d1, d2] }
  | _ => none }
def AttrsTagsWrongFalsely : Prop := attrsTagsRow.holds Try.pinned (OpenSpec.ofChange attrsTagsWrong)

/-- 'pursuivantlaw19.AttrsBack': WHATEVER THE INPUT: true; the input reads as it did. -/
def attrsBackSpec : ChangeSpec := { name := "attrsBack", fn := fun _ => fun
  | [d1, d2, d3, d4, d5] => { results := [.lit (.bool true)], args := [d1, d2, d3, d4, d5] }
  | _ => none }
def attrsBackRow : OpenClaim := { program := "ytcfkendgjinmiaa", sum := "cc4bc220b845ba128f6435c12aa5d02b0858b8d795f585d7fec72e0a1868b4c3", func := "pursuivant/pursuivantlaw19.AttrsBack", spec := "attrsBack", inPlace := ["slices.overlaps[pursuivant/api.Leg]", "slices.overlaps[uint32]"], unfollowed := true, recurses := true, apart := false }
def AttrsBackSaid : Prop := attrsBackRow.holds Try.pinned (OpenSpec.ofChange attrsBackSpec)

/-- ITS FALSE NEIGHBOUR: 'it returns false'. Refute it at one input. -/
def attrsBackWrong : ChangeSpec := { name := "attrsBack", fn := fun _ => fun
  | [d1, d2, d3, d4, d5] => { results := [.lit (.bool false)], args := [d1, d2, d3, d4, d5] }
  | _ => none }
def AttrsBackWrongFalsely : Prop := attrsBackRow.holds Try.pinned (OpenSpec.ofChange attrsBackWrong)

/- THE SECOND FORM. 'bulk': how many values and letters a reading holds, each counted each time it is reached (what is shared counts as often as it is met; a slice's spare places count too). A statement '..UptoSaid' is the law's where the arguments, and the package variables that the reading takes, are together of bulk at most 1048576: NARROWER than '..Said'. Prove '..Said' where nothing that the law and all that it calls make is longer than what came in: it says more and counts as full. Else prove '..UptoSaid'. A law counts once. -/
mutual
def uptoBulk {H : Type} : DataW H → Nat
  | .lit (.string bytes) => bytes.length + 1
  | .lit _ => 1
  | .nil => 1
  | .ptr d => uptoBulk d + 1
  | .slice elems spare => uptoBulkAll elems + uptoBulkAll spare + 1
  | .agg parts => uptoBulkAll parts + 1
  | .iface _ d => uptoBulk d + 1
  | .map entries => uptoBulkEntries entries + 1
  | .held _ => 1
def uptoBulkAll {H : Type} : List (DataW H) → Nat
  | [] => 0
  | d :: r => uptoBulk d + uptoBulkAll r
def uptoBulkEntries {H : Type} : List (Lit × DataW H) → Nat
  | [] => 0
  | x :: r => uptoBulkEntry x + uptoBulkEntries r
def uptoBulkEntry {H : Type} : Lit × DataW H → Nat
  | (.string bytes, d) => bytes.length + uptoBulk d + 1
  | (_, d) => uptoBulk d + 1
 end
def uptoSmall : (H : Type) → List (DataW H) → Bool := fun _ ds => decide (uptoBulkAll ds ≤ 1048576)
def OpenSpec.upto (s : _root_.Go.ChangeSpec) : _root_.Go.OpenSpec := { _root_.Go.OpenSpec.ofChange s with cond := some uptoSmall }

/-- 'pursuivantlaw19.AttrsRaws', WHERE WHAT IT READS IS OF BULK AT MOST 1048576: true; the input reads as it did. -/
def attrsRawsUptoRow : OpenClaim := { program := "ytcfkendgjinmiaa", sum := "cc4bc220b845ba128f6435c12aa5d02b0858b8d795f585d7fec72e0a1868b4c3", func := "pursuivant/pursuivantlaw19.AttrsRaws", spec := "attrsRaws", inPlace := ["slices.overlaps[pursuivant/api.Leg]"], unfollowed := true, recurses := true, apart := false, narrowed := true }
def AttrsRawsUptoSaid : Prop := attrsRawsUptoRow.holds Try.pinned (OpenSpec.upto attrsRawsSpec)

/-- 'pursuivantlaw19.AttrsParses', WHERE WHAT IT READS IS OF BULK AT MOST 1048576: true; the input reads as it did. -/
def attrsParsesUptoRow : OpenClaim := { program := "ytcfkendgjinmiaa", sum := "cc4bc220b845ba128f6435c12aa5d02b0858b8d795f585d7fec72e0a1868b4c3", func := "pursuivant/pursuivantlaw19.AttrsParses", spec := "attrsParses", inPlace := ["slices.overlaps[pursuivant/api.Leg]"], unfollowed := true, recurses := true, apart := false, narrowed := true }
def AttrsParsesUptoSaid : Prop := attrsParsesUptoRow.holds Try.pinned (OpenSpec.upto attrsParsesSpec)

/-- 'pursuivantlaw19.AttrsBent', WHERE WHAT IT READS IS OF BULK AT MOST 1048576: true; the input reads as it did. -/
def attrsBentUptoRow : OpenClaim := { program := "ytcfkendgjinmiaa", sum := "cc4bc220b845ba128f6435c12aa5d02b0858b8d795f585d7fec72e0a1868b4c3", func := "pursuivant/pursuivantlaw19.AttrsBent", spec := "attrsBent", inPlace := ["slices.overlaps[pursuivant/api.Leg]"], unfollowed := true, recurses := true, apart := false, narrowed := true }
def AttrsBentUptoSaid : Prop := attrsBentUptoRow.holds Try.pinned (OpenSpec.upto attrsBentSpec)

/-- 'pursuivantlaw19.AttrsPrepends', WHERE WHAT IT READS IS OF BULK AT MOST 1048576: true; the input reads as it did. -/
def attrsPrependsUptoRow : OpenClaim := { program := "ytcfkendgjinmiaa", sum := "cc4bc220b845ba128f6435c12aa5d02b0858b8d795f585d7fec72e0a1868b4c3", func := "pursuivant/pursuivantlaw19.AttrsPrepends", spec := "attrsPrepends", inPlace := ["slices.overlaps[pursuivant/api.Leg]"], unfollowed := true, recurses := true, apart := false, narrowed := true }
def AttrsPrependsUptoSaid : Prop := attrsPrependsUptoRow.holds Try.pinned (OpenSpec.upto attrsPrependsSpec)

/-- 'pursuivantlaw19.AttrsPaths', WHERE WHAT IT READS IS OF BULK AT MOST 1048576: true; the input reads as it did. -/
def attrsPathsUptoRow : OpenClaim := { program := "ytcfkendgjinmiaa", sum := "cc4bc220b845ba128f6435c12aa5d02b0858b8d795f585d7fec72e0a1868b4c3", func := "pursuivant/pursuivantlaw19.AttrsPaths", spec := "attrsPaths", inPlace := ["slices.overlaps[pursuivant/api.Leg]"], unfollowed := true, recurses := true, apart := false, narrowed := true }
def AttrsPathsUptoSaid : Prop := attrsPathsUptoRow.holds Try.pinned (OpenSpec.upto attrsPathsSpec)

/-- 'pursuivantlaw19.AttrsSame', WHERE WHAT IT READS IS OF BULK AT MOST 1048576: true; the input reads as it did. -/
def attrsSameUptoRow : OpenClaim := { program := "ytcfkendgjinmiaa", sum := "cc4bc220b845ba128f6435c12aa5d02b0858b8d795f585d7fec72e0a1868b4c3", func := "pursuivant/pursuivantlaw19.AttrsSame", spec := "attrsSame", inPlace := ["slices.overlaps[pursuivant/api.Leg]"], unfollowed := true, recurses := true, apart := false, narrowed := true }
def AttrsSameUptoSaid : Prop := attrsSameUptoRow.holds Try.pinned (OpenSpec.upto attrsSameSpec)

/-- 'pursuivantlaw19.AttrsTags', WHERE WHAT IT READS IS OF BULK AT MOST 1048576: true; the input reads as it did. -/
def attrsTagsUptoRow : OpenClaim := { program := "ytcfkendgjinmiaa", sum := "cc4bc220b845ba128f6435c12aa5d02b0858b8d795f585d7fec72e0a1868b4c3", func := "pursuivant/pursuivantlaw19.AttrsTags", spec := "attrsTags", inPlace := ["slices.overlaps[pursuivant/api.Leg]", "slices.overlaps[uint32]"], unfollowed := true, recurses := true, apart := false, narrowed := true }
def AttrsTagsUptoSaid : Prop := attrsTagsUptoRow.holds Try.pinned (OpenSpec.upto attrsTagsSpec)

/-- 'pursuivantlaw19.AttrsBack', WHERE WHAT IT READS IS OF BULK AT MOST 1048576: true; the input reads as it did. -/
def attrsBackUptoRow : OpenClaim := { program := "ytcfkendgjinmiaa", sum := "cc4bc220b845ba128f6435c12aa5d02b0858b8d795f585d7fec72e0a1868b4c3", func := "pursuivant/pursuivantlaw19.AttrsBack", spec := "attrsBack", inPlace := ["slices.overlaps[pursuivant/api.Leg]", "slices.overlaps[uint32]"], unfollowed := true, recurses := true, apart := false, narrowed := true }
def AttrsBackUptoSaid : Prop := attrsBackUptoRow.holds Try.pinned (OpenSpec.upto attrsBackSpec)

end Rows
end Go.Proofs.Ytcfkendgjinmiaa
