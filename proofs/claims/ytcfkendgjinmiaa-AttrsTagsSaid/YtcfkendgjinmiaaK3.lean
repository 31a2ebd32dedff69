/- Joined: VS, C0, R0, C1, C2, C3, C4, C5, C6, C7, C8, C9, C10, C11, C12, C13, C14, D1, C15, C16, C17, C18, C19, C20, C21, C22, C23. -/
import Derived.Test.YtcfkendgjinmiaaK2
import Derived.Test.YtcfkendgjinmiaaProg
import Derived.KernelRfl
import Derived.Test.YtcfkendgjinmiaaRows
import Derived.Laws.BitsLemmas
/- Written by gentab.sh: the types of the program. -/
namespace Go.Proofs.Ytcfkendgjinmiaa
set_option maxRecDepth 100000
def tab : Tab := tabOf
  [{ k := TK.tuple, size := 1, bytes := 0, zero := [Value.tuple #[]] },
    { k := TK.func, size := 1, bytes := 8, zero := [Value.nilFunc] },
    { k := TK.int IntKind.i64, size := 1, bytes := 8, zero := [Value.int IntKind.i64 (0)], key := true },
    { k := TK.int IntKind.i64, size := 1, bytes := 8, zero := [Value.int IntKind.i64 (0)], key := true },
    { k := TK.bool, size := 1, bytes := 1, zero := [Value.bool false], key := true },
    { k := TK.int IntKind.u8, size := 1, bytes := 1, zero := [Value.int IntKind.u8 (0)], key := true },
    { k := TK.int IntKind.u8, size := 1, bytes := 1, zero := [Value.int IntKind.u8 (0)], key := true },
    { k := TK.struct [(0, 2), (1, 3), (2, 4), (3, 6)], size := 4, bytes := 24,
      zero :=
        [Value.int IntKind.i64 (0), Value.int IntKind.i64 (0), Value.bool false,
          Value.int IntKind.u8 (0)],
      key := true },
    { k := TK.struct [(0, 2), (1, 3), (2, 4), (3, 6)], size := 4, bytes := 24,
      zero :=
        [Value.int IntKind.i64 (0), Value.int IntKind.i64 (0), Value.bool false,
          Value.int IntKind.u8 (0)] },
    { k := TK.str, size := 1, bytes := 16, zero := [Value.string { data := { toList := [] } }], key := true },
    { k := TK.str, size := 1, bytes := 16, zero := [Value.string { data := { toList := [] } }], key := true },
    { k := TK.str, size := 1, bytes := 16, zero := [Value.string { data := { toList := [] } }], key := true },
    { k := TK.int IntKind.u64, size := 1, bytes := 8, zero := [Value.int IntKind.u64 (0)], key := true },
    { k := TK.struct [(0, 9), (1, 12)], size := 2, bytes := 24,
      zero := [Value.string { data := { toList := [] } }, Value.int IntKind.u64 (0)] },
    { k := TK.struct [(0, 9), (1, 12)], size := 2, bytes := 24,
      zero := [Value.string { data := { toList := [] } }, Value.int IntKind.u64 (0)] },
    { k := TK.ptr 135, size := 1, bytes := 8, zero := [Value.pointer none] },
    { k := TK.ptr 138, size := 1, bytes := 8, zero := [Value.pointer none] },
    { k := TK.ptr 147, size := 1, bytes := 8, zero := [Value.pointer none] },
    { k := TK.struct [(0, 17)], size := 1, bytes := 8, zero := [Value.pointer none] },
    { k := TK.struct [(0, 17)], size := 1, bytes := 8, zero := [Value.pointer none] },
    { k := TK.iface, size := 1, bytes := 16, zero := [Value.nilIface] },
    { k := TK.int IntKind.i32, size := 1, bytes := 4, zero := [Value.int IntKind.i32 (0)], key := true },
    { k := TK.slice 54, size := 1, bytes := 24, zero := [Value.slice none 0 0] },
    { k := TK.int IntKind.u32, size := 1, bytes := 4, zero := [Value.int IntKind.u32 (0)], key := true },
    { k := TK.slice 23, size := 1, bytes := 24, zero := [Value.slice none 0 0] },
    { k := TK.struct [(0, 5), (1, 22), (2, 23), (3, 4), (4, 23), (5, 4), (6, 23), (7, 24)], size := 8, bytes := 80,
      zero :=
        [Value.int IntKind.u8 (0), Value.slice none 0 0, Value.int IntKind.u32 (0), Value.bool false,
          Value.int IntKind.u32 (0), Value.bool false, Value.int IntKind.u32 (0),
          Value.slice none 0 0] },
    { k := TK.struct [(0, 5), (1, 22), (2, 23), (3, 4), (4, 23), (5, 4), (6, 23), (7, 24)], size := 8, bytes := 80,
      zero :=
        [Value.int IntKind.u8 (0), Value.slice none 0 0, Value.int IntKind.u32 (0), Value.bool false,
          Value.int IntKind.u32 (0), Value.bool false, Value.int IntKind.u32 (0),
          Value.slice none 0 0] },
    { k := TK.func, size := 1, bytes := 8, zero := [Value.nilFunc] },
    { k := TK.func, size := 1, bytes := 8, zero := [Value.nilFunc] },
    { k := TK.func, size := 1, bytes := 8, zero := [Value.nilFunc] },
    { k := TK.slice 5, size := 1, bytes := 24, zero := [Value.slice none 0 0] },
    { k := TK.int IntKind.i64, size := 1, bytes := 8, zero := [Value.int IntKind.i64 (0)], key := true },
    { k := TK.tuple, size := 1, bytes := 0,
      zero := [Value.tuple { toList := [Value.slice none 0 0, Value.int IntKind.i64 (0)] }] },
    { k := TK.func, size := 1, bytes := 8, zero := [Value.nilFunc] },
    { k := TK.func, size := 1, bytes := 8, zero := [Value.nilFunc] },
    { k := TK.func, size := 1, bytes := 8, zero := [Value.nilFunc] },
    { k := TK.func, size := 1, bytes := 8, zero := [Value.nilFunc] },
    { k := TK.func, size := 1, bytes := 8, zero := [Value.nilFunc] },
    { k := TK.tuple, size := 1, bytes := 0,
      zero :=
        [Value.tuple
            {
              toList :=
                [Value.agg
                    {
                      toList :=
                        [Value.int IntKind.u8 (0), Value.slice none 0 0, Value.int IntKind.u32 (0),
                          Value.bool false, Value.int IntKind.u32 (0), Value.bool false,
                          Value.int IntKind.u32 (0), Value.slice none 0 0] },
                  Value.int IntKind.i64 (0)] }] },
    { k := TK.func, size := 1, bytes := 8, zero := [Value.nilFunc] },
    { k := TK.tuple, size := 1, bytes := 0,
      zero :=
        [Value.tuple
            {
              toList :=
                [Value.agg
                    {
                      toList :=
                        [Value.int IntKind.u8 (0), Value.slice none 0 0, Value.int IntKind.u32 (0),
                          Value.bool false, Value.int IntKind.u32 (0), Value.bool false,
                          Value.int IntKind.u32 (0), Value.slice none 0 0] },
                  Value.int IntKind.i64 (0)] }] },
    { k := TK.func, size := 1, bytes := 8, zero := [Value.nilFunc] },
    { k := TK.func, size := 1, bytes := 8, zero := [Value.nilFunc] },
    { k := TK.func, size := 1, bytes := 8, zero := [Value.nilFunc] },
    { k := TK.func, size := 1, bytes := 8, zero := [Value.nilFunc] },
    { k := TK.func, size := 1, bytes := 8, zero := [Value.nilFunc] },
    { k := TK.func, size := 1, bytes := 8, zero := [Value.nilFunc] },
    { k := TK.func, size := 1, bytes := 8, zero := [Value.nilFunc] },
    { k := TK.func, size := 1, bytes := 8, zero := [Value.nilFunc] },
    { k := TK.func, size := 1, bytes := 8, zero := [Value.nilFunc] },
    { k := TK.func, size := 1, bytes := 8, zero := [Value.nilFunc] },
    { k := TK.func, size := 1, bytes := 8, zero := [Value.nilFunc] },
    { k := TK.slice 3, size := 1, bytes := 24, zero := [Value.slice none 0 0] },
    { k := TK.struct [(0, 4), (1, 24)], size := 2, bytes := 32, zero := [Value.bool false, Value.slice none 0 0] },
    { k := TK.struct [(0, 4), (1, 24)], size := 2, bytes := 32, zero := [Value.bool false, Value.slice none 0 0] },
    { k := TK.func, size := 1, bytes := 8, zero := [Value.nilFunc] },
    { k := TK.func, size := 1, bytes := 8, zero := [Value.nilFunc] },
    { k := TK.func, size := 1, bytes := 8, zero := [Value.nilFunc] },
    { k := TK.func, size := 1, bytes := 8, zero := [Value.nilFunc] },
    { k := TK.func, size := 1, bytes := 8, zero := [Value.nilFunc] },
    { k := TK.func, size := 1, bytes := 8, zero := [Value.nilFunc] },
    { k := TK.func, size := 1, bytes := 8, zero := [Value.nilFunc] },
    { k := TK.func, size := 1, bytes := 8, zero := [Value.nilFunc] },
    { k := TK.func, size := 1, bytes := 8, zero := [Value.nilFunc] },
    { k := TK.func, size := 1, bytes := 8, zero := [Value.nilFunc] },
    { k := TK.struct [(0, 5), (1, 5), (2, 27), (3, 37), (4, 64)], size := 5, bytes := 32,
      zero :=
        [Value.int IntKind.u8 (0), Value.int IntKind.u8 (0), Value.nilFunc, Value.nilFunc,
          Value.nilFunc] },
    { k := TK.struct [(0, 5), (1, 5), (2, 27), (3, 37), (4, 64)], size := 5, bytes := 32,
      zero :=
        [Value.int IntKind.u8 (0), Value.int IntKind.u8 (0), Value.nilFunc, Value.nilFunc,
          Value.nilFunc] },
    { k := TK.func, size := 1, bytes := 8, zero := [Value.nilFunc] },
    { k := TK.func, size := 1, bytes := 8, zero := [Value.nilFunc] },
    { k := TK.func, size := 1, bytes := 8, zero := [Value.nilFunc] },
    { k := TK.func, size := 1, bytes := 8, zero := [Value.nilFunc] },
    { k := TK.func, size := 1, bytes := 8, zero := [Value.nilFunc] },
    { k := TK.func, size := 1, bytes := 8, zero := [Value.nilFunc] },
    { k := TK.func, size := 1, bytes := 8, zero := [Value.nilFunc] },
    { k := TK.ptr 78, size := 1, bytes := 8, zero := [Value.pointer none] },
    { k := TK.struct [(0, 30)], size := 1, bytes := 24, zero := [Value.slice none 0 0] },
    { k := TK.struct [(0, 30)], size := 1, bytes := 24, zero := [Value.slice none 0 0] },
    { k := TK.struct [(0, 76), (1, 5), (2, 3), (3, 26)], size := 11, bytes := 120,
      zero :=
        [Value.slice none 0 0, Value.int IntKind.u8 (0), Value.int IntKind.i64 (0),
          Value.int IntKind.u8 (0), Value.slice none 0 0, Value.int IntKind.u32 (0), Value.bool false,
          Value.int IntKind.u32 (0), Value.bool false, Value.int IntKind.u32 (0),
          Value.slice none 0 0] },
    { k := TK.struct [(0, 76), (1, 5), (2, 3), (3, 26)], size := 11, bytes := 120,
      zero :=
        [Value.slice none 0 0, Value.int IntKind.u8 (0), Value.int IntKind.i64 (0),
          Value.int IntKind.u8 (0), Value.slice none 0 0, Value.int IntKind.u32 (0), Value.bool false,
          Value.int IntKind.u32 (0), Value.bool false, Value.int IntKind.u32 (0),
          Value.slice none 0 0] },
    { k := TK.func, size := 1, bytes := 8, zero := [Value.nilFunc] },
    { k := TK.func, size := 1, bytes := 8, zero := [Value.nilFunc] },
    { k := TK.func, size := 1, bytes := 8, zero := [Value.nilFunc] },
    { k := TK.func, size := 1, bytes := 8, zero := [Value.nilFunc] },
    { k := TK.func, size := 1, bytes := 8, zero := [Value.nilFunc] },
    { k := TK.func, size := 1, bytes := 8, zero := [Value.nilFunc] },
    { k := TK.func, size := 1, bytes := 8, zero := [Value.nilFunc] },
    { k := TK.func, size := 1, bytes := 8, zero := [Value.nilFunc] },
    { k := TK.func, size := 1, bytes := 8, zero := [Value.nilFunc] },
    { k := TK.func, size := 1, bytes := 8, zero := [Value.nilFunc] },
    { k := TK.func, size := 1, bytes := 8, zero := [Value.nilFunc] },
    { k := TK.tuple, size := 1, bytes := 0,
      zero := [Value.tuple { toList := [Value.int IntKind.i64 (0), Value.bool false] }] },
    { k := TK.func, size := 1, bytes := 8, zero := [Value.nilFunc] },
    { k := TK.func, size := 1, bytes := 8, zero := [Value.nilFunc] },
    { k := TK.func, size := 1, bytes := 8, zero := [Value.nilFunc] },
    { k := TK.slice 66, size := 1, bytes := 24, zero := [Value.slice none 0 0] },
    { k := TK.ptr 26, size := 1, bytes := 8, zero := [Value.pointer none] },
    { k := TK.func, size := 1, bytes := 8, zero := [Value.nilFunc] },
    { k := TK.func, size := 1, bytes := 8, zero := [Value.nilFunc] },
    { k := TK.func, size := 1, bytes := 8, zero := [Value.nilFunc] },
    { k := TK.func, size := 1, bytes := 8, zero := [Value.nilFunc] },
    { k := TK.func, size := 1, bytes := 8, zero := [Value.nilFunc] },
    { k := TK.func, size := 1, bytes := 8, zero := [Value.nilFunc] },
    { k := TK.func, size := 1, bytes := 8, zero := [Value.nilFunc] },
    { k := TK.func, size := 1, bytes := 8, zero := [Value.nilFunc] },
    { k := TK.int IntKind.u64, size := 1, bytes := 8, zero := [Value.int IntKind.u64 (0)], key := true },
    { k := TK.int IntKind.u64, size := 1, bytes := 8, zero := [Value.int IntKind.u64 (0)], key := true },
    { k := TK.func, size := 1, bytes := 8, zero := [Value.nilFunc] },
    { k := TK.func, size := 1, bytes := 8, zero := [Value.nilFunc] },
    { k := TK.func, size := 1, bytes := 8, zero := [Value.nilFunc] },
    { k := TK.tuple, size := 1, bytes := 0,
      zero := [Value.tuple { toList := [Value.slice none 0 0, Value.int IntKind.i64 (0)] }] },
    { k := TK.func, size := 1, bytes := 8, zero := [Value.nilFunc] },
    { k := TK.func, size := 1, bytes := 8, zero := [Value.nilFunc] },
    { k := TK.func, size := 1, bytes := 8, zero := [Value.nilFunc] },
    { k := TK.func, size := 1, bytes := 8, zero := [Value.nilFunc] },
    { k := TK.slice 24, size := 1, bytes := 24, zero := [Value.slice none 0 0] },
    { k := TK.tuple, size := 1, bytes := 0,
      zero := [Value.tuple { toList := [Value.int IntKind.u64 (0), Value.int IntKind.u64 (0)] }] },
    { k := TK.func, size := 1, bytes := 8, zero := [Value.nilFunc] },
    { k := TK.func, size := 1, bytes := 8, zero := [Value.nilFunc] },
    { k := TK.func, size := 1, bytes := 8, zero := [Value.nilFunc] },
    { k := TK.func, size := 1, bytes := 8, zero := [Value.nilFunc] },
    { k := TK.func, size := 1, bytes := 8, zero := [Value.nilFunc] },
    { k := TK.func, size := 1, bytes := 8, zero := [Value.nilFunc] },
    { k := TK.func, size := 1, bytes := 8, zero := [Value.nilFunc] },
    { k := TK.func, size := 1, bytes := 8, zero := [Value.nilFunc] },
    { k := TK.func, size := 1, bytes := 8, zero := [Value.nilFunc] },
    { k := TK.func, size := 1, bytes := 8, zero := [Value.nilFunc] },
    { k := TK.func, size := 1, bytes := 8, zero := [Value.nilFunc] },
    { k := TK.tuple, size := 1, bytes := 0,
      zero := [Value.tuple { toList := [Value.int IntKind.u32 (0), Value.int IntKind.u32 (0)] }] },
    { k := TK.func, size := 1, bytes := 8, zero := [Value.nilFunc] },
    { k := TK.tuple, size := 1, bytes := 0,
      zero := [Value.tuple { toList := [Value.int IntKind.u64 (0), Value.int IntKind.u64 (0)] }] },
    { k := TK.func, size := 1, bytes := 8, zero := [Value.nilFunc] },
    { k := TK.func, size := 1, bytes := 8, zero := [Value.nilFunc] },
    { k := TK.func, size := 1, bytes := 8, zero := [Value.nilFunc] },
    { k := TK.func, size := 1, bytes := 8, zero := [Value.nilFunc] },
    { k := TK.struct [(0, 17), (1, 17), (2, 17), (3, 9)], size := 4, bytes := 40,
      zero := [Value.pointer none, Value.pointer none, Value.pointer none, Value.string { data := { toList := [] } }] },
    { k := TK.struct [(0, 17), (1, 17), (2, 17), (3, 9)], size := 4, bytes := 40,
      zero := [Value.pointer none, Value.pointer none, Value.pointer none, Value.string { data := { toList := [] } }] },
    { k := TK.array 0 16, size := 0, bytes := 0, zero := [] },
    { k := TK.struct [(0, 136)], size := 0, bytes := 0, zero := [] },
    { k := TK.struct [(0, 136)], size := 0, bytes := 0, zero := [] },
    { k := TK.func, size := 1, bytes := 8, zero := [Value.nilFunc] },
    { k := TK.int IntKind.u8, size := 1, bytes := 1, zero := [Value.int IntKind.u8 (0)], key := true },
    { k := TK.int IntKind.u8, size := 1, bytes := 1, zero := [Value.int IntKind.u8 (0)], key := true },
    { k := TK.func, size := 1, bytes := 8, zero := [Value.nilFunc] },
    { k := TK.ptr 5, size := 1, bytes := 8, zero := [Value.pointer none] },
    { k := TK.int IntKind.i32, size := 1, bytes := 4, zero := [Value.int IntKind.i32 (0)], key := true },
    { k := TK.int IntKind.i32, size := 1, bytes := 4, zero := [Value.int IntKind.i32 (0)], key := true },
    {
      k :=
        TK.struct
          [(0, 12), (1, 12), (2, 23), (3, 140), (4, 5), (5, 5), (6, 141), (7, 142), (8, 143), (9, 144), (10, 145)],
      size := 11, bytes := 48,
      zero :=
        [Value.int IntKind.u64 (0), Value.int IntKind.u64 (0), Value.int IntKind.u32 (0),
          Value.int IntKind.u8 (0), Value.int IntKind.u8 (0), Value.int IntKind.u8 (0),
          Value.int IntKind.u8 (0), Value.nilFunc, Value.pointer none, Value.int IntKind.i32 (0),
          Value.int IntKind.i32 (0)] },
    {
      k :=
        TK.struct
          [(0, 12), (1, 12), (2, 23), (3, 140), (4, 5), (5, 5), (6, 141), (7, 142), (8, 143), (9, 144), (10, 145)],
      size := 11, bytes := 48,
      zero :=
        [Value.int IntKind.u64 (0), Value.int IntKind.u64 (0), Value.int IntKind.u32 (0),
          Value.int IntKind.u8 (0), Value.int IntKind.u8 (0), Value.int IntKind.u8 (0),
          Value.int IntKind.u8 (0), Value.nilFunc, Value.pointer none, Value.int IntKind.i32 (0),
          Value.int IntKind.i32 (0)] },
    { k := TK.other, size := 1, bytes := 8, zero := [Value.pointer none] }]
theorem tab_ok : TabOk Go.Proofs.Try.prog tab := tabOk_of _ _ 149 (by kernel_rfl)
end Go.Proofs.Ytcfkendgjinmiaa
/- The data of layer 19, and what is said of lists. -/
set_option linter.unusedVariables false
set_option linter.unusedSimpArgs false
namespace Go.Proofs.Ytcfkendgjinmiaa
open Go.RowKit
open Go.Proofs.Try (prog)
theorem mixed : prog.follows .mixedOrders = true := rfl

structure Leg where
  set : Bool
  ns : List UInt32
deriving DecidableEq
structure Attrs where
  origin : UInt8
  path : List Leg
  next : UInt32
  hasMed : Bool
  med : UInt32
  hasPref : Bool
  pref : UInt32
  tags : List UInt32
deriving DecidableEq
abbrev cB (x : UInt8) : V := .int .u8 x.toNat
abbrev cW (x : UInt32) : V := .int .u32 x.toNat
abbrev cI (n : Nat) : V := .int .i64 n
def encLeg (fr : Bool) (p : Leg) : List V := [.bool p.set, encW fr p.ns]
def encLegs (fr : Bool) (l : List Leg) : V := .sl fr 2 (l.map (encLeg fr))
def cellsA (fr : Bool) (a : Attrs) : List V := [cB a.origin, encLegs fr a.path, cW a.next, .bool a.hasMed, cW a.med, .bool a.hasPref, cW a.pref, encW fr a.tags]
def encA (fr : Bool) (a : Attrs) : V := .agg (cellsA fr a)

theorem encLeg_free (fr : Bool) (p : Leg) : ∀ v ∈ encLeg fr p, Free v := by
  intro v hv
  simp [encLeg] at hv
  rcases hv with rfl | rfl
  · exact .bool
  · exact encW_free _ _
theorem rowsLegs_free (fr : Bool) (l : List Leg) : ∀ x ∈ l.map (encLeg fr), ∀ v ∈ x, Free v := by
  intro x hx v hv
  obtain ⟨p, _, rfl⟩ := List.mem_map.1 hx
  exact encLeg_free fr p v hv
theorem encLegs_free (fr : Bool) (l : List Leg) : Free (encLegs fr l) := .sl (rowsLegs_free fr l)
theorem cellsA_free (fr : Bool) (a : Attrs) : ∀ v ∈ cellsA fr a, Free v := by
  intro v hv
  simp [cellsA] at hv
  rcases hv with rfl | rfl | rfl | rfl | rfl | rfl | rfl | rfl
  all_goals first | exact .int | exact .bool | exact encLegs_free _ _ | exact encW_free _ _
theorem encA_free (fr : Bool) (a : Attrs) : Free (encA fr a) := .agg (cellsA_free fr a)
theorem encLegs_cold (l : List Leg) : Cold (encLegs false l) := .sl (by
  intro x hx v hv
  obtain ⟨p, _, rfl⟩ := List.mem_map.1 hx
  simp [encLeg] at hv
  rcases hv with rfl | rfl
  · exact .bool
  · exact encW_cold _)
theorem encLegs_fresh (l : List Leg) : Fresh (encLegs true l) := .sl (by
  intro x hx v hv
  obtain ⟨p, _, rfl⟩ := List.mem_map.1 hx
  simp [encLeg] at hv
  rcases hv with rfl | rfl
  · exact .bool
  · exact encW_fresh _)
theorem encA_cold (a : Attrs) : Cold (encA false a) := .agg (by
  intro v hv
  simp [cellsA] at hv
  rcases hv with rfl | rfl | rfl | rfl | rfl | rfl | rfl | rfl
  all_goals first | exact .int | exact .bool | exact encLegs_cold _ | exact encW_cold _)
theorem encA_fresh (a : Attrs) : Fresh (encA true a) := .agg (by
  intro v hv
  simp [cellsA] at hv
  rcases hv with rfl | rfl | rfl | rfl | rfl | rfl | rfl | rfl
  all_goals first | exact .int | exact .bool | exact encLegs_fresh _ | exact encW_fresh _)

/-- Blocks of values without ids, kept as they are. -/
def FreeB : Blk → Prop
  | .var _ _ cells => ∀ v ∈ cells, Free v
  | .arr _ _ _ _ rows => ∀ x ∈ rows, ∀ v ∈ x, Free v
  | .loop .. => False
theorem LeL.free {h : Heap} {nx nx' : Nat} {ρ : Nat → Nat} {Z : List Nat} : ∀ {cells : List V}, (∀ v ∈ cells, Free v) → LeL h nx ρ nx' Z cells cells
  | [], _ => trivial
  | v :: r, hf => ⟨.free (hf v (by simp)), LeL.free (fun v hv => hf v (by simp [hv]))⟩
theorem LeB.free {h : Heap} {nx nx' : Nat} {ρ : Nat → Nat} {Z : List Nat} {blk : Blk} (hf : FreeB blk) : LeB h nx ρ nx' Z blk blk := by
  cases blk with
  | var fr ty cells => exact ⟨id, rfl, LeL.free hf⟩
  | arr fr ex ty sz rows => exact .arr hf
  | loop => exact hf.elim
theorem LeB.rows {h : Heap} {nx nx' : Nat} {ρ : Nat → Nat} {Z : List Nat} {fr ex : Bool} {ty sz : Nat} {rows rows' : List (List V)} (hl : rows.length = rows'.length)
    (hr : ∀ (j : Nat) (x x' : List V), rows[j]? = some x → rows'[j]? = some x' → LeL h nx ρ nx' Z x x') : LeB h nx ρ nx' Z (.arr fr ex ty sz rows) (.arr fr ex ty sz rows') := by
  have key : ∀ (rows rows' : List (List V)), rows.length = rows'.length → (∀ (j : Nat) (x x' : List V), rows[j]? = some x → rows'[j]? = some x' → LeL h nx ρ nx' Z x x') →
      rows.map List.length = rows'.map List.length ∧ ∀ (j : Nat) (v v' : V), rows.flatten[j]? = some v → rows'.flatten[j]? = some v' → LeV h nx ρ nx' Z v v' := by
    intro rows
    induction rows with
    | nil => intro rows' hl _; cases rows' with
      | nil => simp
      | cons _ _ => simp at hl
    | cons x r ih =>
      intro rows' hl hr
      cases rows' with
      | nil => simp at hl
      | cons x' r' =>
        obtain ⟨q1, q2⟩ := ih r' (by simpa using hl) (fun j y y' h1 h2 => hr (j + 1) y y' (by simpa using h1) (by simpa using h2))
        have hx := (hr 0 x x' rfl rfl).out
        refine ⟨by simp [q1, hx.1], fun j v v' h1 h2 => ?_⟩
        rw [List.flatten_cons] at h1 h2
        rcases Nat.lt_or_ge j x.length with hj | hj
        · rw [List.getElem?_append_left hj] at h1
          rw [List.getElem?_append_left (by omega)] at h2
          exact hx.2 j v v' h1 h2
        · rw [List.getElem?_append_right hj] at h1
          rw [List.getElem?_append_right (by omega), ← hx.1] at h2
          exact q2 _ v v' h1 h2
  obtain ⟨h1, h2⟩ := key rows rows' hl hr
  exact ⟨id, id, rfl, rfl, h1, h2⟩
theorem LeB.set {h : Heap} {nx nx' : Nat} {ρ : Nat → Nat} {Z : List Nat} {fr ex : Bool} {ty sz i : Nat} {rows : List (List V)} {x x' : List V} (hf : ∀ x ∈ rows, ∀ v ∈ x, Free v) (hx : LeL h nx ρ nx' Z x x') :
    LeB h nx ρ nx' Z (.arr fr ex ty sz (rows.set i x)) (.arr fr ex ty sz (rows.set i x')) :=
  LeB.rows (by simp) fun j y y' h1 h2 => by
    rw [List.getElem?_set] at h1 h2
    split at h1
    · rename_i e
      subst e
      split at h1
      · rename_i hlt
        rw [if_pos rfl, if_pos hlt] at h2
        cases h1; cases h2
        exact hx
      · cases h1
    · rename_i e
      rw [if_neg e] at h2
      rw [h1] at h2; cases h2
      exact LeL.free (hf _ (List.mem_of_getElem? h1))
theorem ne_none_of {ob : Option Blk} {x : Blk} (h : ob = some x) : ob ≠ none := by rw [h]; simp
def sameH (h : Heap) (nx' : Nat) : Heap → Prop
  | [] => True
  | (b, some blk) :: r => (hget h b = some blk ∧ FreeB blk ∧ b < nx') ∧ sameH h nx' r
  | (_, none) :: r => sameH h nx' r
theorem sameH.out {h : Heap} {nx nx' : Nat} : ∀ {h' : Heap}, sameH h nx' h' → leHL h nx id nx' [] h'
  | [], _ => trivial
  | (b, none) :: r, hh => sameH.out (h' := r) hh
  | (b, some blk) :: r, hh => ⟨⟨hh.1.2.2, .inl ⟨by simp, blk, hh.1.1, LeB.free hh.1.2.1⟩⟩, sameH.out hh.2⟩
theorem LeH.same {base : Nat} {h h' : Heap} {nx nx' : Nat} (hs : sameH h nx' h') (hn : base ≤ nx') : LeH base h nx id nx' [] h' :=
  LeH.of hs.out (fun _ _ _ _ h => h) (fun _ _ => rfl) hn (by simp)
theorem idxW {l : List UInt32} {i : Nat} (h : i < l.length) : (l.map fun x => [V.int .u32 x.toNat])[(i : Int).toNat]? = some [.int .u32 l[i].toNat] := by simp [h]
theorem idxB {l : List UInt8} {i : Nat} (h : i < l.length) : (l.map fun x => [V.int .u8 x.toNat])[(i : Int).toNat]? = some [.int .u8 l[i].toNat] := by simp [h]
theorem idxL {fr : Bool} {l : List Leg} {i : Nat} (h : i < l.length) : (l.map (encLeg fr))[(i : Int).toNat]? = some (encLeg fr l[i]) := by simp [h]
theorem wrap64_succ {n i : Nat} (h : i < n) (hn : n ≤ maxLen) : IntKind.i64.wrap ((i : Int) + 1) = ((i + 1 : Nat) : Int) := by
  rw [wrap64] <;> unfold maxLen at hn <;> omega
theorem wrap64_pred {n i : Nat} (h : i < n) (hn : n ≤ maxLen) : IntKind.i64.wrap (((i + 1 : Nat) : Int) - 1) = i := by
  rw [wrap64] <;> unfold maxLen at hn <;> omega

theorem all_take_succ {α : Type} {p : α → Bool} {l : List α} {i : Nat} (h : i < l.length) : (l.take (i + 1)).all p = ((l.take i).all p && p l[i]) := by
  rw [List.take_succ_eq_append_getElem h, List.all_append]; simp
theorem all_false {α : Type} {p : α → Bool} {l : List α} {i : Nat} (h : i < l.length) (hp : p l[i] = false) : l.all p = false := by
  rw [List.all_eq_false]
  exact ⟨l[i], List.getElem_mem h, by simp [hp]⟩
end Go.Proofs.Ytcfkendgjinmiaa
/- What is read at the types of layer 19. -/
set_option linter.unusedVariables false
set_option linter.unusedSimpArgs false
namespace Go.Proofs.Ytcfkendgjinmiaa
open Go.RowKit Go.ChangeShapes Go.WideShapes
open Go.Proofs.Try (prog)

theorem rep_words : RepOk prog 24 (fun l : List UInt32 => [encW false l]) :=
  rep_slice (cells := fun x : UInt32 => [.int .u32 x.toNat]) Go.Proofs.Try.underlying24 (by kernel_rfl) (by decide) (fun _ => rfl) (rep_u32 Go.Proofs.Try.underlying23)
theorem rep_bytes : RepOk prog 30 (fun l : List UInt8 => [encB false l]) :=
  rep_slice (cells := fun x : UInt8 => [.int .u8 x.toNat]) Go.Proofs.Try.underlying30 (by kernel_rfl) (by decide) (fun _ => rfl) (rep_u8 Go.Proofs.Try.underlying5)
theorem vrs_join {G : Gh} {w : World} {vs : List V} {us : List Value} {v : V} {k n : Nat} (h : vrs G w vs (us.take n)) (hv : vrs G w [v] ((us.drop k).take 1)) (hk : k = n) (hn : n < us.length) : vrs G w (vs ++ [v]) (us.take (n + 1)) := by
  subst hk
  rw [List.take_succ_eq_append_getElem hn]
  refine h.append ?_
  rw [List.drop_eq_getElem_cons hn, List.take_succ_cons, List.take_zero] at hv
  exact hv
theorem one_join {us : List Value} {k n : Nat} (h : ∀ u ∈ us.take n, u.oneCell' = true) (hv : ∀ u ∈ (us.drop k).take 1, u.oneCell' = true) (hk : k = n) (hn : n < us.length) : ∀ u ∈ us.take (n + 1), u.oneCell' = true := by
  subst hk
  rw [List.take_succ_eq_append_getElem hn]
  intro u hu
  rcases List.mem_append.1 hu with hu | hu
  · exact h u hu
  · refine hv u ?_
    rw [List.drop_eq_getElem_cons hn, List.take_succ_cons, List.take_zero]
    exact hu
theorem vrs_take0 {G : Gh} {w : World} {us : List Value} : vrs G w [] (us.take 0) := by simp [vrs]
theorem field_at {H : Type} {enc : TypeId × Value → H} {w : World} {sp : Nat → Bool} {t : TypeId} {fs : Array Field} {fuel : Nat} {cs : List Value} {x : DataW H × List MemPlace} (ht : prog.underlying t = some (.struct fs)) (h : DataW.trod enc prog w 0 sp true fuel t cs = some x)
    (i : Nat) {f : Field} (hf : fs[i]? = some f) {α : Type} {cells : α → List V} (he : RepOk prog f.type cells) (ho : f.offset = i) (hz : prog.cellsOf f.type = 1) : ∃ a, vrs (G0 w) w (cells a) ((cs.drop i).take 1) ∧ ∀ u ∈ (cs.drop i).take 1, u.oneCell' = true := by
  have := field_of ht h hf he
  rw [ho, hz] at this
  exact this
theorem rep_leg : RepOk prog 54 (encLeg false) := fun enc w sp fuel cs x h => by
  have ht := Go.Proofs.Try.underlying54
  obtain ⟨xs, n, _, _, hlen, _, _⟩ := DataW.trod_struct ht h
  have hl : cs.length = 2 := hlen.trans (by kernel_rfl)
  obtain ⟨b, h0, o0⟩ := field_at ht h 0 rfl (rep_bool Go.Proofs.Try.underlying4) rfl (by kernel_rfl)
  obtain ⟨l, h1, o1⟩ := field_at ht h 1 rfl rep_words rfl (by kernel_rfl)
  have j1 := vrs_join (vrs_join vrs_take0 h0 rfl (by omega)) h1 rfl (by omega)
  have k1 := one_join (one_join (by simp) o0 rfl (by omega)) o1 rfl (by omega)
  rw [List.take_of_length_le (by omega)] at j1 k1
  exact ⟨⟨b, l⟩, j1, k1⟩
theorem rep_legs : RepOk prog 22 (fun l : List Leg => [encLegs false l]) :=
  rep_slice (cells := encLeg false) Go.Proofs.Try.underlying22 (by kernel_rfl) (by decide) (fun _ => rfl) rep_leg
theorem rep_attrs : RepOk prog 26 (cellsA false) := fun enc w sp fuel cs x h => by
  have ht := Go.Proofs.Try.underlying26
  obtain ⟨xs, n, _, _, hlen, _, _⟩ := DataW.trod_struct ht h
  have hl : cs.length = 8 := hlen.trans (by kernel_rfl)
  obtain ⟨a0, h0, o0⟩ := field_at ht h 0 rfl (rep_u8 Go.Proofs.Try.underlying5) rfl (by kernel_rfl)
  obtain ⟨a1, h1, o1⟩ := field_at ht h 1 rfl rep_legs rfl (by kernel_rfl)
  obtain ⟨a2, h2, o2⟩ := field_at ht h 2 rfl (rep_u32 Go.Proofs.Try.underlying23) rfl (by kernel_rfl)
  obtain ⟨a3, h3, o3⟩ := field_at ht h 3 rfl (rep_bool Go.Proofs.Try.underlying4) rfl (by kernel_rfl)
  obtain ⟨a4, h4, o4⟩ := field_at ht h 4 rfl (rep_u32 Go.Proofs.Try.underlying23) rfl (by kernel_rfl)
  obtain ⟨a5, h5, o5⟩ := field_at ht h 5 rfl (rep_bool Go.Proofs.Try.underlying4) rfl (by kernel_rfl)
  obtain ⟨a6, h6, o6⟩ := field_at ht h 6 rfl (rep_u32 Go.Proofs.Try.underlying23) rfl (by kernel_rfl)
  obtain ⟨a7, h7, o7⟩ := field_at ht h 7 rfl rep_words rfl (by kernel_rfl)
  have j := vrs_join (vrs_join (vrs_join (vrs_join (vrs_join (vrs_join (vrs_join (vrs_join vrs_take0 h0 rfl (by omega)) h1 rfl (by omega)) h2 rfl (by omega)) h3 rfl (by omega)) h4 rfl (by omega)) h5 rfl (by omega)) h6 rfl (by omega)) h7 rfl (by omega)
  have k := one_join (one_join (one_join (one_join (one_join (one_join (one_join (one_join (by simp) o0 rfl (by omega)) o1 rfl (by omega)) o2 rfl (by omega)) o3 rfl (by omega)) o4 rfl (by omega)) o5 rfl (by omega)) o6 rfl (by omega)) o7 rfl (by omega)
  rw [List.take_of_length_le (by omega)] at j k
  exact ⟨⟨a0, a1, a2, a3, a4, a5, a6, a7⟩, j, k⟩
theorem arg_attrs : ArgOk prog 26 (encA false) := arg_struct Go.Proofs.Try.underlying26 rep_attrs
theorem arg_bytes : ArgOk prog 30 (encB false) := arg_slice Go.Proofs.Try.underlying30 rep_bytes
theorem arg_i64 : ArgOk prog 3 (fun n : I64 => .int .i64 n.1) := arg_int Go.Proofs.Try.underlying3 (rep_i64 Go.Proofs.Try.underlying3)
theorem arg_u8 : ArgOk prog 5 (fun x : UInt8 => .int .u8 x.toNat) := arg_int Go.Proofs.Try.underlying5 (rep_u8 Go.Proofs.Try.underlying5)
theorem arg_u32 : ArgOk prog 23 (fun x : UInt32 => .int .u32 x.toNat) := arg_int Go.Proofs.Try.underlying23 (rep_u32 Go.Proofs.Try.underlying23)
theorem laidOut : laidOutB prog = true := by kernel_rfl
theorem own : ownKnob prog.godebug = none := by kernel_rfl
theorem read26 : prog.readableRec 26 = true ∧ 26 < prog.types.size := ⟨by kernel_rfl, of_decide_eq_true (by kernel_rfl)⟩
theorem read30 : prog.readableRec 30 = true ∧ 30 < prog.types.size := ⟨by kernel_rfl, of_decide_eq_true (by kernel_rfl)⟩
theorem read3 : prog.readableRec 3 = true ∧ 3 < prog.types.size := ⟨by kernel_rfl, of_decide_eq_true (by kernel_rfl)⟩
theorem read5 : prog.readableRec 5 = true ∧ 5 < prog.types.size := ⟨by kernel_rfl, of_decide_eq_true (by kernel_rfl)⟩
theorem read23 : prog.readableRec 23 = true ∧ 23 < prog.types.size := ⟨by kernel_rfl, of_decide_eq_true (by kernel_rfl)⟩
end Go.Proofs.Ytcfkendgjinmiaa
/- Contracts of small functions. -/
set_option linter.unusedVariables false
set_option linter.unusedSimpArgs false
namespace Go.Proofs.Ytcfkendgjinmiaa
open Go.RowKit
open Go.Proofs.Try (prog)
attribute [local irreducible] CallV RoundV

/-- A number of bytes, the higher ahead. -/
def wordOf (b : List UInt8) : UInt32 := b.foldl (fun n c => n * 256 + c.toUInt32) 0
theorem wordOf_take {b : List UInt8} {i : Nat} (h : i < b.length) : wordOf (b.take (i + 1)) = wordOf (b.take i) * 256 + b[i].toUInt32 := by
  rw [List.take_succ_eq_append_getElem h, wordOf, List.foldl_append]; rfl
set_option maxRecDepth 100000 in
theorem word_ok (fr : Bool) (b : List UInt8) : PCon prog 86 [encB fr b] (.int .u32 (wordOf b).toNat) := by
  refine callV_of (fn := Go.Proofs.Try.f86) (body := _) tab_ok mixed rfl rfl (by decide) (by simp [Go.Proofs.Try.f86]) ?_
  (conv => whnf)
  refine vcg_loop tab_ok mixed (fun i : {i : Nat // i ≤ b.length} => ⟨[(0, encB fr b), (3, .int .u32 (wordOf (b.take i.1)).toNat), (4, .int .i64 i.1)], [], 0⟩) (fun i => b.length - i.1) ⟨0, Nat.zero_le _⟩ (Wk.of id [] ⟨?_, ?_, ?_, trivial⟩ (LeH.nil (Nat.le_refl _) (fun b h => by omega) (by simp))) (fun i => ?_)
  · exact .free (encB_free _ _)
  · exact .int_of rfl
  · exact .int_of rfl
  obtain ⟨i, hi⟩ := i
  (conv => whnf)
  intro hl
  have hl : b.length ≤ maxLen := by simpa [gd] using hl
  (conv => whnf)
  split
  · rename_i hc
    have hc : i < b.length := by simpa using hc
    (conv => whnf)
    refine ⟨rfl, [.int .u8 b[i].toNat], ⟨by omega, by simp [hc]⟩, ?_⟩
    (conv => whnf)
    refine ⟨⟨i + 1, by omega⟩, Wk.of id [] ⟨?_, ?_, ?_, trivial⟩ (LeH.nil (Nat.le_refl _) (fun b h => by omega) (by simp)), by simp only; omega⟩
    · exact .free (encB_free _ _)
    · refine .int_of ?_
      rw [wordOf_take hc, wrap32, wrap32, wrap32]
      simp [UInt32.toNat_add, UInt32.toNat_mul]
    · refine .int_of ?_
      simp only
      rw [wrap64] <;> unfold maxLen at hl <;> omega
  · rename_i hc
    have hc : i = b.length := by simp at hc; omega
    subst hc
    (conv => whnf)
    refine Ends.pure [] (.int_of ?_) (by simp)
    simp

def rises : List UInt32 → Bool
  | a :: b :: r => decide (a < b) && rises (b :: r)
  | _ => true
theorem rises_take_succ {l : List UInt32} : ∀ {i : Nat} (h : i + 1 < l.length), rises (l.take (i + 2)) = (rises (l.take (i + 1)) && decide (l[i] < l[i + 1])) := by
  induction l with
  | nil => intro i h; simp at h
  | cons a l ih =>
    intro i h
    cases l with
    | nil => simp at h
    | cons b r =>
      cases i with
      | zero => simp [rises]
      | succ i =>
        have := ih (i := i) (by simpa using h)
        simp only [List.take_succ_cons, List.getElem_cons_succ] at this ⊢
        cases i with
        | zero => simp [rises] at this ⊢; rw [this]
        | succ i =>
          simp only [List.take_succ_cons, rises] at this ⊢
          rw [this]
          simp [Bool.and_assoc]
theorem rises_take_false {l : List UInt32} {i : Nat} (h : i ≤ l.length) (hf : rises (l.take i) = false) : rises l = false := by
  induction l generalizing i with
  | nil => simp [rises] at hf
  | cons a l ih =>
    cases i with
    | zero => simp [rises] at hf
    | succ i =>
      cases l with
      | nil => simp [rises] at hf
      | cons b r =>
        cases i with
        | zero => simp [rises] at hf
        | succ i =>
          have h2 := ih (i := i + 1) (by simpa using h)
          simp only [List.take_succ_cons, rises, Bool.and_eq_false_iff] at hf h2 ⊢
          rcases hf with hf | hf
          · exact .inl hf
          · exact .inr (h2 hf)

set_option maxRecDepth 100000 in
theorem rise_ok (fr : Bool) (l : List UInt32) : PCon prog 39 [encW fr l] (.bool (rises l)) := by
  refine callV_of (fn := Go.Proofs.Try.f39) (body := _) tab_ok mixed rfl rfl (by decide) (by simp [Go.Proofs.Try.f39]) ?_
  (conv => whnf)
  intro hl
  have hl : l.length ≤ maxLen := by simpa [gd] using hl
  (conv => whnf)
  refine vcg_loop tab_ok mixed (fun i : {i : Nat // i ≤ l.length ∧ rises (l.take i) = true} => ⟨[(0, encW fr l), (5, .int .i64 l.length), (6, .int .i64 i.1)], [], 0⟩) (fun i => l.length - i.1) ⟨0, Nat.zero_le _, rfl⟩ (Wk.of id [] ⟨?_, ?_, ?_, trivial⟩ (LeH.nil (Nat.le_refl _) (fun b h => by omega) (by simp))) (fun i => ?_)
  · exact .free (encW_free _ _)
  · exact .int_of (by simp)
  · exact .int_of rfl
  obtain ⟨i, hi, hr⟩ := i
  (conv => whnf)
  split
  · rename_i hc
    have hc : i < l.length := by simpa using hc
    (conv => whnf)
    split
    · rename_i h0
      obtain ⟨k, rfl⟩ : ∃ k, i = k + 1 := ⟨i - 1, by simp at h0; omega⟩
      have e1 : IntKind.i64.wrap (((k + 1 : Nat) : Int) - 1) = k := by rw [wrap64'] ; unfold maxLen at hl; omega
      refine ⟨rfl, [.int .u32 (l[k]'(by omega)).toNat], ⟨by simp only [e1]; omega, by simp only [e1]; exact idxW _⟩, ?_⟩
      (conv => whnf)
      refine ⟨rfl, [.int .u32 (l[k + 1]).toNat], ⟨by simp only; omega, idxW _⟩, ?_⟩
      (conv => whnf)
      refine ⟨by kernel_rfl, ?_⟩
      (conv => whnf)
      split
      · rename_i h1
        (conv => whnf)
        refine Ends.pure [] (.bool_of ?_) (by simp)
        symm
        refine rises_take_false (i := k + 2) (by omega) ?_
        rw [rises_take_succ hc]
        simp only [Bool.and_eq_false_iff, decide_eq_false_iff_not]
        right
        simpa [UInt32.lt_iff_toNat_lt] using h1
      · rename_i h1
        (conv => whnf)
        refine ⟨⟨k + 2, by omega, ?_⟩, Wk.of id [] ⟨?_, ?_, ?_, trivial⟩ (LeH.nil (Nat.le_refl _) (fun b h => by omega) (by simp)), by simp only; omega⟩
        · rw [rises_take_succ hc, hr]
          simpa [UInt32.lt_iff_toNat_lt] using h1
        · exact .free (encW_free _ _)
        · exact .int_of rfl
        · refine .int_of ?_
          simp only
          rw [wrap64] <;> unfold maxLen at hl <;> omega
    · rename_i h0
      have h0 : i = 0 := by simp at h0; omega
      subst h0
      (conv => whnf)
      refine ⟨by kernel_rfl, ?_⟩
      (conv => whnf)
      refine ⟨⟨1, by omega, ?_⟩, Wk.of id [] ⟨?_, ?_, ?_, trivial⟩ (LeH.nil (Nat.le_refl _) (fun b h => by omega) (by simp)), by simp only; omega⟩
      · cases l with
        | nil => rfl
        | cons a l => simp [rises]
      · exact .free (encW_free _ _)
      · exact .int_of rfl
      · exact .int_of rfl
  · rename_i hc
    have hc : i = l.length := by simp at hc; omega
    subst hc
    (conv => whnf)
    refine Ends.pure [] (.bool_of ?_) (by simp)
    simpa using hr.symm
end Go.Proofs.Ytcfkendgjinmiaa
/- Contracts: what may be said of paths. -/
set_option linter.unusedVariables false
set_option linter.unusedSimpArgs false
namespace Go.Proofs.Ytcfkendgjinmiaa
open Go.RowKit
open Go.Proofs.Try (prog)
attribute [local irreducible] CallV RoundV

set_option maxRecDepth 100000 in
theorem ref_rise_ok (fr : Bool) (l : List UInt32) : PCon prog 42 [encW fr l] (.bool (rises l)) := by
  refine callV_of (fn := Go.Proofs.Try.f42) (body := _) tab_ok mixed rfl rfl (by decide) (by simp [Go.Proofs.Try.f42]) ?_
  (conv => whnf)
  refine vcg_loop tab_ok mixed (fun i : {i : Nat // i < l.length + 1 ∧ rises (l.take (i + 1)) = true} => ⟨[(0, encW fr l), (3, .int .i64 ((i.1 + 1 : Nat) : Int))], [], 0⟩) (fun i => l.length - i.1) ⟨0, by omega, ?_⟩ (Wk.of id [] ⟨?_, ?_, trivial⟩ (LeH.nil (Nat.le_refl _) (fun b h => by omega) (by simp))) (fun i => ?_)
  · cases l with
    | nil => rfl
    | cons a l => simp [rises]
  · exact .free (encW_free _ _)
  · exact .int_of rfl
  obtain ⟨i, hi, hr⟩ := i
  (conv => whnf)
  intro hl
  have hl : l.length ≤ maxLen := by simpa [gd] using hl
  (conv => whnf)
  split
  · rename_i hc
    have hc : i + 1 < l.length := by simp at hc; omega
    (conv => whnf)
    refine ⟨rfl, [.int .u32 (l[i]'(by omega)).toNat], ⟨by simp only [wrap64_pred hc hl, show (i : Nat) < l.length by omega, wrap64_pred (show i < l.length by omega) hl]; omega, by simp only [wrap64_pred (show i < l.length by omega) hl]; exact idxW _⟩, ?_⟩
    (conv => whnf)
    refine ⟨rfl, [.int .u32 (l[i + 1]).toNat], ⟨by simp only; omega, idxW _⟩, ?_⟩
    (conv => whnf)
    refine ⟨by kernel_rfl, ?_⟩
    (conv => whnf)
    split
    · rename_i h1
      (conv => whnf)
      refine Ends.pure [] (.bool_of ?_) (by simp)
      symm
      refine rises_take_false (i := i + 2) (by omega) ?_
      rw [rises_take_succ hc]
      simp only [Bool.and_eq_false_iff, decide_eq_false_iff_not]
      right
      simpa [UInt32.lt_iff_toNat_lt] using h1
    · rename_i h1
      (conv => whnf)
      refine ⟨⟨i + 1, by omega, ?_⟩, Wk.of id [] ⟨?_, ?_, trivial⟩ (LeH.nil (Nat.le_refl _) (fun b h => by omega) (by simp)), by simp only; omega⟩
      · rw [rises_take_succ hc, hr]
        simpa [UInt32.lt_iff_toNat_lt] using h1
      · exact .free (encW_free _ _)
      · exact .int_of (wrap64_succ hc hl)
  · rename_i hc
    have hc : l.length ≤ i + 1 := by simp at hc; omega
    (conv => whnf)
    refine Ends.pure [] (.bool_of ?_) (by simp)
    rw [List.take_of_length_le hc] at hr
    exact hr.symm

set_option maxRecDepth 100000 in
theorem words_ok (fr fr' : Bool) (a b : List UInt32) : PCon prog 40 [encW fr a, encW fr' b] (.bool (decide (a = b))) := by
  refine callV_of (fn := Go.Proofs.Try.f40) (body := _) tab_ok mixed rfl rfl (by decide) (by simp [Go.Proofs.Try.f40]) ?_
  (conv => whnf)
  intro ha
  have ha : a.length ≤ maxLen := by simpa [gd] using ha
  (conv => whnf)
  intro hb
  (conv => whnf)
  split
  · rename_i hne
    (conv => whnf)
    refine Ends.pure [] (.bool_of ?_) (by simp)
    symm
    rw [decide_eq_false_iff_not]
    rintro rfl
    simp at hne
  · rename_i hne
    have hlen : a.length = b.length := by simp at hne; omega
    (conv => whnf)
    refine vcg_loop tab_ok mixed (fun i : {i : Nat // i ≤ a.length ∧ a.take i = b.take i} => ⟨[(0, encW fr a), (1, encW fr' b), (5, .int .i64 i.1)], [], 0⟩) (fun i => a.length - i.1) ⟨0, by omega, rfl⟩ (Wk.of id [] ⟨?_, ?_, ?_, trivial⟩ (LeH.nil (Nat.le_refl _) (fun b h => by omega) (by simp))) (fun i => ?_)
    · exact .free (encW_free _ _)
    · exact .free (encW_free _ _)
    · exact .int_of rfl
    obtain ⟨i, hi, hr⟩ := i
    (conv => whnf)
    intro _
    (conv => whnf)
    split
    · rename_i hc
      have hc : i < a.length := by simpa using hc
      (conv => whnf)
      refine ⟨rfl, _, ⟨by simp only; omega, idxW hc⟩, ?_⟩
      (conv => whnf)
      refine ⟨rfl, _, ⟨by simp only; omega, idxW (show i < b.length by omega)⟩, ?_⟩
      (conv => whnf)
      refine ⟨by kernel_rfl, ?_⟩
      (conv => whnf)
      split
      · rename_i h1
        (conv => whnf)
        refine Ends.pure [] (.bool_of ?_) (by simp)
        symm
        rw [decide_eq_false_iff_not]
        rintro rfl
        simp at h1
      · rename_i h1
        have h1 : a[i] = b[i] := by
          simp at h1
          exact UInt32.toNat_inj.1 (by omega)
        (conv => whnf)
        refine ⟨⟨i + 1, by omega, ?_⟩, Wk.of id [] ⟨?_, ?_, ?_, trivial⟩ (LeH.nil (Nat.le_refl _) (fun b h => by omega) (by simp)), by simp only; omega⟩
        · rw [List.take_succ_eq_append_getElem hc, List.take_succ_eq_append_getElem (show i < b.length by omega), hr, h1]
        · exact .free (encW_free _ _)
        · exact .free (encW_free _ _)
        · exact .int_of (wrap64_succ hc ha)
    · rename_i hc
      have hc : i = a.length := by simp at hc; omega
      subst hc
      (conv => whnf)
      refine Ends.pure [] (.bool_of ?_) (by simp)
      symm
      rw [decide_eq_true_iff]
      rw [List.take_length, hlen, List.take_length] at hr
      exact hr

/-- May a part be said? -/
def legOk (p : Leg) : Bool := decide (1 ≤ p.ns.length) && decide (p.ns.length ≤ 32) && (!p.set || rises p.ns) && p.ns.all (· != 0)
def pathOk (l : List Leg) : Bool := decide (l.length ≤ 8) && l.all legOk

set_option maxRecDepth 100000 in
theorem ref_part_ok (fr : Bool) (p : Leg) : PCon prog 84 [.agg (encLeg fr p)] (.bool (legOk p)) := by
  refine callV_of (fn := Go.Proofs.Try.f84) (body := _) tab_ok mixed rfl rfl (by decide) (by simp [Go.Proofs.Try.f84]) ?_
  (conv => whnf)
  intro hl
  have hl : p.ns.length ≤ maxLen := by simpa [gd] using hl
  have fin : ∀ {s : St}, legOk p = false → ∃ v1 h' nx', Ends 0 s (.bool false) v1 h' nx' ∧ (v1 = .bool (legOk p) ∧ h' = [] ∧ nx' = 0) := fun h => Ends.pure [] (.bool_of h.symm) (by simp)
  (conv => whnf)
  split
  · rename_i h0
    (conv => whnf)
    exact fin (by simp at h0; simp [legOk]; omega)
  · rename_i h0
    have h0 : 1 ≤ p.ns.length := by simp at h0; omega
    (conv => whnf)
    intro _
    (conv => whnf)
    split
    · rename_i h1
      (conv => whnf)
      exact fin (by simp at h1; simp [legOk]; omega)
    · rename_i h1
      have h1 : p.ns.length ≤ 32 := by simp at h1; omega
      (conv => whnf)
      split
      case' h_1 =>
        rename_i h2
        (conv => whnf)
        refine callV_pure (ref_rise_ok fr p.ns) ⟨.free (encW_free _ _), trivial⟩ ?_
        (conv => whnf)
        split
        · rename_i h3
          (conv => whnf)
          exact fin (by simp at h3; simp [legOk, h2, h3])
        rename_i h3
        have hr : (!p.set || rises p.ns) = true := by simp at h3; simp [h3]
        (conv => whnf)
      case' h_2 =>
        rename_i h2
        have hr : (!p.set || rises p.ns) = true := by simp [h2]
        (conv => whnf)
      all_goals
        refine vcg_loop tab_ok mixed (fun i : {i : Nat // i ≤ p.ns.length ∧ (p.ns.take i).all (· != 0) = true} => ⟨[(1, .ptr 0 0), (3, cI i.1)], [(0, some (.var true 54 (encLeg fr p)))], 1⟩) (fun i => p.ns.length - i.1) ⟨0, by omega, rfl⟩ (Wk.of id [] ⟨?_, ?_, trivial⟩ (LeH.same ⟨⟨rfl, encLeg_free _ _, by omega⟩, trivial⟩ (by omega))) (fun i => ?_)
        · exact .ptr rfl (by omega)
        · exact .int_of rfl
        obtain ⟨i, hi, hz⟩ := i
        (conv => whnf)
        intro _
        (conv => whnf)
        split
        · rename_i hc
          have hc : i < p.ns.length := by simpa using hc
          (conv => whnf)
          refine ⟨rfl, _, ⟨by simp only; omega, idxW hc⟩, ?_⟩
          (conv => whnf)
          split
          · rename_i h4
            (conv => whnf)
            refine fin ?_
            have := all_false (p := (· != 0)) hc (by
              simp at h4
              simp only [bne_eq_false_iff_eq]
              exact UInt32.toNat_inj.1 (by simp; omega))
            simp [legOk, this]
          · rename_i h4
            (conv => whnf)
            refine ⟨⟨i + 1, by omega, ?_⟩, Wk.of id [] ⟨?_, ?_, trivial⟩ (LeH.same ⟨⟨rfl, encLeg_free _ _, by omega⟩, trivial⟩ (by omega)), by simp only; omega⟩
            · rw [all_take_succ hc, hz]
              simp at h4
              simp only [Bool.true_and, bne_iff_ne, ne_eq]
              intro e
              rw [e] at h4
              simp at h4
            · exact .ptr rfl (by omega)
            · exact .int_of (wrap64_succ hc hl)
        · rename_i hc
          have hc : i = p.ns.length := by simp at hc; omega
          subst hc
          (conv => whnf)
          refine Ends.pure [] (.bool_of ?_) (by simp)
          rw [List.take_length] at hz
          simp only [legOk, hr, hz, Bool.and_true]
          simp [h0, h1]
end Go.Proofs.Ytcfkendgjinmiaa
/- Contracts: paths, and what may be said. -/
set_option linter.unusedVariables false
set_option linter.unusedSimpArgs false
namespace Go.Proofs.Ytcfkendgjinmiaa
open Go.RowKit
open Go.Proofs.Try (prog)
attribute [local irreducible] CallV RoundV

set_option maxRecDepth 100000 in
theorem ref_path_ok (fr : Bool) (l : List Leg) : PCon prog 41 [encLegs fr l] (.bool (pathOk l)) := by
  refine callV_of (fn := Go.Proofs.Try.f41) (body := _) tab_ok mixed rfl rfl (by decide) (by simp [Go.Proofs.Try.f41]) ?_
  (conv => whnf)
  intro hl
  have hl : l.length ≤ maxLen := by simpa [gd] using hl
  (conv => whnf)
  split
  · rename_i h0
    (conv => whnf)
    exact Ends.pure [] (.bool_of (by simp at h0; simp [pathOk]; omega)) (by simp)
  rename_i h0
  have h0 : l.length ≤ 8 := by simp at h0; omega
  (conv => whnf)
  refine vcg_loop tab_ok mixed (fun i : {i : Nat // i ≤ l.length ∧ (l.take i).all legOk = true} => ⟨[(0, encLegs fr l), (3, cI i.1)], [], 0⟩) (fun i => l.length - i.1) ⟨0, by omega, rfl⟩ (Wk.of id [] ⟨?_, ?_, trivial⟩ (LeH.nil (Nat.le_refl _) (fun b h => by omega) (by simp))) (fun i => ?_)
  · exact .free (encLegs_free _ _)
  · exact .int_of rfl
  obtain ⟨i, hi, hz⟩ := i
  (conv => whnf)
  intro _
  (conv => whnf)
  split
  · rename_i hc
    have hc : i < l.length := by simpa using hc
    (conv => whnf)
    refine ⟨rfl, _, ⟨by simp only; omega, idxL hc⟩, ?_⟩
    (conv => whnf)
    refine callV_pure (ref_part_ok fr l[i]) ⟨.free (.agg (encLeg_free _ _)), trivial⟩ ?_
    (conv => whnf)
    split
    · rename_i h1
      (conv => whnf)
      refine Ends.pure [] (.bool_of ?_) (by simp)
      have := all_false (p := legOk) hc (by simpa using h1)
      simp [pathOk, this]
    · rename_i h1
      (conv => whnf)
      refine ⟨⟨i + 1, by omega, ?_⟩, Wk.of id [] ⟨?_, ?_, trivial⟩ (LeH.nil (Nat.le_refl _) (fun b h => by omega) (by simp)), by simp only; omega⟩
      · rw [all_take_succ hc, hz]; simpa using h1
      · exact .free (encLegs_free _ _)
      · exact .int_of (wrap64_succ hc hl)
  · rename_i hc
    have hc : i = l.length := by simp at hc; omega
    subst hc
    (conv => whnf)
    refine Ends.pure [] (.bool_of ?_) (by simp)
    rw [List.take_length] at hz
    simp [pathOk, hz, h0]

set_option maxRecDepth 100000 in
theorem index_ok (fr : Bool) (l : List UInt32) (x : UInt32) : PCon prog 100 [encW fr l, cW x] (.int .i64 (if l.all (· != x) then -1 else (l.findIdx (· == x) : Nat))) := by
  refine callV_of (fn := Go.Proofs.Try.f100) (body := _) tab_ok mixed rfl rfl (by decide) (by simp [Go.Proofs.Try.f100]) ?_
  (conv => whnf)
  intro hl
  have hl : l.length ≤ maxLen := by simpa [gd] using hl
  (conv => whnf)
  refine vcg_loop tab_ok mixed (fun i : {i : Nat // i ≤ l.length ∧ (l.take i).all (· != x) = true} => ⟨[(0, encW fr l), (1, cW x), (7, cI l.length), (8, cI i.1)], [], 0⟩) (fun i => l.length - i.1) ⟨0, by omega, rfl⟩ (Wk.of id [] ⟨?_, ?_, ?_, ?_, trivial⟩ (LeH.nil (Nat.le_refl _) (fun b h => by omega) (by simp))) (fun i => ?_)
  · exact .free (encW_free _ _)
  · exact .int_of rfl
  · exact .int_of (by simp)
  · exact .int_of rfl
  obtain ⟨i, hi, hz⟩ := i
  (conv => whnf)
  split
  · rename_i hc
    have hc : i < l.length := by simpa using hc
    (conv => whnf)
    refine ⟨rfl, _, ⟨by simp only; omega, idxW hc⟩, ?_⟩
    (conv => whnf)
    split
    · rename_i h1
      have h1 : l[i] = x := by simp at h1; exact UInt32.toNat_inj.1 (by omega)
      (conv => whnf)
      refine Ends.pure [] (.int_of ?_) (by simp)
      have := all_false (p := (· != x)) hc (by simp [h1])
      rw [if_neg (by rw [this]; simp)]
      congr 1
      symm
      rw [List.findIdx_eq hc]
      refine ⟨by simp [h1], fun j hj => ?_⟩
      rw [List.all_eq_true] at hz
      have := hz (l[j]'(by omega)) (by rw [List.mem_take_iff_getElem]; exact ⟨j, by omega, rfl⟩)
      simpa using this
    · rename_i h1
      (conv => whnf)
      refine ⟨⟨i + 1, by omega, ?_⟩, Wk.of id [] ⟨?_, ?_, ?_, ?_, trivial⟩ (LeH.nil (Nat.le_refl _) (fun b h => by omega) (by simp)), by simp only; omega⟩
      · rw [all_take_succ hc, hz]
        simp at h1
        simp only [Bool.true_and, bne_iff_ne, ne_eq]
        intro e
        rw [e] at h1
        simp at h1
      · exact .free (encW_free _ _)
      · exact .int_of rfl
      · exact .int_of rfl
      · exact .int_of (wrap64_succ hc hl)
  · rename_i hc
    have hc : i = l.length := by simp at hc; omega
    subst hc
    (conv => whnf)
    refine Ends.pure [] (.int_of ?_) (by simp)
    rw [List.take_length] at hz
    rw [if_pos hz]
set_option maxRecDepth 100000 in
theorem contains_ok (fr : Bool) (l : List UInt32) (x : UInt32) : PCon prog 82 [encW fr l, cW x] (.bool (!l.all (· != x))) := by
  refine callV_of (fn := Go.Proofs.Try.f82) (body := _) tab_ok mixed rfl rfl (by decide) (by simp [Go.Proofs.Try.f82]) ?_
  (conv => whnf)
  refine callV_pure (index_ok fr l x) ⟨.free (encW_free _ _), .free .int, trivial⟩ ?_
  (conv => whnf)
  refine Ends.pure [] (.bool_of ?_) (by simp)
  split
  · rename_i h; simp [h]
  · rename_i h; simp at h; simp [h]

set_option maxRecDepth 100000 in
theorem path1_ok (fr : Bool) (p : Leg) : PCon prog 81 [.agg (encLeg fr p)] (.bool (!legOk p)) := by
  refine callV_of (fn := Go.Proofs.Try.f81) (body := _) tab_ok mixed rfl rfl (by decide) (by simp [Go.Proofs.Try.f81]) ?_
  (conv => whnf)
  intro hl
  have hl : p.ns.length ≤ maxLen := by simpa [gd] using hl
  have fin : ∀ {s : St} {b : Bool}, legOk p = !b → ∃ v1 h' nx', Ends 0 s (.bool b) v1 h' nx' ∧ (v1 = .bool (!legOk p) ∧ h' = [] ∧ nx' = 0) := fun h => Ends.pure [] (.bool_of (by rw [h]; simp)) (by simp)
  (conv => whnf)
  split
  · rename_i h0
    (conv => whnf)
    exact fin (by simp at h0; simp [legOk]; omega)
  rename_i h0
  have h0 : 1 ≤ p.ns.length := by simp at h0; omega
  (conv => whnf)
  intro _
  (conv => whnf)
  split
  · rename_i h1
    (conv => whnf)
    exact fin (by simp at h1; simp [legOk]; omega)
  rename_i h1
  have h1 : p.ns.length ≤ 32 := by simp at h1; omega
  (conv => whnf)
  refine callV_pure (contains_ok fr p.ns 0) ⟨.free (encW_free _ _), .free .int, trivial⟩ ?_
  (conv => whnf)
  split
  · rename_i h2
    (conv => whnf)
    exact fin (by simp at h2; simp [legOk]; intros; assumption)
  rename_i h2
  (conv => whnf)
  split
  · rename_i h3
    (conv => whnf)
    refine callV_pure (rise_ok fr p.ns) ⟨.free (encW_free _ _), trivial⟩ ?_
    (conv => whnf)
    refine fin ?_
    simp at h2
    simp [legOk, h0, h1, h3]
    exact fun _ => h2
  · rename_i h3
    (conv => whnf)
    refine fin ?_
    simp at h2
    simp [legOk, h0, h1, h3]
    exact h2
end Go.Proofs.Ytcfkendgjinmiaa
/- Contracts: what may be said (Check, Right). -/
set_option linter.unusedVariables false
set_option linter.unusedSimpArgs false
namespace Go.Proofs.Ytcfkendgjinmiaa
open Go.RowKit
open Go.Proofs.Try (prog)
attribute [local irreducible] CallV RoundV

set_option maxRecDepth 100000 in
theorem indexFunc_ok (fr : Bool) (l : List Leg) : ∃ n : Int, PCon prog 101 [encLegs fr l, .fn (.func 81) [] []] (.int .i64 n) ∧ (0 ≤ n ↔ l.all legOk = false) := by
  refine ⟨if l.all legOk then -1 else (l.findIdx (!legOk ·) : Nat), ?_, by split <;> rename_i h <;> simp [h]⟩
  refine callV_of (fn := Go.Proofs.Try.f101) (body := _) tab_ok mixed rfl rfl (by decide) (by simp [Go.Proofs.Try.f101]) ?_
  (conv => whnf)
  intro hl
  have hl : l.length ≤ maxLen := by simpa [gd] using hl
  (conv => whnf)
  refine vcg_loop tab_ok mixed (fun i : {i : Nat // i ≤ l.length ∧ (l.take i).all legOk = true} => ⟨[(0, encLegs fr l), (1, .fn (.func 81) [] []), (7, cI l.length), (8, cI i.1)], [], 0⟩) (fun i => l.length - i.1) ⟨0, by omega, rfl⟩ (Wk.of id [] ⟨?_, ?_, ?_, ?_, trivial⟩ (LeH.nil (Nat.le_refl _) (fun b h => by omega) (by simp))) (fun i => ?_)
  · exact .free (encLegs_free _ _)
  · exact .free (.fn (by simp) (by simp))
  · exact .int_of (by simp)
  · exact .int_of rfl
  obtain ⟨i, hi, hz⟩ := i
  (conv => whnf)
  split
  · rename_i hc
    have hc : i < l.length := by simpa using hc
    (conv => whnf)
    refine ⟨rfl, _, ⟨by simp only; omega, idxL hc⟩, ?_⟩
    (conv => whnf)
    refine callV_pure (path1_ok fr l[i]) ⟨.free (.agg (encLeg_free _ _)), trivial⟩ ?_
    (conv => whnf)
    split
    · rename_i h1
      (conv => whnf)
      refine Ends.pure [] (.int_of ?_) (by simp)
      have h1 : legOk l[i] = false := by simpa using h1
      have := all_false (p := legOk) hc h1
      rw [if_neg (by rw [this]; simp)]
      congr 1
      symm
      rw [List.findIdx_eq hc]
      refine ⟨by simp [h1], fun j hj => ?_⟩
      rw [List.all_eq_true] at hz
      have := hz (l[j]'(by omega)) (by rw [List.mem_take_iff_getElem]; exact ⟨j, by omega, rfl⟩)
      simpa using this
    · rename_i h1
      (conv => whnf)
      refine ⟨⟨i + 1, by omega, ?_⟩, Wk.of id [] ⟨?_, ?_, ?_, ?_, trivial⟩ (LeH.nil (Nat.le_refl _) (fun b h => by omega) (by simp)), by simp only; omega⟩
      · rw [all_take_succ hc, hz]; simpa using h1
      · exact .free (encLegs_free _ _)
      · exact .free (.fn (by simp) (by simp))
      · exact .int_of rfl
      · exact .int_of (wrap64_succ hc hl)
  · rename_i hc
    have hc : i = l.length := by simp at hc; omega
    subst hc
    (conv => whnf)
    refine Ends.pure [] (.int_of ?_) (by simp)
    rw [List.take_length] at hz
    rw [if_pos hz]
set_option maxRecDepth 100000 in
theorem containsFunc_ok (fr : Bool) (l : List Leg) : PCon prog 83 [encLegs fr l, .fn (.func 81) [] []] (.bool (!l.all legOk)) := by
  obtain ⟨n, hn, hiff⟩ := indexFunc_ok fr l
  refine callV_of (fn := Go.Proofs.Try.f83) (body := _) tab_ok mixed rfl rfl (by decide) (by simp [Go.Proofs.Try.f83]) ?_
  (conv => whnf)
  refine callV_pure hn ⟨.free (encLegs_free _ _), .free (.fn (by simp) (by simp)), trivial⟩ ?_
  (conv => whnf)
  refine Ends.pure [] (.bool_of ?_) (by simp)
  cases hb : l.all legOk with
  | true => rw [hb] at hiff; simp at hiff; simp; omega
  | false => have := hiff.2 hb; simp; omega
set_option maxRecDepth 100000 in
theorem path_ok (fr : Bool) (l : List Leg) : PCon prog 38 [encLegs fr l] (.bool (pathOk l)) := by
  refine callV_of (fn := Go.Proofs.Try.f38) (body := _) tab_ok mixed rfl rfl (by decide) (by simp [Go.Proofs.Try.f38]) ?_
  (conv => whnf)
  intro hl
  (conv => whnf)
  split
  · rename_i h0
    (conv => whnf)
    refine callV_pure (containsFunc_ok fr l) ⟨.free (encLegs_free _ _), .free (.fn (by simp) (by simp)), trivial⟩ ?_
    (conv => whnf)
    refine Ends.pure [] (.bool_of ?_) (by simp)
    simp at h0
    simp [pathOk]
    omega
  · rename_i h0
    (conv => whnf)
    refine Ends.pure [] (.bool_of ?_) (by simp)
    simp at h0
    simp [pathOk]
    omega

def rightA (a : Attrs) : Bool := decide ((a.origin.toNat : Int) ≤ 2) && pathOk a.path && a.next != 0 && (a.hasMed || a.med == 0) && (a.hasPref || a.pref == 0) && decide ((a.tags.length : Int) ≤ 16) && rises a.tags
theorem u32_ne {x : UInt32} : ((x.toNat : Int) != 0) = (x != 0) := by
  cases h : x != 0 with
  | true => simp only [bne_iff_ne, ne_eq] at h ⊢; intro e; exact h (UInt32.toNat_inj.1 (by simp; omega))
  | false => simp only [bne_eq_false_iff_eq] at h ⊢; subst h; rfl
theorem u32_eq {x : UInt32} : ((x.toNat : Int) == 0) = (x == 0) := by
  have := congrArg (!·) (u32_ne (x := x))
  simpa [bne] using this

set_option maxRecDepth 100000 in
set_option maxHeartbeats 4000000 in
theorem right_ok (fr : Bool) (a : Attrs) : PCon prog 17 [encA fr a] (.bool (rightA a)) := by
  refine callV_of (fn := Go.Proofs.Try.f17) (body := _) tab_ok mixed rfl rfl (by decide) (by simp [Go.Proofs.Try.f17]) ?_
  have fin : ∀ {s : St} {b : Bool}, rightA a = b → ∃ v1 h' nx', Ends 0 s (.bool b) v1 h' nx' ∧ (v1 = .bool (rightA a) ∧ h' = [] ∧ nx' = 0) := fun h => Ends.pure [] (.bool_of h.symm) (by simp)
  (conv => whnf)
  split
  case' h_1 =>
    (conv => whnf)
    refine callV_pure (ref_path_ok fr a.path) ⟨.free (encLegs_free _ _), trivial⟩ ?_
    (conv => whnf)
  repeat' first
    | refine fin ?_
    | (split <;> (conv => whnf))
    | (intro _; (conv => whnf))
    | (refine callV_pure (ref_rise_ok fr a.tags) ⟨.free (encW_free _ _), trivial⟩ ?_; (conv => whnf))
  all_goals (clear fin; try simp only [u32_ne, u32_eq] at *)
  all_goals (try simp_all [rightA])
  all_goals (intros; exfalso; omega)

def checkA (a : Attrs) : Int := if rightA a then 0 else 2
theorem checkA_no {a : Attrs} (h : rightA a = false) : checkA a = 2 := by simp [checkA, h]
theorem checkA_yes {a : Attrs} (h : rightA a = true) : checkA a = 0 := by simp [checkA, h]
set_option maxRecDepth 100000 in
set_option maxHeartbeats 8000000 in
theorem check_ok (fr : Bool) (a : Attrs) : PCon prog 15 [encA fr a] (.int .i64 (checkA a)) := by
  refine callV_of (fn := Go.Proofs.Try.f15) (body := _) tab_ok mixed rfl rfl (by decide) (by simp [Go.Proofs.Try.f15]) ?_
  have fin0 : ∀ {s : St}, rightA a = true → ∃ v1 h' nx', Ends 0 s (.int .i64 0) v1 h' nx' ∧ (v1 = .int .i64 (checkA a) ∧ h' = [] ∧ nx' = 0) := fun h => Ends.pure [] (.int_of (checkA_yes h).symm) (by simp)
  have fin2 : ∀ {s : St}, rightA a = false → ∃ v1 h' nx', Ends 0 s (.int .i64 2) v1 h' nx' ∧ (v1 = .int .i64 (checkA a) ∧ h' = [] ∧ nx' = 0) := fun h => Ends.pure [] (.int_of (checkA_no h).symm) (by simp)
  (conv => whnf)
  repeat' first
    | refine fin0 ?_
    | refine fin2 ?_
    | (split <;> (conv => whnf))
    | (intro _; (conv => whnf))
    | (refine ⟨by kernel_rfl, ?_⟩; (conv => whnf))
    | (refine callV_pure (path_ok fr a.path) ⟨.free (encLegs_free _ _), trivial⟩ ?_; (conv => whnf))
    | (refine callV_pure (rise_ok fr a.tags) ⟨.free (encW_free _ _), trivial⟩ ?_; (conv => whnf))
  all_goals (clear fin0 fin2; try simp only [u32_ne, u32_eq] at *)
  all_goals (try simp_all [rightA])
  all_goals (try (intros; exfalso; omega))
end Go.Proofs.Ytcfkendgjinmiaa
/- Contracts: which are the same; how much there is. -/
set_option linter.unusedVariables false
set_option linter.unusedSimpArgs false
namespace Go.Proofs.Ytcfkendgjinmiaa
open Go.RowKit
open Go.Proofs.Try (prog)
attribute [local irreducible] CallV RoundV

theorem u32_neq {x y : UInt32} : ((x.toNat : Int) != (y.toNat : Int)) = (x != y) := by
  cases h : x != y with
  | true => simp only [bne_iff_ne, ne_eq] at h ⊢; intro e; exact h (UInt32.toNat_inj.1 (by omega))
  | false => simp only [bne_eq_false_iff_eq] at h ⊢; subst h; rfl
theorem u8_neq {x y : UInt8} : ((x.toNat : Int) != (y.toNat : Int)) = (x != y) := by
  cases h : x != y with
  | true => simp only [bne_iff_ne, ne_eq] at h ⊢; intro e; exact h (UInt8.toNat_inj.1 (by omega))
  | false => simp only [bne_eq_false_iff_eq] at h ⊢; subst h; rfl
def sameA (a b : Attrs) : Bool := decide (a = b)

set_option maxRecDepth 100000 in
set_option maxHeartbeats 4000000 in
theorem ref_same_ok (fr fr' : Bool) (a b : Attrs) : PCon prog 16 [encA fr a, encA fr' b] (.bool (sameA a b)) := by
  refine callV_of (fn := Go.Proofs.Try.f16) (body := _) tab_ok mixed rfl rfl (by decide) (by simp [Go.Proofs.Try.f16]) ?_
  have fin : ∀ {s : St} {r : Bool}, sameA a b = r → ∃ v1 h' nx', Ends 0 s (.bool r) v1 h' nx' ∧ (v1 = .bool (sameA a b) ∧ h' = [] ∧ nx' = 0) := fun h => Ends.pure [] (.bool_of h.symm) (by simp)
  (conv => whnf)
  repeat' first
    | refine fin ?_
    | (split <;> (conv => whnf))
    | (refine fun (_ : gd none _) => ?_; (conv => whnf))
    | (refine callV_pure (words_ok fr fr' a.tags b.tags) ⟨.free (encW_free _ _), .free (encW_free _ _), trivial⟩ ?_; (conv => whnf))
  any_goals (simp only [sameA, decide_eq_false_iff_not]; rintro rfl; simp_all; done)
  have hlen : a.path.length = b.path.length := by
    have := ‹((((a.path.map (encLeg fr)).length : Nat) : Int) != (((b.path.map (encLeg fr')).length : Nat) : Int)) = false›
    simp at this
    omega
  have hall : a.origin = b.origin ∧ a.next = b.next ∧ a.hasMed = b.hasMed ∧ a.med = b.med ∧ a.hasPref = b.hasPref ∧ a.pref = b.pref ∧ a.tags = b.tags := by
    clear fin
    simp_all [u32_neq, u8_neq]
  have hl : a.path.length ≤ maxLen := by
    have := ‹gd none ((a.path.map (encLeg fr)).length ≤ maxLen)›
    simpa [gd] using this
  have cell : ∀ {fr0 : Bool} {x : Attrs}, FreeB (.var true 26 (cellsA fr0 x)) := fun {fr0 x} => cellsA_free fr0 x
  refine vcg_loop tab_ok mixed (fun i : {i : Nat // i ≤ a.path.length ∧ a.path.take i = b.path.take i} => ⟨[(2, .ptr 0 0), (3, .ptr 1 0), (5, cI i.1)], [(0, some (.var true 26 (cellsA fr a))), (1, some (.var true 26 (cellsA fr' b)))], 2⟩) (fun i => a.path.length - i.1) ⟨0, by omega, rfl⟩ (Wk.of id [] ⟨?_, ?_, ?_, trivial⟩ (LeH.same ⟨⟨rfl, cell, by omega⟩, ⟨rfl, cell, by omega⟩, trivial⟩ (by omega))) (fun i => ?_)
  · exact .ptr rfl (by omega)
  · exact .ptr rfl (by omega)
  · exact .int_of rfl
  obtain ⟨i, hi, hr⟩ := i
  (conv => whnf)
  refine fun (_ : gd none _) => ?_
  (conv => whnf)
  split
  · rename_i hc
    have hc : i < a.path.length := by simpa using hc
    have hc' : i < b.path.length := by omega
    have hdif : a.path[i] ≠ b.path[i] → sameA a b = false := by
      intro h
      simp only [sameA, decide_eq_false_iff_not]
      rintro rfl
      exact h rfl
    (conv => whnf)
    refine ⟨rfl, _, ⟨by simp only; omega, idxL hc⟩, ?_⟩
    (conv => whnf)
    refine ⟨rfl, _, ⟨by simp only; omega, idxL hc'⟩, ?_⟩
    (conv => whnf)
    split
    · rename_i h1
      (conv => whnf)
      refine ⟨by kernel_rfl, ?_⟩
      (conv => whnf)
      refine fin (hdif fun e => ?_)
      simp [e] at h1
    · rename_i h1
      (conv => whnf)
      refine ⟨rfl, _, ⟨by simp only; omega, idxL hc⟩, ?_⟩
      (conv => whnf)
      refine ⟨rfl, _, ⟨by simp only; omega, idxL hc'⟩, ?_⟩
      (conv => whnf)
      refine ⟨.bool (decide (a.path[i].ns = b.path[i].ns)), [], fun h nx _ => ?_, by simp, ?_⟩
      · refine pureV_pure (words_ok fr fr' a.path[i].ns b.path[i].ns) ?_
        exact ⟨.free (encW_free _ _), .free (encW_free _ _), trivial⟩
      (conv => whnf)
      refine ⟨by kernel_rfl, ?_⟩
      (conv => whnf)
      split
      · rename_i h2
        (conv => whnf)
        refine fin (hdif fun e => ?_)
        simp [e] at h2
      · rename_i h2
        (conv => whnf)
        refine ⟨⟨i + 1, by omega, ?_⟩, Wk.of id [] ⟨?_, ?_, ?_, trivial⟩ (LeH.same ⟨⟨rfl, cell, by omega⟩, ⟨rfl, cell, by omega⟩, trivial⟩ (by omega)), by simp only; omega⟩
        · rw [List.take_succ_eq_append_getElem hc, List.take_succ_eq_append_getElem hc', hr]
          have e1 : a.path[i].set = b.path[i].set := by simpa using h1
          have e2 : a.path[i].ns = b.path[i].ns := by simpa using h2
          have : a.path[i] = b.path[i] := by
            cases ha : a.path[i]; cases hb : b.path[i]
            simp_all
          rw [this]
        · exact .ptr rfl (by omega)
        · exact .ptr rfl (by omega)
        · exact .int_of (wrap64_succ hc hl)
  · rename_i hc
    have hc : i = a.path.length := by simp at hc; omega
    subst hc
    (conv => whnf)
    refine fin ?_
    rw [List.take_length, hlen, List.take_length] at hr
    obtain ⟨q1, q2, q3, q4, q5, q6, q7⟩ := hall
    simp only [sameA, decide_eq_true_eq]
    cases a; cases b
    simp_all
end Go.Proofs.Ytcfkendgjinmiaa
/- Contracts of the law's own helpers. -/
set_option linter.unusedVariables false
set_option linter.unusedSimpArgs false
namespace Go.Proofs.Ytcfkendgjinmiaa
open Go.RowKit
open Go.Proofs.Try (prog)
attribute [local irreducible] CallV RoundV

set_option maxRecDepth 100000 in
theorem num_ok (n : Int) : PCon prog 18 [.int .i64 n] (.int .i64 n) := by
  refine callV_of (fn := Go.Proofs.Try.f18) (body := _) tab_ok mixed rfl rfl (by decide) (by simp [Go.Proofs.Try.f18]) ?_
  (conv => whnf)
  exact Ends.pure [] (.int_of rfl) (by simp)

def fewA (a : Attrs) : Bool := a.path.all (fun p => decide (p.ns.length ≤ 60)) && decide (a.path.length ≤ 20) && decide (a.tags.length ≤ 60)
set_option maxRecDepth 100000 in
theorem few_ok (fr : Bool) (a : Attrs) : PCon prog 11 [encA fr a] (.bool (fewA a)) := by
  refine callV_of (fn := Go.Proofs.Try.f11) (body := _) tab_ok mixed rfl rfl (by decide) (by simp [Go.Proofs.Try.f11]) ?_
  have fin : ∀ {s : St} {r : Bool}, fewA a = r → ∃ v1 h' nx', Ends 0 s (.bool r) v1 h' nx' ∧ (v1 = .bool (fewA a) ∧ h' = [] ∧ nx' = 0) := fun h => Ends.pure [] (.bool_of h.symm) (by simp)
  have cell : ∀ {fr0 : Bool} {x : Attrs}, FreeB (.var true 26 (cellsA fr0 x)) := fun {fr0 x} => cellsA_free fr0 x
  (conv => whnf)
  refine vcg_loop tab_ok mixed (fun i : {i : Nat // i ≤ a.path.length ∧ (a.path.take i).all (fun p => decide (p.ns.length ≤ 60)) = true} => ⟨[(1, .ptr 0 0), (3, cI i.1)], [(0, some (.var true 26 (cellsA fr a)))], 1⟩) (fun i => a.path.length - i.1) ⟨0, by omega, rfl⟩ (Wk.of id [] ⟨?_, ?_, trivial⟩ (LeH.same ⟨⟨rfl, cell, by omega⟩, trivial⟩ (by omega))) (fun i => ?_)
  · exact .ptr rfl (by omega)
  · exact .int_of rfl
  obtain ⟨i, hi, hr⟩ := i
  (conv => whnf)
  intro hl
  have hl : a.path.length ≤ maxLen := by simpa [gd] using hl
  (conv => whnf)
  split
  · rename_i hc
    have hc : i < a.path.length := by simpa using hc
    (conv => whnf)
    refine ⟨rfl, _, ⟨by simp only; omega, idxL hc⟩, ?_⟩
    (conv => whnf)
    refine fun (_ : gd none _) => ?_
    (conv => whnf)
    split
    · rename_i h1
      (conv => whnf)
      refine fin ?_
      have := all_false (p := fun p => decide (p.ns.length ≤ 60)) hc (by simp at h1; simp; omega)
      simp only [fewA, this, Bool.false_and]
    · rename_i h1
      (conv => whnf)
      refine ⟨⟨i + 1, by omega, ?_⟩, Wk.of id [] ⟨?_, ?_, trivial⟩ (LeH.same ⟨⟨rfl, cell, by omega⟩, trivial⟩ (by omega)), by simp only; omega⟩
      · rw [all_take_succ hc, hr]; simp at h1; simp; omega
      · exact .ptr rfl (by omega)
      · exact .int_of (wrap64_succ hc hl)
  · rename_i hc
    have hc : i = a.path.length := by simp at hc; omega
    subst hc
    (conv => whnf)
    refine fun (_ : gd none _) => ?_
    (conv => whnf)
    rw [List.take_length] at hr
    split
    · rename_i h1
      (conv => whnf)
      refine fun (_ : gd none _) => ?_
      (conv => whnf)
      refine fin ?_
      simp at h1
      simp only [fewA, hr, Bool.true_and, List.length_map]
      rw [decide_eq_true (show a.path.length ≤ 20 by omega), Bool.true_and]
      congr 1
      simp only [eq_iff_iff]
      omega
    · rename_i h1
      (conv => whnf)
      refine fin ?_
      simp at h1
      simp only [fewA, hr, Bool.true_and, Bool.and_eq_false_iff, decide_eq_false_iff_not]
      left; omega

/-- The cells of what says nothing. -/
def zeroA : List V := [.int .u8 0, .snil, .int .u32 0, .bool false, .int .u32 0, .bool false, .int .u32 0, .snil]
theorem zeroA_free : ∀ v ∈ zeroA, Free v := by
  intro v hv
  simp [zeroA] at hv
  rcases hv with rfl | rfl | rfl | rfl | rfl | rfl | rfl | rfl <;> first | exact .int | exact .bool | exact .snil

def rowsAt (fr : Bool) (l : List Leg) (i : Nat) : List (List V) := (l.take i).map (encLeg true) ++ (l.drop i).map (encLeg fr)
theorem rowsAt_len (fr : Bool) (l : List Leg) (i : Nat) : (rowsAt fr l i).length = l.length := by simp [rowsAt]; omega
theorem rowsAt_free (fr : Bool) (l : List Leg) (i : Nat) : ∀ x ∈ rowsAt fr l i, ∀ v ∈ x, Free v := by
  intro x hx v hv
  rcases List.mem_append.1 hx with hx | hx
  · exact rowsLegs_free true _ x hx v hv
  · exact rowsLegs_free fr _ x hx v hv
theorem rowsAt_get {fr : Bool} {l : List Leg} {i : Nat} (h : i < l.length) : (rowsAt fr l i)[i]? = some (encLeg fr l[i]) := by
  unfold rowsAt
  rw [List.getElem?_append_right (by simp; omega)]
  simp [List.length_take, Nat.min_eq_left (Nat.le_of_lt h), h]
theorem rowsAt_succ {fr : Bool} {l : List Leg} {i : Nat} (h : i < l.length) : rowsAt fr l (i + 1) = (rowsAt fr l i).set i (encLeg true l[i]) := by
  unfold rowsAt
  rw [List.take_succ_eq_append_getElem h, List.drop_eq_getElem_cons h, List.map_append, List.set_append_right _ _ (by simp; omega)]
  have e : (List.map (encLeg true) (List.take i l)).length = i := by simp; omega
  rw [e, Nat.sub_self]
  simp only [List.map_cons, List.map_nil, List.set_cons_zero, List.append_assoc, List.cons_append, List.nil_append]
theorem rowsAt_all (fr : Bool) (l : List Leg) : rowsAt fr l l.length = l.map (encLeg true) := by simp [rowsAt]

theorem fewA_out {a : Attrs} (h : fewA a = true) : (∀ p ∈ a.path, p.ns.length ≤ 60) ∧ a.path.length ≤ 20 ∧ a.tags.length ≤ 60 := by
  simp only [fewA, Bool.and_eq_true, List.all_eq_true, decide_eq_true_eq] at h
  exact ⟨h.1.1, h.1.2, h.2⟩
set_option maxRecDepth 100000 in
theorem lent_ok (fr : Bool) (a : Attrs) (hf : fewA a = true) : PCon prog 13 [encA fr a] (encA true a) := by
  obtain ⟨hp, hpl, htl⟩ := fewA_out hf
  refine callV_of (fn := Go.Proofs.Try.f13) (body := _) tab_ok mixed rfl rfl (by decide) (by simp [Go.Proofs.Try.f13]) ?_
  have cell : ∀ {fr0 : Bool} {x : Attrs}, FreeB (.var true 26 (cellsA fr0 x)) := fun {fr0 x} => cellsA_free fr0 x
  (conv => whnf)
  refine ⟨⟨rfl, rfl, rfl, rfl, by decide⟩, Nat.zero_le _, ⟨by simp [tab, tabOf, nth]; omega, by simp; omega⟩, ?_⟩
  (conv => whnf)
  refine vcg_loop tab_ok mixed (fun i : {i : Nat // i ≤ a.path.length} => ⟨[(1, .ptr 0 0), (2, .ptr 1 0), (3, .osl 3 2 0 a.path.length), (4, cI i.1)], [(0, some (.var true 26 (cellsA fr a))), (1, some (.var true 26 zeroA)), (3, some (.arr true false 54 2 (rowsAt fr a.path i.1)))], 4⟩) (fun i => a.path.length - i.1) ⟨0, by omega⟩ ?_ (fun i => ?_)
  · refine Wk.of id [] ⟨?_, ?_, ?_, ?_, trivial⟩ (LeH.same ⟨⟨rfl, cell, by omega⟩, ⟨rfl, zeroA_free, by omega⟩, ⟨?_, rowsAt_free _ _ _, by omega⟩, trivial⟩ (by omega))
    · exact .ptr rfl (by omega)
    · exact .ptr rfl (by omega)
    · exact .osl_of rfl (by omega) (by simp)
    · exact .int_of rfl
    · simp only [rowsAt, List.take_zero, List.map_nil, List.nil_append, List.drop_zero]
      rfl
  obtain ⟨i, hi⟩ := i
  (conv => whnf)
  intro _
  (conv => whnf)
  split
  · rename_i hc
    have hc : i < a.path.length := by simpa using hc
    have hpi := hp a.path[i] (List.getElem_mem hc)
    have hget : (rowsAt fr a.path i)[0 + (i : Int).toNat]? = some (encLeg fr a.path[i]) := by simpa using rowsAt_get hc
    (conv => whnf)
    refine ⟨rfl, ⟨by simp only; omega, by simp only; omega⟩, ?_⟩
    (conv => whnf)
    refine ⟨rfl, encLeg fr a.path[i], hget, ?_⟩
    (conv => whnf)
    refine ⟨⟨rfl, rfl, rfl, rfl, by decide⟩, Nat.zero_le _, ⟨by simp [tab, tabOf, nth]; omega, by simp; omega⟩, ?_⟩
    (conv => whnf)
    refine ⟨rfl, ⟨by simp only; omega, by simp only; omega⟩, ?_⟩
    (conv => whnf)
    refine ⟨rfl, encLeg fr a.path[i], hget, ?_⟩
    (conv => whnf)
    refine ⟨⟨i + 1, by omega⟩, Wk.of id [5] ⟨?_, ?_, ?_, ?_, trivial⟩ (LeH.of ⟨⟨by omega, .inl ⟨by simp, _, rfl, LeB.free cell⟩⟩, ⟨by omega, .inl ⟨by simp, _, rfl, LeB.free zeroA_free⟩⟩, ⟨by omega, .inl ⟨by simp, _, rfl, ?_⟩⟩, trivial⟩ (fun _ _ _ _ h => h) (fun _ _ => rfl) (by omega) (fun z hz => by obtain rfl := List.mem_singleton.1 hz; exact ne_none_of rfl)), by simp only; omega⟩
    · exact .ptr rfl (by omega)
    · exact .ptr rfl (by omega)
    · exact .osl_of rfl (by omega) (by simp)
    · exact .int_of (wrap64_succ hc (show a.path.length ≤ maxLen by unfold maxLen; omega))
    · simp only
      rw [rowsAt_succ hc]
      simp only [Nat.zero_add, Int.toNat_natCast]
      refine LeB.set (rowsAt_free _ _ _) ⟨.free .bool, ?_, trivial⟩
      refine LeV.freeze_of (by simp) rfl ?_ ?_ ?_
      · simp
      · intro x hx v hv
        exact rowsW_free _ x (by simpa using hx) v hv
      · exact List.take_of_length_le (by simp)
  · rename_i hc
    have hc : i = a.path.length := by simp at hc; omega
    subst hc
    (conv => whnf)
    refine ⟨⟨rfl, rfl, rfl, rfl, by decide⟩, Nat.zero_le _, ⟨by simp [tab, tabOf, nth]; omega, by simp; omega⟩, ?_⟩
    (conv => whnf)
    refine Ends.pure [3, 5] (LeV.aggL ⟨.free .int, ?_, .free .int, .free .bool, .free .int, .free .bool, .free .int, ?_, trivial⟩) ?_
    · refine LeV.freeze_of (by simp) rfl ?_ ?_ ?_
      · simp only [rowsAt_len]; omega
      · exact rowsAt_free _ _ _
      · simp only [rowsAt_all, List.drop_zero]
        exact List.take_of_length_le (by simp)
    · refine LeV.freeze_of (by simp) rfl ?_ ?_ ?_
      · simp
      · intro x hx v hv
        exact rowsW_free _ x (by simpa using hx) v hv
      · exact List.take_of_length_le (by simp)
    · intro z hz
      rcases List.mem_cons.1 hz with rfl | hz
      · exact ne_none_of rfl
      · obtain rfl := List.mem_singleton.1 hz
        exact ne_none_of rfl
end Go.Proofs.Ytcfkendgjinmiaa
/- Contracts: numbers written. -/
set_option linter.unusedVariables false
set_option linter.unusedSimpArgs false
namespace Go.Proofs.Ytcfkendgjinmiaa
open Go.RowKit
open Go.Proofs.Try (prog)
attribute [local irreducible] CallV RoundV

/-- A number's four bytes, the higher ahead. -/
def fourB (x : UInt32) : List UInt8 := [(x >>> 24).toUInt8, (x >>> 16).toUInt8, (x >>> 8).toUInt8, x.toUInt8]
/-- What is written behind k rounds. -/
def highRows (x : UInt32) : Nat → List (List V)
  | 0 => [[.int .u8 0], [.int .u8 0], [.int .u8 0], [.int .u8 0]]
  | 1 => [[.int .u8 0], [.int .u8 0], [.int .u8 0], [cB x.toUInt8]]
  | 2 => [[.int .u8 0], [.int .u8 0], [cB (x >>> 8).toUInt8], [cB x.toUInt8]]
  | 3 => [[.int .u8 0], [cB (x >>> 16).toUInt8], [cB (x >>> 8).toUInt8], [cB x.toUInt8]]
  | _ => [[cB (x >>> 24).toUInt8], [cB (x >>> 16).toUInt8], [cB (x >>> 8).toUInt8], [cB x.toUInt8]]
def shr8 (x : UInt32) : Nat → Int
  | 0 => x.toNat
  | 1 => (x >>> 8).toNat
  | 2 => (x >>> 16).toNat
  | 3 => (x >>> 24).toNat
  | _ => ((0 : UInt32).toNat : Int)

theorem highRows_free (x : UInt32) (k : Nat) : ∀ r ∈ highRows x k, ∀ v ∈ r, Free v := by
  intro r hr v hv
  unfold highRows at hr
  split at hr <;> (simp at hr; rcases hr with rfl | rfl | rfl | rfl <;> (simp at hv; subst hv; exact .int))
theorem LeB.eq_of {h : Heap} {nx nx' : Nat} {ρ : Nat → Nat} {Z : List Nat} {b b' : Blk} (e : b = b') (hf : FreeB b') : LeB h nx ρ nx' Z b b' := by subst e; exact LeB.free hf
theorem sh_step {x y : UInt32} (h : y.toNat = x.toNat / 256) : IntKind.u32.wrap ((IntKind.u64.wrap (x.toNat : Int)).fdiv (2 ^ (min (Int.toNat 8) IntKind.u64.bits))) = (y.toNat : Int) := by
  have h1 : IntKind.u64.wrap (x.toNat : Int) = x.toNat := by
    rw [wrapu64]
    have := x.toNat_lt
    omega
  rw [h1, wrap32, h]
  have e : (2 : Int) ^ (min (Int.toNat 8) IntKind.u64.bits) = 256 := by decide
  rw [e, Int.fdiv_eq_ediv_of_nonneg _ (by decide)]
  have := x.toNat_lt
  omega
theorem u8_of {x : UInt32} : IntKind.u8.wrap (x.toNat : Int) = (x.toUInt8.toNat : Int) := by
  rw [wrap8]
  simp
set_option maxRecDepth 100000 in
theorem high_ok (x : UInt32) : PCon prog 66 [cW x, .int .i64 4] (encB true (fourB x)) := by
  refine callV_of (fn := Go.Proofs.Try.f66) (body := _) tab_ok mixed rfl rfl (by decide) (by simp [Go.Proofs.Try.f66]) ?_
  (conv => whnf)
  refine ⟨⟨by omega, by omega, by simp [tab, tabOf, nth], by omega⟩, ?_⟩
  (conv => whnf)
  refine callV_of (fn := Go.Proofs.Try.f80) (body := _) tab_ok mixed rfl rfl (by decide) (by simp [Go.Proofs.Try.f80]) ?_
  (conv => whnf)
  refine ⟨_, _, _, Ends.here, ?_⟩
  (conv => whnf)
  refine callV_loop [(2, .ptr 0 0), (5, .ptr 2 0)] ⟨rfl, rfl, trivial⟩ fun asg' body' hasg hbody => ?_
  refine callV_of (fn := Go.Proofs.Try.f99) (body := _) tab_ok mixed rfl rfl (by decide) (by simp [Go.Proofs.Try.f99]) ?_
  (conv => whnf)
  intro _
  (conv => whnf)
  refine vcg_loop tab_ok mixed (fun k : {k : Nat // k ≤ 4} => ⟨[(0, .yld 4), (1, .ptr 3 0), (3, .int .i64 (3 - k.1))], [(4, some (.loop 23 [(2, .ptr 0 0), (5, .ptr 2 0)] [11, 12] asg' body' .ready none)), (0, some (.var true 23 [.int .u32 (shr8 x k.1)])), (1, some (.arr true true 5 1 (highRows x k.1))), (2, some (.var true 30 [.osl 1 1 0 4])), (3, some (.var true 30 [.osl 1 1 0 4]))], 5⟩) (fun k => 4 - k.1) ⟨0, by omega⟩ ?_ (fun k => ?_)
  · refine Wk.of id [] ⟨?_, ?_, ?_, trivial⟩ (LeH.of ⟨⟨by omega, .inl ⟨by simp, _, rfl, ?_⟩⟩, ⟨by omega, .inl ⟨by simp, _, rfl, ?_⟩⟩, ⟨by omega, .inl ⟨by simp, _, rfl, ?_⟩⟩, ⟨by omega, .inl ⟨by simp, _, rfl, ?_⟩⟩, ⟨by omega, .inl ⟨by simp, _, rfl, ?_⟩⟩, trivial⟩ (fun _ _ _ _ h => h) (fun _ _ => rfl) (by omega) (by simp))
    · exact .yld rfl (by omega)
    · exact .ptr rfl (by omega)
    · exact .int_of rfl
    · exact ⟨rfl, rfl, rfl, rfl, rfl, rfl, .ptr rfl (by omega), .ptr rfl (by omega), trivial⟩
    · exact ⟨id, rfl, .int_of rfl, trivial⟩
    · exact LeB.free (blk := .arr true true 5 1 (highRows x 0)) (highRows_free x 0)
    · exact ⟨id, rfl, .osl_of rfl (by omega) rfl, trivial⟩
    · exact ⟨id, rfl, .osl_of rfl (by omega) rfl, trivial⟩
  obtain ⟨k, hk⟩ := k
  rcases k with _ | _ | _ | _ | _ | k
  case succ.succ.succ.succ.succ => omega
  case succ.succ.succ.succ.zero =>
    (conv => whnf)
    refine ⟨_, _, _, Ends.here, ?_⟩
    (conv => whnf)
    refine Ends.pure [1] ?_ ?_
    · refine LeV.freeze_of (by simp) rfl (by simp [highRows]) (highRows_free x 4) ?_
      simp [highRows, fourB]
    · intro z hz
      obtain rfl := List.mem_singleton.1 hz
      exact ne_none_of rfl
  · (conv => whnf)
    refine ⟨rfl, ⟨by simp, by simp⟩, ?_⟩
    (conv => whnf)
    refine ⟨rfl, _, rfl, ?_⟩
    (conv => whnf)
    subst hasg hbody
    refine roundV_of tab_ok mixed rfl (by simp) (show 4 < 5 by omega) ?_
    (conv => whnf)
    refine ⟨rfl, ?_⟩
    (conv => whnf)
    refine ⟨rfl, ⟨by simp, by simp⟩, ?_⟩
    (conv => whnf)
    refine ⟨rfl, _, rfl, ?_⟩
    (conv => whnf)
    refine ⟨by decide, ?_⟩
    (conv => whnf)
    refine ⟨rfl, ?_⟩
    (conv => whnf)
    refine ⟨⟨1, by omega⟩, Wk.of id [] ⟨.yld rfl (by omega), .ptr rfl (by omega), .int_of ?_, trivial⟩ (LeH.of ⟨⟨by omega, .inl ⟨by simp, _, rfl, rfl, rfl, rfl, rfl, rfl, rfl, .ptr rfl (by omega), .ptr rfl (by omega), trivial⟩⟩, ⟨by omega, .inl ⟨by simp, _, rfl, id, rfl, .int_of ?_, trivial⟩⟩, ⟨by omega, .inl ⟨by simp, _, rfl, LeB.eq_of ?_ (highRows_free x 1)⟩⟩, ⟨by omega, .inl ⟨by simp, _, rfl, id, rfl, .osl_of rfl (by omega) rfl, trivial⟩⟩, ⟨by omega, .inl ⟨by simp, _, rfl, id, rfl, .osl_of rfl (by omega) rfl, trivial⟩⟩, trivial⟩ (fun _ _ _ _ h => h) (fun _ _ => rfl) (by omega) (by simp)), ?_⟩
    · simp [wrap64']
    · refine sh_step ?_
      have := x.toNat_lt
      simp [UInt32.toNat_shiftRight, Nat.shiftRight_eq_div_pow, Nat.div_div_eq_div_mul] <;> omega
    · simp [highRows, shr8, cB, wrap8]
    · simp
  · (conv => whnf)
    refine ⟨rfl, ⟨by simp, by simp⟩, ?_⟩
    (conv => whnf)
    refine ⟨rfl, _, rfl, ?_⟩
    (conv => whnf)
    subst hasg hbody
    refine roundV_of tab_ok mixed rfl (by simp) (show 4 < 5 by omega) ?_
    (conv => whnf)
    refine ⟨rfl, ?_⟩
    (conv => whnf)
    refine ⟨rfl, ⟨by simp, by simp⟩, ?_⟩
    (conv => whnf)
    refine ⟨rfl, _, rfl, ?_⟩
    (conv => whnf)
    refine ⟨by decide, ?_⟩
    (conv => whnf)
    refine ⟨rfl, ?_⟩
    (conv => whnf)
    refine ⟨⟨2, by omega⟩, Wk.of id [] ⟨.yld rfl (by omega), .ptr rfl (by omega), .int_of ?_, trivial⟩ (LeH.of ⟨⟨by omega, .inl ⟨by simp, _, rfl, rfl, rfl, rfl, rfl, rfl, rfl, .ptr rfl (by omega), .ptr rfl (by omega), trivial⟩⟩, ⟨by omega, .inl ⟨by simp, _, rfl, id, rfl, .int_of ?_, trivial⟩⟩, ⟨by omega, .inl ⟨by simp, _, rfl, LeB.eq_of ?_ (highRows_free x 2)⟩⟩, ⟨by omega, .inl ⟨by simp, _, rfl, id, rfl, .osl_of rfl (by omega) rfl, trivial⟩⟩, ⟨by omega, .inl ⟨by simp, _, rfl, id, rfl, .osl_of rfl (by omega) rfl, trivial⟩⟩, trivial⟩ (fun _ _ _ _ h => h) (fun _ _ => rfl) (by omega) (by simp)), ?_⟩
    · simp [wrap64']
    · refine sh_step ?_
      have := x.toNat_lt
      simp [UInt32.toNat_shiftRight, Nat.shiftRight_eq_div_pow, Nat.div_div_eq_div_mul] <;> omega
    · simp [highRows, shr8, cB, wrap8]
    · simp
  · (conv => whnf)
    refine ⟨rfl, ⟨by simp, by simp⟩, ?_⟩
    (conv => whnf)
    refine ⟨rfl, _, rfl, ?_⟩
    (conv => whnf)
    subst hasg hbody
    refine roundV_of tab_ok mixed rfl (by simp) (show 4 < 5 by omega) ?_
    (conv => whnf)
    refine ⟨rfl, ?_⟩
    (conv => whnf)
    refine ⟨rfl, ⟨by simp, by simp⟩, ?_⟩
    (conv => whnf)
    refine ⟨rfl, _, rfl, ?_⟩
    (conv => whnf)
    refine ⟨by decide, ?_⟩
    (conv => whnf)
    refine ⟨rfl, ?_⟩
    (conv => whnf)
    refine ⟨⟨3, by omega⟩, Wk.of id [] ⟨.yld rfl (by omega), .ptr rfl (by omega), .int_of ?_, trivial⟩ (LeH.of ⟨⟨by omega, .inl ⟨by simp, _, rfl, rfl, rfl, rfl, rfl, rfl, rfl, .ptr rfl (by omega), .ptr rfl (by omega), trivial⟩⟩, ⟨by omega, .inl ⟨by simp, _, rfl, id, rfl, .int_of ?_, trivial⟩⟩, ⟨by omega, .inl ⟨by simp, _, rfl, LeB.eq_of ?_ (highRows_free x 3)⟩⟩, ⟨by omega, .inl ⟨by simp, _, rfl, id, rfl, .osl_of rfl (by omega) rfl, trivial⟩⟩, ⟨by omega, .inl ⟨by simp, _, rfl, id, rfl, .osl_of rfl (by omega) rfl, trivial⟩⟩, trivial⟩ (fun _ _ _ _ h => h) (fun _ _ => rfl) (by omega) (by simp)), ?_⟩
    · simp [wrap64']
    · refine sh_step ?_
      have := x.toNat_lt
      simp [UInt32.toNat_shiftRight, Nat.shiftRight_eq_div_pow, Nat.div_div_eq_div_mul] <;> omega
    · simp [highRows, shr8, cB, wrap8]
    · simp
  · (conv => whnf)
    refine ⟨rfl, ⟨by simp, by simp⟩, ?_⟩
    (conv => whnf)
    refine ⟨rfl, _, rfl, ?_⟩
    (conv => whnf)
    subst hasg hbody
    refine roundV_of tab_ok mixed rfl (by simp) (show 4 < 5 by omega) ?_
    (conv => whnf)
    refine ⟨rfl, ?_⟩
    (conv => whnf)
    refine ⟨rfl, ⟨by simp, by simp⟩, ?_⟩
    (conv => whnf)
    refine ⟨rfl, _, rfl, ?_⟩
    (conv => whnf)
    refine ⟨by decide, ?_⟩
    (conv => whnf)
    refine ⟨rfl, ?_⟩
    (conv => whnf)
    refine ⟨⟨4, by omega⟩, Wk.of id [] ⟨.yld rfl (by omega), .ptr rfl (by omega), .int_of ?_, trivial⟩ (LeH.of ⟨⟨by omega, .inl ⟨by simp, _, rfl, rfl, rfl, rfl, rfl, rfl, rfl, .ptr rfl (by omega), .ptr rfl (by omega), trivial⟩⟩, ⟨by omega, .inl ⟨by simp, _, rfl, id, rfl, .int_of ?_, trivial⟩⟩, ⟨by omega, .inl ⟨by simp, _, rfl, LeB.eq_of ?_ (highRows_free x 4)⟩⟩, ⟨by omega, .inl ⟨by simp, _, rfl, id, rfl, .osl_of rfl (by omega) rfl, trivial⟩⟩, ⟨by omega, .inl ⟨by simp, _, rfl, id, rfl, .osl_of rfl (by omega) rfl, trivial⟩⟩, trivial⟩ (fun _ _ _ _ h => h) (fun _ _ => rfl) (by omega) (by simp)), ?_⟩
    · simp [wrap64']
    · refine sh_step ?_
      have := x.toNat_lt
      simp [UInt32.toNat_shiftRight, Nat.shiftRight_eq_div_pow, Nat.div_div_eq_div_mul] <;> omega
    · simp [highRows, shr8, cB, wrap8]
    · simp
end Go.Proofs.Ytcfkendgjinmiaa
/- Contracts: lists of numbers written; paths written. -/
set_option linter.unusedVariables false
set_option linter.unusedSimpArgs false
namespace Go.Proofs.Ytcfkendgjinmiaa
open Go.RowKit
open Go.Proofs.Try (prog)
attribute [local irreducible] CallV RoundV

abbrev rowsB (b : List UInt8) : List (List V) := b.map fun x => [V.int .u8 x.toNat]
theorem LeV.freezeB {h : Heap} {nx nx' : Nat} {ρ : Nat → Nat} {Z : List Nat} {b n : Nat} {fr ex : Bool} {ty : TypeId} {rows : List (List V)} {bs : List UInt8} (hz : b ∈ Z) (hb : hget h b = some (.arr fr ex ty 1 rows)) (e : rows = rowsB bs) (hn : n = bs.length) :
    LeV h nx ρ nx' Z (.osl b 1 0 n) (encB fr bs) := by
  subst e
  exact LeV.freeze_of hz hb (by simp [hn]) (rowsB_free _) (by simp only [List.drop_zero]; exact List.take_of_length_le (by simp [hn]))
theorem one_none {h : Heap} {b : Nat} {x : Blk} (hb : hget h b = some x) : ∀ z ∈ [b], hget h z ≠ none := fun z hz => by
  obtain rfl := List.mem_singleton.1 hz
  exact ne_none_of hb
theorem u8_int (x : UInt8) : IntKind.u8.wrap (x.toNat : Int) = x.toNat := by
  have := x.toNat_lt
  rw [wrap8]; omega
theorem u8_nat (n : Nat) : IntKind.u8.wrap (n : Int) = (UInt8.ofNat n).toNat := by
  rw [wrap8]; simp
def allB (l : List UInt32) : List UInt8 := l.flatMap fourB
theorem allB_len (l : List UInt32) : (allB l).length = 4 * l.length := by
  induction l with
  | nil => rfl
  | cons x l ih =>
    have e : allB (x :: l) = fourB x ++ allB l := by unfold allB; rw [List.flatMap_cons]
    have e4 : (fourB x).length = 4 := rfl
    rw [e, List.length_append, e4, ih, List.length_cons]
    omega
theorem allB_succ {l : List UInt32} {i : Nat} (h : i < l.length) : allB (l.take (i + 1)) = allB (l.take i) ++ fourB l[i] := by
  unfold allB
  rw [List.take_succ_eq_append_getElem h, List.flatMap_append, List.flatMap_cons, List.flatMap_nil, List.append_nil]

set_option maxRecDepth 100000 in
theorem all_ok (fr : Bool) (l : List UInt32) (hb : l.length ≤ 1000) : PCon prog 77 [encW fr l] (encB true (allB l)) := by
  refine callV_of (fn := Go.Proofs.Try.f77) (body := _) tab_ok mixed rfl rfl (by decide) (by simp [Go.Proofs.Try.f77]) ?_
  (conv => whnf)
  intro _
  (conv => whnf)
  refine vcg_loop tab_ok mixed (fun i : {i : Nat // i ≤ l.length} => ⟨[(2, .osl 0 1 0 (4 * i.1)), (5, encW fr l), (6, cI l.length), (7, cI i.1)], [(0, some (.arr true false 5 1 (rowsB (allB (l.take i.1)))))], 1⟩) (fun i => l.length - i.1) ⟨0, by omega⟩ ?_ (fun i => ?_)
  · refine Wk.of id [] ⟨?_, ?_, ?_, ?_, trivial⟩ (LeH.of ⟨⟨by omega, .inr ⟨by simp, _, _, _, _, rfl⟩⟩, trivial⟩ (fun _ _ _ _ h => h) (fun _ _ => rfl) (by omega) (by simp))
    · exact .osl0
    · exact .free (encW_free _ _)
    · exact .int_of (by simp)
    · exact .int_of rfl
  obtain ⟨i, hi⟩ := i
  (conv => whnf)
  split
  · rename_i hc
    have hc : i < l.length := by simpa using hc
    (conv => whnf)
    refine ⟨rfl, _, ⟨by simp only; omega, idxW hc⟩, ?_⟩
    (conv => whnf)
    refine callV_pure (high_ok l[i]) ⟨.free .int, .free .int, trivial⟩ ?_
    (conv => whnf)
    have hlen := allB_len (l.take i)
    rw [List.length_take, Nat.min_eq_left hi] at hlen
    refine ⟨⟨rfl, rfl, rfl, rfl, by decide⟩, by simp [rowsB, hlen], ⟨by simp [tab, tabOf, nth, fourB]; omega, by simp [fourB]; omega⟩, ?_⟩
    (conv => whnf)
    refine ⟨⟨i + 1, by omega⟩, Wk.of (renOf [(0, 1)]) [] ⟨?_, ?_, ?_, ?_, trivial⟩ (LeH.of ⟨⟨by omega, .inl ⟨by simp, _, rfl, LeB.eq_of ?_ ?_⟩⟩, trivial⟩ (by simp) (fun b hb => by omega) (by omega) (by simp)), by simp only; omega⟩
    · exact .osl_of rfl (by omega) (by simp [fourB]; omega)
    · exact .free (encW_free _ _)
    · exact .int_of rfl
    · exact .int_of (wrap64_succ hc (show l.length ≤ maxLen by unfold maxLen; omega))
    · simp only
      rw [allB_succ hc, List.take_of_length_le (by simp [rowsB, hlen])]
      simp [rowsB]
    · exact rowsB_free _
  · rename_i hc
    have hc : i = l.length := by simp at hc; omega
    subst hc
    (conv => whnf)
    refine Ends.pure [0] ?_ ?_
    · refine LeV.freeze_of (by simp) rfl ?_ (rowsB_free _) ?_
      · simp [rowsB, allB_len]
      · simp only [List.take_length, List.drop_zero]
        exact List.take_of_length_le (by simp [rowsB, allB_len])
    · intro z hz
      obtain rfl := List.mem_singleton.1 hz
      exact ne_none_of rfl
end Go.Proofs.Ytcfkendgjinmiaa
/- Contracts: the reference's bytes. -/
set_option linter.unusedVariables false
set_option linter.unusedSimpArgs false
namespace Go.Proofs.Ytcfkendgjinmiaa
open Go.RowKit
open Go.Proofs.Try (prog)
attribute [local irreducible] CallV RoundV

set_option maxRecDepth 100000 in
theorem ref_four_ok (x : UInt32) : PCon prog 44 [cW x] (encB true (fourB x)) := by
  refine callV_of (fn := Go.Proofs.Try.f44) (body := _) tab_ok mixed rfl rfl (by decide) (by simp [Go.Proofs.Try.f44]) ?_
  (conv => whnf)
  refine ⟨by decide, ?_⟩
  (conv => whnf)
  refine ⟨by decide, ?_⟩
  (conv => whnf)
  refine ⟨by decide, ?_⟩
  (conv => whnf)
  refine ⟨by decide, ?_⟩
  (conv => whnf)
  refine ⟨by decide, ?_⟩
  (conv => whnf)
  refine ⟨by decide, ?_⟩
  (conv => whnf)
  have hx := x.toNat_lt
  refine Ends.pure [0] (LeV.freeze_of (by simp) rfl (by simp) ?_ ?_) ?_
  · intro r hr v hv
    simp at hr
    rcases hr with rfl | rfl | rfl | rfl <;> (simp at hv; subst hv; exact .int)
  · have e : ∀ (n : Nat), ((x.toNat : Int).tdiv n) = ((x.toNat / n : Nat) : Int) := fun n => by rw [Int.tdiv_eq_ediv_of_nonneg (by omega)]; rfl
    have e2 : ∀ (n m : Nat), (((n : Nat) : Int).tmod (m : Nat)) = ((n % m : Nat) : Int) := fun n m => by rw [Int.tmod_eq_emod_of_nonneg (by omega)]; rfl
    have w : ∀ (n : Nat), n < 4294967296 → IntKind.u32.wrap (n : Int) = n := fun n hn => by rw [wrap32]; omega
    have e1 := e 16777216
    have e3 := e 65536
    have e4 := e 256
    simp only [Int.cast_ofNat_Int] at e1 e3 e4
    have d1 := w (x.toNat / 16777216) (by omega)
    have d2 := w (x.toNat / 65536) (by omega)
    have d3 := w (x.toNat / 256) (by omega)
    have m1 := e2 (x.toNat / 65536) 256
    have m2 := e2 (x.toNat / 256) 256
    have m3 := e2 x.toNat 256
    simp only [Int.cast_ofNat_Int] at m1 m2 m3
    rw [e1, e3, e4, d1, d2, d3, m1, m2, m3]
    simp [fourB, wrap8, UInt32.toNat_shiftRight, Nat.shiftRight_eq_div_pow]
  · intro z hz
    obtain rfl := List.mem_singleton.1 hz
    exact ne_none_of rfl

theorem own1 {s : St} {b n : Nat} {fr ex : Bool} {ty : TypeId} {rows : List (List V)} {bs : List UInt8} (hb : hget s.h b = some (.arr fr ex ty 1 rows)) (hr : rows = rowsB bs) (hn : n = bs.length) :
    ∃ v1 h' nx', Ends 0 s (.osl b 1 0 n) v1 h' nx' ∧ (v1 = .osl 0 1 0 bs.length ∧ h' = [(0, some (.arr fr ex ty 1 (rowsB bs)))] ∧ nx' = 1) := by
  subst hr
  exact Ends.own hb (rowsB_free _) hn rfl
/-- An attribute's bytes. -/
def attrB (f c : UInt8) (v : List UInt8) : List UInt8 :=
  if 255 < v.length then [f + 16, c, UInt8.ofNat (v.length / 256), UInt8.ofNat (v.length % 256)] ++ v else [f, c, UInt8.ofNat v.length] ++ v
set_option maxRecDepth 100000 in
theorem ref_attribute_ok (fr : Bool) (f c : UInt8) (v : List UInt8) (hv : v.length ≤ 20000) : OCon prog 43 [.int .i64 f.toNat, .int .i64 c.toNat, encB fr v] true false 5 1 (attrB f c v).length (rowsB (attrB f c v)) := by
  refine callV_of (fn := Go.Proofs.Try.f43) (body := _) tab_ok mixed rfl rfl (by decide) (by simp [Go.Proofs.Try.f43]) ?_
  (conv => whnf)
  intro _
  (conv => whnf)
  split
  · rename_i h
    have h : 255 < v.length := by simp at h; omega
    (conv => whnf)
    refine ⟨by decide, ?_⟩
    (conv => whnf)
    refine ⟨by decide, ?_⟩
    (conv => whnf)
    refine ⟨⟨rfl, rfl, rfl, rfl, by decide⟩, by simp, ⟨by simp [tab, tabOf, nth]; omega, by simp; omega⟩, ?_⟩
    (conv => whnf)
    refine own1 (bs := attrB f c v) rfl ?_ ?_
    · have e1 : ((v.length : Nat) : Int).tdiv 256 = ((v.length / 256 : Nat) : Int) := by rw [Int.tdiv_eq_ediv_of_nonneg (by omega)]; rfl
      have e2 : ((v.length : Nat) : Int).tmod 256 = ((v.length % 256 : Nat) : Int) := by rw [Int.tmod_eq_emod_of_nonneg (by omega)]; rfl
      have e3 : IntKind.i64.wrap ((v.length / 256 : Nat) : Int) = ((v.length / 256 : Nat) : Int) := by rw [wrap64] <;> omega
      have e4 : IntKind.u8.wrap (IntKind.i64.wrap ((f.toNat : Int) + 16)) = ((f + 16).toNat : Int) := by
        have := f.toNat_lt
        rw [wrap64 (by omega) (by omega), wrap8, UInt8.toNat_add]
        simp
      simp only [List.length_map, e1, e2, e3, e4, u8_int, u8_nat, UInt8.ofNat_toNat, attrB, h, if_true, rowsB, List.map_append, List.map_cons, List.map_nil]
      rfl
    · simp [attrB, h]; omega
  · rename_i h
    have h : v.length ≤ 255 := by simp at h; omega
    (conv => whnf)
    refine ⟨⟨rfl, rfl, rfl, rfl, by decide⟩, by simp, ⟨by simp [tab, tabOf, nth]; omega, by simp; omega⟩, ?_⟩
    (conv => whnf)
    refine own1 (bs := attrB f c v) rfl ?_ ?_
    · have h' : ¬ 255 < v.length := by omega
      simp only [List.length_map, u8_int, u8_nat, UInt8.ofNat_toNat, attrB, h', if_false, rowsB, List.map_append, List.map_cons, List.map_nil]
      rfl
    · have h' : ¬ 255 < v.length := by omega
      simp [attrB, h']; omega
end Go.Proofs.Ytcfkendgjinmiaa
/- Contract: the reference's Raw. -/
set_option linter.unusedVariables false
set_option linter.unusedSimpArgs false
namespace Go.Proofs.Ytcfkendgjinmiaa
open Go.RowKit
open Go.Proofs.Try (prog)
attribute [local irreducible] CallV RoundV

def kindB (p : Leg) : UInt8 := if p.set then 1 else 2
def legB (p : Leg) : List UInt8 := [kindB p, UInt8.ofNat p.ns.length] ++ allB p.ns
def pathB (l : List Leg) : List UInt8 := l.flatMap legB
theorem pathB_succ {l : List Leg} {i : Nat} (h : i < l.length) : pathB (l.take (i + 1)) = pathB (l.take i) ++ legB l[i] := by
  unfold pathB
  rw [List.take_succ_eq_append_getElem h, List.flatMap_append, List.flatMap_cons, List.flatMap_nil, List.append_nil]
theorem legB_len (p : Leg) : (legB p).length = 2 + 4 * p.ns.length := by simp [legB, allB_len]; omega
theorem pathB_len {l : List Leg} (h : ∀ p ∈ l, p.ns.length ≤ 60) : (pathB l).length ≤ 242 * l.length := by
  induction l with
  | nil => simp [pathB]
  | cons p l ih =>
    have e : pathB (p :: l) = legB p ++ pathB l := by unfold pathB; rw [List.flatMap_cons]
    have := ih (fun q hq => h q (by simp [hq]))
    have := h p (by simp)
    rw [e, List.length_append, legB_len, List.length_cons]
    omega
theorem rowsB_ff (b : List UInt8) : ∀ x ∈ rowsB b, ∀ v ∈ x, Free v ∧ Fresh v := by
  intro x hx v hv
  obtain ⟨y, _, rfl⟩ := List.mem_map.1 hx
  simp at hv; subst hv; exact ⟨.int, .int⟩
theorem attr_cold {f c : Int} {v : List UInt8} : ∀ x ∈ [V.int .i64 f, V.int .i64 c, encB false v], Cold x := by
  intro x hx
  simp at hx
  rcases hx with rfl | rfl | rfl
  · exact .int
  · exact .int
  · exact encB_cold _

def rawO (a : Attrs) : List UInt8 := attrB 64 1 [a.origin] ++ attrB 64 2 (pathB a.path) ++ attrB 64 3 (fourB a.next) ++ (if a.hasMed then attrB 128 4 (fourB a.med) else []) ++ (if a.hasPref then attrB 64 5 (fourB a.pref) else [])
def rawA (a : Attrs) : List UInt8 := rawO a ++ (if 0 < a.tags.length then attrB 192 8 (allB a.tags) else [])

set_option maxRecDepth 100000 in
set_option maxHeartbeats 4000000 in
theorem ref_raw_own (fr : Bool) (a : Attrs) (hf : fewA a = true) : OCon prog 19 [encA fr a] true false 5 1 (rawA a).length (rowsB (rawA a)) := by
  obtain ⟨hp, hpl, htl⟩ := fewA_out hf
  have cell : ∀ {fr0 : Bool} {x : Attrs}, FreeB (.var true 26 (cellsA fr0 x)) := fun {fr0 x} => cellsA_free fr0 x
  have hA1 : (attrB 64 1 [a.origin]).length = 4 := rfl
  refine callV_of (fn := Go.Proofs.Try.f19) (body := _) tab_ok mixed rfl rfl (by decide) (by simp [Go.Proofs.Try.f19]) ?_
  (conv => whnf)
  refine callV_own [1] (ref_attribute_ok false 64 1 [a.origin] (by simp)) ⟨.int_of rfl, .int_of rfl, LeV.fresh_off (.freezeB (by simp) rfl rfl rfl), trivial⟩ attr_cold (one_none rfl) (rowsB_ff _) ?_
  (conv => whnf)
  refine vcg_loop tab_ok mixed (fun i : {i : Nat // i ≤ a.path.length} => ⟨[(1, .ptr 0 0), (3, .osl 2 1 0 4), (4, .osl 3 1 0 (pathB (a.path.take i.1)).length), (5, cI i.1)], [(0, some (.var true 26 (cellsA fr a))), (2, some (.arr true false 5 1 (rowsB (attrB 64 1 [a.origin])))), (3, some (.arr true false 5 1 (rowsB (pathB (a.path.take i.1)))))], 4⟩) (fun i => a.path.length - i.1) ⟨0, by omega⟩ ?_ (fun i => ?_)
  · refine Wk.of id [] ⟨?_, ?_, ?_, ?_, trivial⟩ (LeH.of ⟨⟨by omega, .inl ⟨by simp, _, rfl, LeB.free cell⟩⟩, ⟨by omega, .inl ⟨by simp, _, rfl, LeB.free (rowsB_free _)⟩⟩, ⟨by omega, .inr ⟨by simp, _, _, _, _, rfl⟩⟩, trivial⟩ (fun _ _ _ _ h => h) (fun _ _ => rfl) (by omega) (by simp))
    · exact .ptr rfl (by omega)
    · exact .osl_of rfl (by omega) rfl
    · exact .osl0
    · exact .int_of rfl
  obtain ⟨i, hi⟩ := i
  (conv => whnf)
  intro hl
  have hl : a.path.length ≤ maxLen := by simpa [gd] using hl
  (conv => whnf)
  split
  · rename_i hc
    have hc : i < a.path.length := by simpa using hc
    have hpi := hp a.path[i] (List.getElem_mem hc)
    have hpb : (pathB (a.path.take i)).length ≤ 242 * i := by
      have := pathB_len (l := a.path.take i) (fun p hp' => hp p (List.mem_of_mem_take hp'))
      rw [List.length_take, Nat.min_eq_left hi] at this
      exact this
    (conv => whnf)
    refine ⟨rfl, _, ⟨by first | omega | (simp only; omega), idxL hc⟩, ?_⟩
    (conv => whnf)
    split
    case' h_1 => rename_i hk; have hkind : kindB a.path[i] = 1 := by simp [kindB, hk]
    case' h_2 => rename_i hk; have hkind : kindB a.path[i] = 2 := by simp [kindB, hk]
    all_goals
      (conv => whnf)
      refine ⟨rfl, _, ⟨by first | omega | (simp only; omega), idxL hc⟩, ?_⟩
      (conv => whnf)
      refine fun (_ : gd none _) => ?_
      (conv => whnf)
      refine ⟨rfl, by simp, ⟨rfl, rfl, rfl, rfl, by decide⟩, by simp, ⟨by simp [tab, tabOf, nth]; omega, by simp; omega⟩, ?_⟩
      (conv => whnf)
      refine vcg_loop tab_ok mixed (fun j : {j : Nat // j ≤ a.path[i].ns.length} => ⟨[(1, .ptr 0 0), (3, .osl 2 1 0 4), (4, .osl 3 1 0 ((pathB (a.path.take i)).length + 2 + 4 * j.1)), (5, cI i), (7, cI j.1)], [(0, some (.var true 26 (cellsA fr a))), (2, some (.arr true false 5 1 (rowsB (attrB 64 1 [a.origin])))), (3, some (.arr true false 5 1 (rowsB (pathB (a.path.take i) ++ [kindB a.path[i], UInt8.ofNat a.path[i].ns.length] ++ allB (a.path[i].ns.take j.1)))))], 4⟩) (fun j => a.path[i].ns.length - j.1) ⟨0, by omega⟩ ?_ (fun j => ?_)
      · refine Wk.of (renOf [(3, 5)]) [] ⟨?_, ?_, ?_, ?_, ?_, trivial⟩ (LeH.of ⟨⟨by omega, .inl ⟨by simp, _, rfl, LeB.free cell⟩⟩, ⟨by omega, .inl ⟨by simp, _, rfl, LeB.free (rowsB_free _)⟩⟩, ⟨by omega, .inl ⟨by simp, _, rfl, LeB.eq_of ?_ (rowsB_free _)⟩⟩, trivial⟩ (show ∀ b ∈ [0, 2, 3], ∀ b' ∈ [0, 2, 3], renOf [(3, 5)] b = renOf [(3, 5)] b' → b = b' by decide) (fun b hb => by omega) (by omega) (by simp))
        · exact .ptr rfl (by omega)
        · exact .osl_of rfl (by omega) rfl
        · exact .osl_of rfl (by omega) (by simp)
        · exact .int_of rfl
        · exact .int_of rfl
        · simp only [List.length_map, u8_nat, hkind]
          rw [List.take_of_length_le (by simp)]
          simp [rowsB, allB]
      obtain ⟨j, hj⟩ := j
      (conv => whnf)
      refine ⟨rfl, _, ⟨by first | omega | (simp only; omega), idxL hc⟩, ?_⟩
      (conv => whnf)
      refine fun (_ : gd none _) => ?_
      (conv => whnf)
      split
      · rename_i hcj
        have hcj : j < a.path[i].ns.length := by simpa using hcj
        have hall : (allB (a.path[i].ns.take j)).length = 4 * j := by rw [allB_len, List.length_take, Nat.min_eq_left hj]
        (conv => whnf)
        refine ⟨rfl, _, ⟨by first | omega | (simp only; omega), idxL hc⟩, ?_⟩
        (conv => whnf)
        refine ⟨rfl, _, ⟨by first | omega | (simp only; omega), idxW hcj⟩, ?_⟩
        (conv => whnf)
        refine callV_pure (ref_four_ok _) ⟨.free .int, trivial⟩ ?_
        (conv => whnf)
        refine ⟨⟨rfl, rfl, rfl, rfl, by decide⟩, by simp [hall]; omega, ⟨by simp [tab, tabOf, nth, fourB]; omega, by simp [fourB]; omega⟩, ?_⟩
        (conv => whnf)
        refine ⟨⟨j + 1, by omega⟩, Wk.of (renOf [(3, 4)]) [] ⟨?_, ?_, ?_, ?_, ?_, trivial⟩ (LeH.of ⟨⟨by omega, .inl ⟨by simp, _, rfl, LeB.free cell⟩⟩, ⟨by omega, .inl ⟨by simp, _, rfl, LeB.free (rowsB_free _)⟩⟩, ⟨by omega, .inl ⟨by simp, _, rfl, LeB.eq_of ?_ (rowsB_free _)⟩⟩, trivial⟩ (show ∀ b ∈ [0, 2, 3], ∀ b' ∈ [0, 2, 3], renOf [(3, 4)] b = renOf [(3, 4)] b' → b = b' by decide) (fun b hb => by omega) (by omega) (by simp)), by simp only; omega⟩
        · exact .ptr rfl (by omega)
        · exact .osl_of rfl (by omega) rfl
        · exact .osl_of rfl (by omega) (by simp [fourB]; omega)
        · exact .int_of rfl
        · exact .int_of (wrap64_succ hcj (show a.path[i].ns.length ≤ maxLen by unfold maxLen; omega))
        · simp only
          rw [allB_succ hcj, List.take_of_length_le (by simp [hall]; omega)]
          simp [rowsB]
      · rename_i hcj
        have hcj : j = a.path[i].ns.length := by simp at hcj; omega
        subst hcj
        (conv => whnf)
        refine ⟨⟨i + 1, by omega⟩, Wk.of id [] ⟨?_, ?_, ?_, ?_, trivial⟩ (LeH.of ⟨⟨by omega, .inl ⟨by simp, _, rfl, LeB.free cell⟩⟩, ⟨by omega, .inl ⟨by simp, _, rfl, LeB.free (rowsB_free _)⟩⟩, ⟨by omega, .inl ⟨by simp, _, rfl, LeB.eq_of ?_ (rowsB_free _)⟩⟩, trivial⟩ (fun _ _ _ _ h => h) (fun _ _ => rfl) (by omega) (by simp)), by simp only; omega⟩
        · exact .ptr rfl (by omega)
        · exact .osl_of rfl (by omega) rfl
        · exact .osl_of rfl (by omega) (by simp only; rw [pathB_succ hc, List.length_append, legB_len]; omega)
        · exact .int_of (wrap64_succ hc hl)
        · simp only
          rw [pathB_succ hc, List.take_length]
          simp [rowsB, legB]
  · rename_i hc
    have hc : i = a.path.length := by simp at hc; omega
    subst hc
    (conv => whnf)
    have hpb : (pathB a.path).length ≤ 242 * a.path.length := pathB_len hp
    have app : ∀ {n m : Nat}, n ≤ 20000 → m ≤ 20000 → (n + m) * (tab 5).bytes ≤ 140737488355328 ∧ n + m ≤ 140737488355328 := fun h1 h2 => ⟨by simp [tab, tabOf, nth]; omega, by omega⟩
    have al : ∀ {f c : UInt8} {v : List UInt8}, (attrB f c v).length ≤ 4 + v.length := fun {f c v} => by unfold attrB; split <;> simp <;> omega
    have hA2 := al (f := 64) (c := 2) (v := pathB a.path)
    have hA3 := al (f := 64) (c := 3) (v := fourB a.next)
    have hA4 := al (f := 128) (c := 4) (v := fourB a.med)
    have hA5 := al (f := 64) (c := 5) (v := fourB a.pref)
    have f4 : ∀ x, (fourB x).length = 4 := fun _ => rfl
    rw [f4] at hA3 hA4 hA5
    refine callV_own [3] (ref_attribute_ok false 64 2 (pathB a.path) (by omega)) ⟨.int_of rfl, .int_of rfl, LeV.fresh_off (.freezeB (by simp) rfl (by simp) (by simp)), trivial⟩ attr_cold (one_none rfl) (rowsB_ff _) ?_
    (conv => whnf)
    refine ⟨rfl, by simp, ⟨rfl, rfl, rfl, rfl, by decide⟩, by simp [hA1], app (by omega) (by simp; omega), ?_⟩
    (conv => whnf)
    refine callV_pure (ref_four_ok _) ⟨.free .int, trivial⟩ ?_
    (conv => whnf)
    refine callV_own [] (ref_attribute_ok false 64 3 (fourB a.next) (by rw [f4]; omega)) ⟨.int_of rfl, .int_of rfl, LeV.fresh_off (.free (encB_free _ _)), trivial⟩ attr_cold (by simp) (rowsB_ff _) ?_
    (conv => whnf)
    refine ⟨rfl, by simp, ⟨rfl, rfl, rfl, rfl, by decide⟩, by simp [hA1], app (by simp; omega) (by simp; omega), ?_⟩
    (conv => whnf)
    split
    case' h_1 =>
      rename_i hm
      (conv => whnf)
      refine callV_pure (ref_four_ok _) ⟨.free .int, trivial⟩ ?_
      (conv => whnf)
      refine callV_own [] (ref_attribute_ok false 128 4 (fourB a.med) (by rw [f4]; omega)) ⟨.int_of rfl, .int_of rfl, LeV.fresh_off (.free (encB_free _ _)), trivial⟩ attr_cold (by simp) (rowsB_ff _) ?_
      (conv => whnf)
      refine ⟨rfl, by simp, ⟨rfl, rfl, rfl, rfl, by decide⟩, by simp [hA1], app (by simp; omega) (by simp; omega), ?_⟩
      (conv => whnf)
    case' h_2 =>
      rename_i hm
      (conv => whnf)
    all_goals
      split
      case' h_1 =>
        rename_i hf2
        (conv => whnf)
        refine callV_pure (ref_four_ok _) ⟨.free .int, trivial⟩ ?_
        (conv => whnf)
        refine callV_own [] (ref_attribute_ok false 64 5 (fourB a.pref) (by rw [f4]; omega)) ⟨.int_of rfl, .int_of rfl, LeV.fresh_off (.free (encB_free _ _)), trivial⟩ attr_cold (by simp) (rowsB_ff _) ?_
        (conv => whnf)
        refine ⟨rfl, by simp, ⟨rfl, rfl, rfl, rfl, by decide⟩, by simp [hA1], app (by simp; omega) (by simp; omega), ?_⟩
        (conv => whnf)
      case' h_2 =>
        rename_i hf2
        (conv => whnf)
    all_goals
      have tk : ∀ {n : Nat} {b : List UInt8}, b.length ≤ n → List.take n (rowsB b) = rowsB b := fun h => List.take_of_length_le (by simpa using h)
      refine vcg_loop tab_ok mixed (fun i : {i : Nat // i ≤ a.tags.length} => ⟨[(1, .ptr 0 0), (3, .osl 2 1 0 (rawO a).length), (8, .osl 3 1 0 (4 * i.1)), (9, cI i.1)], [(0, some (.var true 26 (cellsA fr a))), (2, some (.arr true false 5 1 (rowsB (rawO a)))), (3, some (.arr true false 5 1 (rowsB (allB (a.tags.take i.1)))))], 4⟩) (fun i => a.tags.length - i.1) ⟨0, by omega⟩ ?_ (fun i => ?_)
      · first
        | (refine Wk.of (renOf [(2, 7), (3, 50)]) [] ⟨?_, ?_, ?_, ?_, trivial⟩ (LeH.of ⟨⟨by omega, .inl ⟨by simp, _, rfl, LeB.free cell⟩⟩, ⟨by omega, .inl ⟨by simp, _, rfl, LeB.eq_of ?_ (rowsB_free _)⟩⟩, ⟨by omega, .inr ⟨by simp [renOf, Nat.beq], _, _, _, _, rfl⟩⟩, trivial⟩ (show ∀ b ∈ [0, 2, 3], ∀ b' ∈ [0, 2, 3], renOf [(2, 7), (3, 50)] b = renOf [(2, 7), (3, 50)] b' → b = b' by decide) (fun b hb => by omega) (by omega) (by simp))
           · exact .ptr rfl (by omega)
           · exact .osl_of rfl (by omega) (by simp [rawO, hm, hf2, hA1]; try omega)
           · exact .osl0
           · exact .int_of rfl
           · simp [rowsB, rawO, hm, hf2, hA1, List.take_of_length_le, Nat.add_assoc])
        | (refine Wk.of (renOf [(2, 9), (3, 50)]) [] ⟨?_, ?_, ?_, ?_, trivial⟩ (LeH.of ⟨⟨by omega, .inl ⟨by simp, _, rfl, LeB.free cell⟩⟩, ⟨by omega, .inl ⟨by simp, _, rfl, LeB.eq_of ?_ (rowsB_free _)⟩⟩, ⟨by omega, .inr ⟨by simp [renOf, Nat.beq], _, _, _, _, rfl⟩⟩, trivial⟩ (show ∀ b ∈ [0, 2, 3], ∀ b' ∈ [0, 2, 3], renOf [(2, 9), (3, 50)] b = renOf [(2, 9), (3, 50)] b' → b = b' by decide) (fun b hb => by omega) (by omega) (by simp))
           · exact .ptr rfl (by omega)
           · exact .osl_of rfl (by omega) (by simp [rawO, hm, hf2, hA1]; try omega)
           · exact .osl0
           · exact .int_of rfl
           · simp [rowsB, rawO, hm, hf2, hA1, List.take_of_length_le, Nat.add_assoc])
        | (refine Wk.of (renOf [(2, 11), (3, 50)]) [] ⟨?_, ?_, ?_, ?_, trivial⟩ (LeH.of ⟨⟨by omega, .inl ⟨by simp, _, rfl, LeB.free cell⟩⟩, ⟨by omega, .inl ⟨by simp, _, rfl, LeB.eq_of ?_ (rowsB_free _)⟩⟩, ⟨by omega, .inr ⟨by simp [renOf, Nat.beq], _, _, _, _, rfl⟩⟩, trivial⟩ (show ∀ b ∈ [0, 2, 3], ∀ b' ∈ [0, 2, 3], renOf [(2, 11), (3, 50)] b = renOf [(2, 11), (3, 50)] b' → b = b' by decide) (fun b hb => by omega) (by omega) (by simp))
           · exact .ptr rfl (by omega)
           · exact .osl_of rfl (by omega) (by simp [rawO, hm, hf2, hA1]; try omega)
           · exact .osl0
           · exact .int_of rfl
           · simp [rowsB, rawO, hm, hf2, hA1, List.take_of_length_le, Nat.add_assoc])
      obtain ⟨i, hi⟩ := i
      (conv => whnf)
      refine fun (_ : gd none _) => ?_
      (conv => whnf)
      have hO : (rawO a).length ≤ 5000 := by
        simp only [rawO, List.length_append, hA1]
        have h4 : (if a.hasMed then attrB 128 4 (fourB a.med) else []).length ≤ 8 := by split <;> first | omega | simp
        have h5 : (if a.hasPref then attrB 64 5 (fourB a.pref) else []).length ≤ 8 := by split <;> first | omega | simp
        omega
      split
      · rename_i hc2
        have hc2 : i < a.tags.length := by simpa using hc2
        have hall : (allB (a.tags.take i)).length = 4 * i := by rw [allB_len, List.length_take, Nat.min_eq_left hi]
        (conv => whnf)
        refine ⟨rfl, _, ⟨by first | omega | (simp only; omega), idxW hc2⟩, ?_⟩
        (conv => whnf)
        refine callV_pure (ref_four_ok _) ⟨.free .int, trivial⟩ ?_
        (conv => whnf)
        refine ⟨⟨rfl, rfl, rfl, rfl, by decide⟩, by simp [hall], ⟨by simp [tab, tabOf, nth, fourB]; omega, by simp [fourB]; omega⟩, ?_⟩
        (conv => whnf)
        refine ⟨⟨i + 1, by omega⟩, Wk.of (renOf [(3, 4)]) [] ⟨?_, ?_, ?_, ?_, trivial⟩ (LeH.of ⟨⟨by omega, .inl ⟨by simp, _, rfl, LeB.free cell⟩⟩, ⟨by omega, .inl ⟨by simp, _, rfl, LeB.free (rowsB_free _)⟩⟩, ⟨by omega, .inl ⟨by simp, _, rfl, LeB.eq_of ?_ (rowsB_free _)⟩⟩, trivial⟩ (show ∀ b ∈ [0, 2, 3], ∀ b' ∈ [0, 2, 3], renOf [(3, 4)] b = renOf [(3, 4)] b' → b = b' by decide) (fun b hb => by omega) (by omega) (by simp)), by simp only; omega⟩
        · exact .ptr rfl (by omega)
        · exact .osl_of rfl (by omega) rfl
        · exact .osl_of rfl (by omega) (by simp [fourB]; omega)
        · exact .int_of (wrap64_succ hc2 (show a.tags.length ≤ maxLen by unfold maxLen; omega))
        · simp only
          rw [allB_succ hc2, List.take_of_length_le (by simp [hall])]
          simp [rowsB]
      · rename_i hc2
        have hc2 : i = a.tags.length := by simp at hc2; omega
        subst hc2
        (conv => whnf)
        refine fun (_ : gd none _) => ?_
        (conv => whnf)
        split
        · rename_i ht
          have ht : 0 < a.tags.length := by simp at ht; omega
          (conv => whnf)
          refine callV_own [3] (ref_attribute_ok false 192 8 (allB a.tags) (by rw [allB_len]; omega)) ⟨.int_of rfl, .int_of rfl, LeV.fresh_off (.freezeB (by simp) rfl (by simp) (by simp [allB_len])), trivial⟩ attr_cold (one_none rfl) (rowsB_ff _) ?_
          (conv => whnf)
          have hA8 := al (f := 192) (c := 8) (v := allB a.tags)
          rw [allB_len] at hA8
          refine ⟨rfl, by simp, ⟨rfl, rfl, rfl, rfl, by decide⟩, by simp, app (by omega) (by simp; omega), ?_⟩
          (conv => whnf)
          refine Ends.own rfl ?_ ?_ ?_
          rotate_left
          · simp [rawA, ht]
          · simp [rawA, ht, rowsB, List.take_of_length_le]
          · intro x hx v hv
            rcases List.mem_append.1 hx with hx | hx
            · exact rowsB_free _ x (List.mem_of_mem_take hx) v hv
            · exact rowsB_free _ x (List.mem_of_mem_drop (List.mem_of_mem_take hx)) v hv
        · rename_i ht
          have ht : ¬ 0 < a.tags.length := by simp at ht; omega
          (conv => whnf)
          refine Ends.own rfl (by exact rowsB_free _) ?_ ?_
          · simp [rawA, ht]
          · simp [rawA, ht]
theorem ref_raw_ok (fr : Bool) (a : Attrs) (hf : fewA a = true) : PCon prog 19 [encA fr a] (encB true (rawA a)) := by
  have := PCon.of_own (ref_raw_own fr a hf) (by simp [rowsB]) (rowsB_free _)
  rwa [List.take_of_length_le (by simp [rowsB])] at this
end Go.Proofs.Ytcfkendgjinmiaa
/- Contracts: the attributes' values. -/
set_option linter.unusedVariables false
set_option linter.unusedSimpArgs false
namespace Go.Proofs.Ytcfkendgjinmiaa
open Go.RowKit
open Go.Proofs.Try (prog)
attribute [local irreducible] CallV RoundV

set_option maxRecDepth 100000 in
set_option maxHeartbeats 2000000 in
theorem route_ok (fr : Bool) (a : Attrs) (hf : fewA a = true) : PCon prog 63 [encA fr a] (encB true (pathB a.path)) := by
  obtain ⟨hp, hpl, htl⟩ := fewA_out hf
  have cell : ∀ {fr0 : Bool} {x : Attrs}, FreeB (.var true 26 (cellsA fr0 x)) := fun {fr0 x} => cellsA_free fr0 x
  refine callV_of (fn := Go.Proofs.Try.f63) (body := _) tab_ok mixed rfl rfl (by decide) (by simp [Go.Proofs.Try.f63]) ?_
  (conv => whnf)
  intro hl
  have hl : a.path.length ≤ maxLen := by simpa [gd] using hl
  (conv => whnf)
  refine vcg_loop tab_ok mixed (fun i : {i : Nat // i ≤ a.path.length} => ⟨[(2, .osl 1 1 0 (pathB (a.path.take i.1)).length), (7, encLegs fr a.path), (8, cI a.path.length), (9, cI i.1)], [(1, some (.arr true false 5 1 (rowsB (pathB (a.path.take i.1)))))], 2⟩) (fun i => a.path.length - i.1) ⟨0, by omega⟩ ?_ (fun i => ?_)
  · refine Wk.of id [] ⟨?_, ?_, ?_, ?_, trivial⟩ (LeH.of ⟨⟨by omega, .inr ⟨by simp, _, _, _, _, rfl⟩⟩, trivial⟩ (fun _ _ _ _ h => h) (fun _ _ => rfl) (by omega) (by simp))
    · exact .osl0
    · exact .free (encLegs_free _ _)
    · exact .int_of (by simp)
    · exact .int_of rfl
  obtain ⟨i, hi⟩ := i
  (conv => whnf)
  split
  · rename_i hc
    have hc : i < a.path.length := by simpa using hc
    have hpi := hp a.path[i] (List.getElem_mem hc)
    have hpb : (pathB (a.path.take i)).length ≤ 242 * i := by
      have := pathB_len (l := a.path.take i) (fun p hp' => hp p (List.mem_of_mem_take hp'))
      rw [List.length_take, Nat.min_eq_left hi] at this
      exact this
    (conv => whnf)
    refine ⟨rfl, _, ⟨by first | omega | (simp only; omega), idxL hc⟩, ?_⟩
    (conv => whnf)
    split
    case' h_1 => rename_i hk; have hkind : kindB a.path[i] = 1 := by simp [kindB, hk]
    case' h_2 => rename_i hk; have hkind : kindB a.path[i] = 2 := by simp [kindB, hk]
    all_goals
      (conv => whnf)
      refine ⟨rfl, by simp, ⟨rfl, rfl, rfl, rfl, by decide⟩, by simp, ⟨by simp [tab, tabOf, nth]; omega, by simp; omega⟩, ?_⟩
      (conv => whnf)
      refine ⟨encB true (allB a.path[i].ns), [], fun h nx _ => ?_, by simp, ?_⟩
      · refine pureV_pure (all_ok fr a.path[i].ns (by omega)) ?_
        exact ⟨.free (encW_free _ _), trivial⟩
      (conv => whnf)
      refine ⟨⟨rfl, rfl, rfl, rfl, by decide⟩, by simp, ⟨by simp [tab, tabOf, nth, allB_len]; omega, by simp [allB_len]; omega⟩, ?_⟩
      (conv => whnf)
      refine ⟨by kernel_rfl, ?_⟩
      (conv => whnf)
      refine ⟨⟨i + 1, by omega⟩, Wk.of (renOf [(1, 5)]) [] ⟨?_, ?_, ?_, ?_, trivial⟩ (LeH.of ⟨⟨by omega, .inl ⟨by simp, _, rfl, LeB.eq_of ?_ (rowsB_free _)⟩⟩, trivial⟩ (show ∀ b ∈ [1], ∀ b' ∈ [1], renOf [(1, 5)] b = renOf [(1, 5)] b' → b = b' by decide) (fun b hb => by omega) (by omega) (by simp)), by simp only; omega⟩
      · exact .osl_of rfl (by omega) (by simp only; rw [pathB_succ hc, List.length_append, legB_len]; simp [allB_len]; omega)
      · exact .free (encLegs_free _ _)
      · exact .int_of rfl
      · exact .int_of (wrap64_succ hc hl)
      · simp only [List.length_map, u8_nat]
        rw [pathB_succ hc]
        simp [rowsB, legB, hkind, List.take_of_length_le]
  · rename_i hc
    have hc : i = a.path.length := by simp at hc; omega
    subst hc
    (conv => whnf)
    refine Ends.pure [1] (.freezeB (bs := pathB a.path) (by simp) rfl (by simp) (by simp)) (one_none rfl)

set_option maxRecDepth 100000 in
theorem always_ok (fr : Bool) (a : Attrs) : PCon prog 60 [encA fr a] (.bool true) := by
  refine callV_of (fn := Go.Proofs.Try.f60) (body := _) tab_ok mixed rfl rfl (by decide) (by simp [Go.Proofs.Try.f60]) ?_
  (conv => whnf)
  exact Ends.pure [] (.bool_of rfl) (by simp)
set_option maxRecDepth 100000 in
theorem hasMed_ok (fr : Bool) (a : Attrs) : PCon prog 69 [encA fr a] (.bool a.hasMed) := by
  refine callV_of (fn := Go.Proofs.Try.f69) (body := _) tab_ok mixed rfl rfl (by decide) (by simp [Go.Proofs.Try.f69]) ?_
  (conv => whnf)
  exact Ends.pure [] (.bool_of rfl) (by simp)
set_option maxRecDepth 100000 in
theorem hasPref_ok (fr : Bool) (a : Attrs) : PCon prog 72 [encA fr a] (.bool a.hasPref) := by
  refine callV_of (fn := Go.Proofs.Try.f72) (body := _) tab_ok mixed rfl rfl (by decide) (by simp [Go.Proofs.Try.f72]) ?_
  (conv => whnf)
  exact Ends.pure [] (.bool_of rfl) (by simp)
set_option maxRecDepth 100000 in
theorem hasTags_ok (fr : Bool) (a : Attrs) : PCon prog 75 [encA fr a] (.bool (decide (0 < a.tags.length))) := by
  refine callV_of (fn := Go.Proofs.Try.f75) (body := _) tab_ok mixed rfl rfl (by decide) (by simp [Go.Proofs.Try.f75]) ?_
  (conv => whnf)
  intro _
  (conv => whnf)
  exact Ends.pure [] (.bool_of (by simp)) (by simp)
set_option maxRecDepth 100000 in
theorem vOrigin_ok (fr : Bool) (a : Attrs) : PCon prog 61 [encA fr a] (encB true [a.origin]) := by
  refine callV_of (fn := Go.Proofs.Try.f61) (body := _) tab_ok mixed rfl rfl (by decide) (by simp [Go.Proofs.Try.f61]) ?_
  (conv => whnf)
  exact Ends.pure [1] (.freezeB (bs := [a.origin]) (by simp) rfl rfl rfl) (one_none rfl)
set_option maxRecDepth 100000 in
theorem vNext_ok (fr : Bool) (a : Attrs) : PCon prog 65 [encA fr a] (encB true (fourB a.next)) := by
  refine callV_of (fn := Go.Proofs.Try.f65) (body := _) tab_ok mixed rfl rfl (by decide) (by simp [Go.Proofs.Try.f65]) ?_
  (conv => whnf)
  refine callV_pure (high_ok _) ⟨.free .int, .free .int, trivial⟩ ?_
  (conv => whnf)
  exact Ends.pure [] (.free (encB_free _ _)) (by simp)
set_option maxRecDepth 100000 in
theorem vMed_ok (fr : Bool) (a : Attrs) : PCon prog 70 [encA fr a] (encB true (fourB a.med)) := by
  refine callV_of (fn := Go.Proofs.Try.f70) (body := _) tab_ok mixed rfl rfl (by decide) (by simp [Go.Proofs.Try.f70]) ?_
  (conv => whnf)
  refine callV_pure (high_ok _) ⟨.free .int, .free .int, trivial⟩ ?_
  (conv => whnf)
  exact Ends.pure [] (.free (encB_free _ _)) (by simp)
set_option maxRecDepth 100000 in
theorem vPref_ok (fr : Bool) (a : Attrs) : PCon prog 73 [encA fr a] (encB true (fourB a.pref)) := by
  refine callV_of (fn := Go.Proofs.Try.f73) (body := _) tab_ok mixed rfl rfl (by decide) (by simp [Go.Proofs.Try.f73]) ?_
  (conv => whnf)
  refine callV_pure (high_ok _) ⟨.free .int, .free .int, trivial⟩ ?_
  (conv => whnf)
  exact Ends.pure [] (.free (encB_free _ _)) (by simp)
set_option maxRecDepth 100000 in
theorem vTags_ok (fr : Bool) (a : Attrs) (hf : fewA a = true) : PCon prog 76 [encA fr a] (encB true (allB a.tags)) := by
  obtain ⟨_, _, htl⟩ := fewA_out hf
  refine callV_of (fn := Go.Proofs.Try.f76) (body := _) tab_ok mixed rfl rfl (by decide) (by simp [Go.Proofs.Try.f76]) ?_
  (conv => whnf)
  refine callV_pure (all_ok _ _ (by omega)) ⟨.free (encW_free _ _), trivial⟩ ?_
  (conv => whnf)
  exact Ends.pure [] (.free (encB_free _ _)) (by simp)
end Go.Proofs.Ytcfkendgjinmiaa
/- Contracts: the row of attributes. -/
set_option linter.unusedVariables false
set_option linter.unusedSimpArgs false
namespace Go.Proofs.Ytcfkendgjinmiaa
open Go.RowKit
open Go.Proofs.Try (prog)
attribute [local irreducible] CallV RoundV

theorem LeV.fnL {h : Heap} {nx nx' : Nat} {ρ : Nat → Nat} {Z : List Nat} {f : Fn} {fs fs' cs cs' : List V} (h1 : LeL h nx ρ nx' Z fs fs') (h2 : LeL h nx ρ nx' Z cs cs') : LeV h nx ρ nx' Z (.fn f fs cs) (.fn f fs' cs') := fun G w u hr hv => by
  cases hv with
  | fn _ _ _ us ws q1 q2 q3 q4 =>
    have v1 := h1.vrs hr (us := us) ⟨q1, q3⟩
    have v2 := h2.vrs hr (us := ws) ⟨q2, q4⟩
    exact .fn _ _ _ us ws v1.1 v2.1 v1.2 v2.2
theorem LeV.freezePL {h : Heap} {nx nx' : Nat} {ρ : Nat → Nat} {Z : List Nat} {b : Nat} {fr : Bool} {ty : TypeId} {cells cells' : List V} (hz : b ∈ Z) (hb : hget h b = some (.var fr ty cells)) (hl : LeL h nx ρ nx' Z cells cells') :
    LeV h nx ρ nx' Z (.ptr b 0) (.iptr fr cells') := fun G w u hr hv => by
  have hown : Holds G w b fr true ty cells := hr.own b _ hb
  obtain ⟨c', cs, e1, hh, hle, hex, hfr, hcell, _⟩ := hown
  obtain ⟨l1, l2⟩ := hl.out
  cases hv with
  | ptr _ _ c hc =>
    rw [hc] at e1
    obtain rfl : c = c' := Option.some.inj e1
    have at' : ∀ (j : Nat) (v' : V), cells'[j]? = some v' → ∃ v u, cells[j]? = some v ∧ cs[j]? = some u ∧ u.oneCell' = true ∧ vr G w v u := by
      intro j v' hj
      have hlt : j < cells.length := by rw [l1]; exact (List.getElem?_eq_some_iff.1 hj).1
      obtain ⟨u, hu, h1, hv⟩ := hcell j _ (List.getElem?_eq_getElem hlt)
      exact ⟨_, u, List.getElem?_eq_getElem hlt, hu, h1, hv⟩
    refine .iptr fr cells' ⟨c, 0, none⟩ (fun j => cs[j]?.getD undef) rfl (fun j v' hj => ?_) (fun j v' hj => ?_)
    · obtain ⟨v, u, _, hu, h1, _⟩ := at' j v' hj
      exact ⟨by simp [World.cell?, hh, hu], .inr ⟨b, hz, hc⟩, fun hf => ⟨hfr hf, by simp [World.frozen?, hh]⟩, by simp [hu, h1]⟩
    · obtain ⟨v, u, hv, hu, h1, hvr⟩ := at' j v' hj
      simp only [hu, Option.getD_some]
      exact l2 j v v' hv hj G w u hr hvr

abbrev fnV (n : Nat) : V := .fn (.func n) [] []
def fourV (n : Nat) : V := .fn (.func 96) [] [.iptr true [fnV n]]
set_option maxRecDepth 100000 in
theorem four_ok (n : Nat) : PCon prog 67 [fnV n] (fourV n) := by
  refine callV_of (fn := Go.Proofs.Try.f67) (body := _) tab_ok mixed rfl rfl (by decide) (by simp [Go.Proofs.Try.f67]) ?_
  (conv => whnf)
  refine Ends.pure [0] (.fnL trivial ⟨.freezePL (by simp) rfl ⟨.free (.fn (by simp) (by simp)), trivial⟩, trivial⟩) (one_none rfl)
theorem fourV_free (n : Nat) : Free (fourV n) := .fn (by simp) (by
  intro v hv
  simp at hv; subst hv
  refine .iptr ?_
  intro v hv
  simp at hv; subst hv
  exact .fn (by simp) (by simp))
/-- The attributes, one by one. -/
def attrRows : List (List V) := [
  [.int .u8 1, .int .u8 64, fnV 60, fnV 61, fnV 62],
  [.int .u8 2, .int .u8 64, fnV 60, fnV 63, fnV 64],
  [.int .u8 3, .int .u8 64, fnV 60, fnV 65, fourV 68],
  [.int .u8 4, .int .u8 128, fnV 69, fnV 70, fourV 71],
  [.int .u8 5, .int .u8 64, fnV 72, fnV 73, fourV 74],
  [.int .u8 8, .int .u8 192, fnV 75, fnV 76, fnV 78]]
theorem fnV_free (n : Nat) : Free (fnV n) := .fn (by simp) (by simp)
theorem attrRows_free : ∀ x ∈ attrRows, ∀ v ∈ x, Free v := by
  intro x hx v hv
  simp only [attrRows, List.mem_cons, List.not_mem_nil, or_false] at hx
  rcases hx with rfl | rfl | rfl | rfl | rfl | rfl <;>
    (simp only [List.mem_cons, List.not_mem_nil, or_false] at hv; rcases hv with rfl | rfl | rfl | rfl | rfl <;> first | exact .int | exact fnV_free _ | exact fourV_free _)
def attributesV : V := .fn (.func 95) [] [.iptr true [.sl true 5 attrRows]]
set_option maxRecDepth 100000 in
theorem attributes_ok : PCon prog 36 [] attributesV := by
  refine callV_of (fn := Go.Proofs.Try.f36) (body := _) tab_ok mixed rfl rfl (by decide) (by simp [Go.Proofs.Try.f36]) ?_
  (conv => whnf)
  refine callV_pure (four_ok _) ⟨.free (fnV_free _), trivial⟩ ?_
  (conv => whnf)
  refine callV_pure (four_ok _) ⟨.free (fnV_free _), trivial⟩ ?_
  (conv => whnf)
  refine callV_pure (four_ok _) ⟨.free (fnV_free _), trivial⟩ ?_
  (conv => whnf)
  refine callV_of (fn := Go.Proofs.Try.f59) (body := _) tab_ok mixed rfl rfl (by decide) (by simp [Go.Proofs.Try.f59]) ?_
  (conv => whnf)
  refine ⟨_, _, _, Ends.here, ?_⟩
  (conv => whnf)
  refine Ends.pure [0, 1] (.fnL trivial ⟨.freezePL (by simp) rfl ⟨LeV.freeze_of (by simp) rfl (by simp) attrRows_free rfl, trivial⟩, trivial⟩) ?_
  intro z hz
  rcases List.mem_cons.1 hz with rfl | hz
  · exact ne_none_of rfl
  · exact one_none rfl z hz
end Go.Proofs.Ytcfkendgjinmiaa
/- Contract: a number of two bytes. -/
set_option linter.unusedVariables false
set_option linter.unusedSimpArgs false
namespace Go.Proofs.Ytcfkendgjinmiaa
open Go.RowKit
open Go.Proofs.Try (prog)
attribute [local irreducible] CallV RoundV

def twoB (n : Nat) : List UInt8 := [UInt8.ofNat (n / 256), UInt8.ofNat n]
def twoRows (n : Nat) : Nat → List (List V)
  | 0 => [[.int .u8 0], [.int .u8 0]]
  | 1 => [[.int .u8 0], [cB (UInt8.ofNat n)]]
  | _ => [[cB (UInt8.ofNat (n / 256))], [cB (UInt8.ofNat n)]]
def shrI (n : Nat) : Nat → Int
  | 0 => n
  | 1 => (n / 256 : Nat)
  | _ => (n / 65536 : Nat)
theorem twoRows_free (n : Nat) (k : Nat) : ∀ r ∈ twoRows n k, ∀ v ∈ r, Free v := by
  intro r hr v hv
  unfold twoRows at hr
  split at hr <;> (simp at hr; rcases hr with rfl | rfl <;> (simp at hv; subst hv; exact .int))
theorem shI_step (n : Nat) {m : Nat} (h : m = n / 256) (hn : n < 65536) : IntKind.i64.wrap ((IntKind.u64.wrap (n : Int)).fdiv (2 ^ (min (Int.toNat 8) IntKind.u64.bits))) = (m : Int) := by
  have h1 : IntKind.u64.wrap (n : Int) = n := by rw [wrapu64]; omega
  have e : (2 : Int) ^ (min (Int.toNat 8) IntKind.u64.bits) = 256 := by decide
  rw [h1, e, h, Int.fdiv_eq_ediv_of_nonneg _ (by decide), wrap64 (by omega) (by omega)]
  omega
set_option maxRecDepth 100000 in
theorem highI_ok (n : Nat) (hn : n < 65536) : PCon prog 37 [cI n, .int .i64 2] (encB true (twoB n)) := by
  refine callV_of (fn := Go.Proofs.Try.f37) (body := _) tab_ok mixed rfl rfl (by decide) (by simp [Go.Proofs.Try.f37]) ?_
  (conv => whnf)
  refine ⟨⟨by omega, by omega, by simp [tab, tabOf, nth], by omega⟩, ?_⟩
  (conv => whnf)
  refine callV_of (fn := Go.Proofs.Try.f80) (body := _) tab_ok mixed rfl rfl (by decide) (by simp [Go.Proofs.Try.f80]) ?_
  (conv => whnf)
  refine ⟨_, _, _, Ends.here, ?_⟩
  (conv => whnf)
  refine callV_loop [(2, .ptr 0 0), (5, .ptr 2 0)] ⟨rfl, rfl, trivial⟩ fun asg' body' hasg hbody => ?_
  refine callV_of (fn := Go.Proofs.Try.f99) (body := _) tab_ok mixed rfl rfl (by decide) (by simp [Go.Proofs.Try.f99]) ?_
  (conv => whnf)
  intro _
  (conv => whnf)
  refine vcg_loop tab_ok mixed (fun k : {k : Nat // k ≤ 2} => ⟨[(0, .yld 4), (1, .ptr 3 0), (3, .int .i64 (1 - k.1))], [(4, some (.loop 23 [(2, .ptr 0 0), (5, .ptr 2 0)] [11, 12] asg' body' .ready none)), (0, some (.var true 3 [.int .i64 (shrI n k.1)])), (1, some (.arr true true 5 1 (twoRows n k.1))), (2, some (.var true 30 [.osl 1 1 0 2])), (3, some (.var true 30 [.osl 1 1 0 2]))], 5⟩) (fun k => 2 - k.1) ⟨0, by omega⟩ ?_ (fun k => ?_)
  · refine Wk.of id [] ⟨?_, ?_, ?_, trivial⟩ (LeH.of ⟨⟨by omega, .inl ⟨by simp, _, rfl, ?_⟩⟩, ⟨by omega, .inl ⟨by simp, _, rfl, ?_⟩⟩, ⟨by omega, .inl ⟨by simp, _, rfl, ?_⟩⟩, ⟨by omega, .inl ⟨by simp, _, rfl, ?_⟩⟩, ⟨by omega, .inl ⟨by simp, _, rfl, ?_⟩⟩, trivial⟩ (fun _ _ _ _ h => h) (fun _ _ => rfl) (by omega) (by simp))
    · exact .yld rfl (by omega)
    · exact .ptr rfl (by omega)
    · exact .int_of rfl
    · exact ⟨rfl, rfl, rfl, rfl, rfl, rfl, .ptr rfl (by omega), .ptr rfl (by omega), trivial⟩
    · exact ⟨id, rfl, .int_of rfl, trivial⟩
    · exact LeB.free (blk := .arr true true 5 1 (twoRows n 0)) (twoRows_free n 0)
    · exact ⟨id, rfl, .osl_of rfl (by omega) rfl, trivial⟩
    · exact ⟨id, rfl, .osl_of rfl (by omega) rfl, trivial⟩
  obtain ⟨k, hk⟩ := k
  rcases k with _ | _ | _ | k
  case succ.succ.succ => omega
  case succ.succ.zero =>
    (conv => whnf)
    refine ⟨_, _, _, Ends.here, ?_⟩
    (conv => whnf)
    refine Ends.pure [1] ?_ ?_
    · refine LeV.freeze_of (by simp) rfl (by simp [twoRows]) (twoRows_free n 2) ?_
      simp [twoRows, twoB]
    · intro z hz
      obtain rfl := List.mem_singleton.1 hz
      exact ne_none_of rfl
  · (conv => whnf)
    refine ⟨rfl, ⟨by simp, by simp⟩, ?_⟩
    (conv => whnf)
    refine ⟨rfl, _, rfl, ?_⟩
    (conv => whnf)
    subst hasg hbody
    refine roundV_of tab_ok mixed rfl (by simp) (show 4 < 5 by omega) ?_
    (conv => whnf)
    refine ⟨rfl, ?_⟩
    (conv => whnf)
    refine ⟨rfl, ⟨by simp, by simp⟩, ?_⟩
    (conv => whnf)
    refine ⟨rfl, _, rfl, ?_⟩
    (conv => whnf)
    refine ⟨by decide, ?_⟩
    (conv => whnf)
    refine ⟨rfl, ?_⟩
    (conv => whnf)
    refine ⟨⟨1, by omega⟩, Wk.of id [] ⟨.yld rfl (by omega), .ptr rfl (by omega), .int_of ?_, trivial⟩ (LeH.of ⟨⟨by omega, .inl ⟨by simp, _, rfl, rfl, rfl, rfl, rfl, rfl, rfl, .ptr rfl (by omega), .ptr rfl (by omega), trivial⟩⟩, ⟨by omega, .inl ⟨by simp, _, rfl, id, rfl, .int_of ?_, trivial⟩⟩, ⟨by omega, .inl ⟨by simp, _, rfl, LeB.eq_of ?_ (twoRows_free n 1)⟩⟩, ⟨by omega, .inl ⟨by simp, _, rfl, id, rfl, .osl_of rfl (by omega) rfl, trivial⟩⟩, ⟨by omega, .inl ⟨by simp, _, rfl, id, rfl, .osl_of rfl (by omega) rfl, trivial⟩⟩, trivial⟩ (fun _ _ _ _ h => h) (fun _ _ => rfl) (by omega) (by simp)), ?_⟩
    · simp [wrap64']
    · exact shI_step _ (by simp [Nat.div_div_eq_div_mul]) (by omega)
    · simp [twoRows, shrI, cB, wrap8]
    · simp
  · (conv => whnf)
    refine ⟨rfl, ⟨by simp, by simp⟩, ?_⟩
    (conv => whnf)
    refine ⟨rfl, _, rfl, ?_⟩
    (conv => whnf)
    subst hasg hbody
    refine roundV_of tab_ok mixed rfl (by simp) (show 4 < 5 by omega) ?_
    (conv => whnf)
    refine ⟨rfl, ?_⟩
    (conv => whnf)
    refine ⟨rfl, ⟨by simp, by simp⟩, ?_⟩
    (conv => whnf)
    refine ⟨rfl, _, rfl, ?_⟩
    (conv => whnf)
    refine ⟨by decide, ?_⟩
    (conv => whnf)
    refine ⟨rfl, ?_⟩
    (conv => whnf)
    refine ⟨⟨2, by omega⟩, Wk.of id [] ⟨.yld rfl (by omega), .ptr rfl (by omega), .int_of ?_, trivial⟩ (LeH.of ⟨⟨by omega, .inl ⟨by simp, _, rfl, rfl, rfl, rfl, rfl, rfl, rfl, .ptr rfl (by omega), .ptr rfl (by omega), trivial⟩⟩, ⟨by omega, .inl ⟨by simp, _, rfl, id, rfl, .int_of ?_, trivial⟩⟩, ⟨by omega, .inl ⟨by simp, _, rfl, LeB.eq_of ?_ (twoRows_free n 2)⟩⟩, ⟨by omega, .inl ⟨by simp, _, rfl, id, rfl, .osl_of rfl (by omega) rfl, trivial⟩⟩, ⟨by omega, .inl ⟨by simp, _, rfl, id, rfl, .osl_of rfl (by omega) rfl, trivial⟩⟩, trivial⟩ (fun _ _ _ _ h => h) (fun _ _ => rfl) (by omega) (by simp)), ?_⟩
    · simp [wrap64']
    · exact shI_step _ (by simp [Nat.div_div_eq_div_mul]) (by omega)
    · simp [twoRows, shrI, cB, wrap8]
    · simp
end Go.Proofs.Ytcfkendgjinmiaa
/- Contract: attrs.Raw. -/
set_option linter.unusedVariables false
set_option linter.unusedSimpArgs false
namespace Go.Proofs.Ytcfkendgjinmiaa
open Go.RowKit
open Go.Proofs.Try (prog)
attribute [local irreducible] CallV RoundV

theorem LeV.snil_sl {h : Heap} {nx nx' : Nat} {ρ : Nat → Nat} {Z : List Nat} {fr : Bool} {sz : Nat} : LeV h nx ρ nx' Z .snil (.sl fr sz []) := fun G w u hr hv => by
  cases hv with
  | snil A => exact .sl fr sz [] A 0 (fun _ => undef) (Nat.le_refl _) (Nat.zero_le _) (fun h => absurd rfl h) (by simp) (by simp) (by simp)
/-- An attribute's bytes, as attrs writes them. -/
def attrX (f c : UInt8) (v : List UInt8) : List UInt8 := (if 255 < v.length then [f + 16, c] ++ twoB v.length else [f, c, UInt8.ofNat v.length]) ++ v
/-- The k-th attribute, if there is one. -/
def part (a : Attrs) : Nat → List UInt8
  | 0 => attrX 64 1 [a.origin]
  | 1 => attrX 64 2 (pathB a.path)
  | 2 => attrX 64 3 (fourB a.next)
  | 3 => if a.hasMed then attrX 128 4 (fourB a.med) else []
  | 4 => if a.hasPref then attrX 64 5 (fourB a.pref) else []
  | _ => if 0 < a.tags.length then attrX 192 8 (allB a.tags) else []
/-- What is written behind k attributes. -/
def rawP (a : Attrs) : Nat → List UInt8
  | 0 => []
  | k + 1 => rawP a k ++ part a k
def rawE (a : Attrs) : V := .tup [encB true (if rightA a then rawP a 6 else []), .int .i64 (checkA a)]
theorem rawE_no {a : Attrs} (h : rightA a = false) : rawE a = .tup [encB true [], .int .i64 2] := by simp [rawE, h, checkA]
theorem rawE_yes {a : Attrs} (h : rightA a = true) : rawE a = .tup [encB true (rawP a 6), .int .i64 0] := by simp [rawE, h, checkA]

set_option maxRecDepth 100000 in
set_option maxHeartbeats 4000000 in
theorem raw_ok (fr : Bool) (a : Attrs) (hf : fewA a = true) : PCon prog 14 [encA fr a] (rawE a) := by
  obtain ⟨hp, hpl, htl⟩ := fewA_out hf
  have cell : ∀ {fr0 : Bool} {x : Attrs}, FreeB (.var true 26 (cellsA fr0 x)) := fun {fr0 x} => cellsA_free fr0 x
  have f4 : ∀ x, (fourB x).length = 4 := fun _ => rfl
  have hbd : ∀ n : Nat, n ≤ 20000 → n * (tab 5).bytes ≤ 140737488355328 ∧ n ≤ 140737488355328 := fun n h => ⟨by simp [tab, tabOf, nth]; omega, by omega⟩
  have hpb := pathB_len hp
  have ax : ∀ {f c : UInt8} {v : List UInt8}, (attrX f c v).length ≤ 4 + v.length := fun {f c v} => by unfold attrX; split <;> simp [twoB] <;> omega
  have h4 : ∀ {b : Bool} {f c : UInt8} {x : UInt32}, (if b = true then attrX f c (fourB x) else []).length ≤ 8 := fun {b f c x} => by
    have := ax (f := f) (c := c) (v := fourB x)
    rw [f4] at this
    split <;> first | omega | simp
  have hT : (if 0 < a.tags.length then attrX 192 8 (allB a.tags) else []).length ≤ 4 + 4 * a.tags.length := by
    have := ax (f := 192) (c := 8) (v := allB a.tags)
    rw [allB_len] at this
    split <;> first | omega | simp
  have p0 : (rawP a 0).length = 0 := rfl
  have p1 : (rawP a 1).length = (rawP a 0).length + (attrX 64 1 [a.origin]).length := by show (rawP a 0 ++ part a 0).length = _; rw [List.length_append]; rfl
  have p2 : (rawP a 2).length = (rawP a 1).length + (attrX 64 2 (pathB a.path)).length := by show (rawP a 1 ++ part a 1).length = _; rw [List.length_append]; rfl
  have p3 : (rawP a 3).length = (rawP a 2).length + (attrX 64 3 (fourB a.next)).length := by show (rawP a 2 ++ part a 2).length = _; rw [List.length_append]; rfl
  have p4 : (rawP a 4).length = (rawP a 3).length + (if a.hasMed then attrX 128 4 (fourB a.med) else []).length := by show (rawP a 3 ++ part a 3).length = _; rw [List.length_append]; rfl
  have p5 : (rawP a 5).length = (rawP a 4).length + (if a.hasPref then attrX 64 5 (fourB a.pref) else []).length := by show (rawP a 4 ++ part a 4).length = _; rw [List.length_append]; rfl
  have a1 := ax (f := 64) (c := 1) (v := [a.origin])
  have a2 := ax (f := 64) (c := 2) (v := pathB a.path)
  have a3 := ax (f := 64) (c := 3) (v := fourB a.next)
  rw [f4] at a3
  have a4 := h4 (b := a.hasMed) (f := 128) (c := 4) (x := a.med)
  have a5 := h4 (b := a.hasPref) (f := 64) (c := 5) (x := a.pref)
  have hP : ∀ k, k ≤ 5 → (rawP a k).length ≤ 5000 := by
    intro k hk
    simp only [List.length_cons, List.length_nil] at a1
    rcases k with _ | _ | _ | _ | _ | _ | k <;> first | omega | (simp only [Nat.zero_add, Nat.reduceAdd]; omega)
  have or80 : bits BinOp.or IntKind.u8 64 16 = 80 := by decide
  have hP0 := hP 0 (by omega)
  have hP1 := hP 1 (by omega)
  have hP2 := hP 2 (by omega)
  have hP3 := hP 3 (by omega)
  have hP4 := hP 4 (by omega)
  have hP5 := hP 5 (by omega)
  clear p0 p1 p2 p3 p4 p5 a1 a2 a3 a4 a5 hT h4 hP
  cases hright : rightA a with
  | false =>
    rw [rawE_no hright]
    refine callV_of (fn := Go.Proofs.Try.f14) (body := _) tab_ok mixed rfl rfl (by decide) (by simp [Go.Proofs.Try.f14]) ?_
    (conv => whnf)
    refine callV_pure (check_ok fr a) ⟨.free (encA_free _ _), trivial⟩ ?_
    rw [checkA_no hright]
    (conv => whnf)
    exact Ends.pure [] (.tupL ⟨.snil_sl, .int_of rfl, trivial⟩) (by simp)
  | true =>
    rw [rawE_yes hright]
    refine callV_of (fn := Go.Proofs.Try.f14) (body := _) tab_ok mixed rfl rfl (by decide) (by simp [Go.Proofs.Try.f14]) ?_
    (conv => whnf)
    refine callV_pure (check_ok fr a) ⟨.free (encA_free _ _), trivial⟩ ?_
    rw [checkA_yes hright]
    (conv => whnf)
    refine callV_pure attributes_ok trivial ?_
    (conv => whnf)
    refine callV_loop [(1, .ptr 0 0), (2, .ptr 1 0)] ⟨rfl, rfl, trivial⟩ fun asg' body' hasg hbody => ?_
    refine callV_of (fn := Go.Proofs.Try.f95) (body := _) tab_ok mixed rfl rfl (by decide) (by simp [Go.Proofs.Try.f95]) ?_
    (conv => whnf)
    intro _
    (conv => whnf)
    refine vcg_loop tab_ok mixed (fun k : {k : Nat // k ≤ 6} => ⟨[(0, .yld 2), (5, .sl true 5 attrRows), (6, cI 6), (7, cI k.1)], [(2, some (.loop 52 [(1, .ptr 0 0), (2, .ptr 1 0)] [13] asg' body' .ready none)), (0, some (.var true 26 (cellsA fr a))), (1, some (.var true 30 [.osl 3 1 0 (rawP a k.1).length])), (3, some (.arr true false 5 1 (rowsB (rawP a k.1))))], 4⟩) (fun k => 6 - k.1) ⟨0, by omega⟩ ?_ (fun k => ?_)
    · refine Wk.of id [] ⟨.yld rfl (by omega), ?_, .int_of rfl, .int_of rfl, trivial⟩ (LeH.of ⟨⟨by omega, .inl ⟨by simp, _, rfl, rfl, rfl, rfl, rfl, rfl, rfl, .ptr rfl (by omega), .ptr rfl (by omega), trivial⟩⟩, ⟨by omega, .inl ⟨by simp, _, rfl, LeB.free cell⟩⟩, ⟨by omega, .inl ⟨by simp, _, rfl, id, rfl, .osl0, trivial⟩⟩, ⟨by omega, .inr ⟨by simp, _, _, _, _, rfl⟩⟩, trivial⟩ (fun _ _ _ _ h => h) (fun _ _ => rfl) (by omega) (by simp))
      exact .free (.sl attrRows_free)
    obtain ⟨k, hk⟩ := k
    rcases k with _ | _ | _ | _ | _ | _ | _ | k
    case succ.succ.succ.succ.succ.succ.succ => omega
    case succ.succ.succ.succ.succ.succ.zero =>
      (conv => whnf)
      refine ⟨_, _, _, Ends.here, ?_⟩
      (conv => whnf)
      exact Ends.pure [3] (.tupL ⟨.freezeB (bs := rawP a 6) (by simp) rfl rfl rfl, .int_of rfl, trivial⟩) (one_none rfl)
    case zero =>
      (conv => whnf)
      refine ⟨rfl, _, ⟨by simp, rfl⟩, ?_⟩
      (conv => whnf)
      subst hasg hbody
      refine roundV_of tab_ok mixed rfl (by simp) (show 2 < 5 by omega) ?_
      (conv => whnf)
      refine ⟨rfl, ?_⟩
      (conv => whnf)
      refine callV_pure (always_ok fr a) ⟨.free (encA_free _ _), trivial⟩ ?_
      (conv => whnf)
      (conv => whnf)
      refine callV_pure (vOrigin_ok fr a) ⟨.free (encA_free _ _), trivial⟩ ?_
      (conv => whnf)
      refine fun (_ : gd none _) => ?_
      (conv => whnf)
      refine fun (_ : gd none _) => ?_
      (conv => whnf)
      refine ⟨rfl, by simp, ⟨rfl, rfl, rfl, rfl, by decide⟩, by simp, hbd _ (by simp; omega), ?_⟩
      (conv => whnf)
      refine ⟨⟨rfl, rfl, rfl, rfl, by decide⟩, by simp, hbd _ (by simp [rawP]; try omega), ?_⟩
      (conv => whnf)
      refine ⟨rfl, ?_⟩
      (conv => whnf)
      refine ⟨⟨1, by omega⟩, Wk.of (renOf [(3, 8)]) [] ⟨.yld rfl (by omega), ?_, .int_of rfl, .int_of ?_, trivial⟩ (LeH.of ⟨⟨by omega, .inl ⟨by simp, _, rfl, rfl, rfl, rfl, rfl, rfl, rfl, .ptr rfl (by omega), .ptr rfl (by omega), trivial⟩⟩, ⟨by omega, .inl ⟨by simp, _, rfl, LeB.free cell⟩⟩, ⟨by omega, .inl ⟨by simp, _, rfl, id, rfl, .osl_of rfl (by omega) ?_, trivial⟩⟩, ⟨by omega, .inl ⟨by simp, _, rfl, LeB.eq_of ?_ (rowsB_free _)⟩⟩, trivial⟩ (show ∀ b ∈ [2, 0, 1, 3], ∀ b' ∈ [2, 0, 1, 3], renOf [(3, 8)] b = renOf [(3, 8)] b' → b = b' by decide) (show ∀ b, b < 3 → renOf [(3, 8)] b = b by decide) (by omega) (by simp)), by simp⟩
      · exact .free (.sl attrRows_free)
      · simp [wrap64']
      · (simp [rawP, part, attrX, cell, rawP, Nat.add_assoc]; try omega)
      · simp [rawP, part, attrX, rowsB, u8_nat, wrap8, cell, rawP, Nat.add_assoc, List.take_of_length_le]
    case succ.succ.zero =>
      (conv => whnf)
      refine ⟨rfl, _, ⟨by simp, rfl⟩, ?_⟩
      (conv => whnf)
      subst hasg hbody
      refine roundV_of tab_ok mixed rfl (by simp) (show 2 < 5 by omega) ?_
      (conv => whnf)
      refine ⟨rfl, ?_⟩
      (conv => whnf)
      refine callV_pure (always_ok fr a) ⟨.free (encA_free _ _), trivial⟩ ?_
      (conv => whnf)
      (conv => whnf)
      refine callV_pure (vNext_ok fr a) ⟨.free (encA_free _ _), trivial⟩ ?_
      (conv => whnf)
      refine fun (_ : gd none _) => ?_
      (conv => whnf)
      refine fun (_ : gd none _) => ?_
      (conv => whnf)
      refine ⟨rfl, by simp, ⟨rfl, rfl, rfl, rfl, by decide⟩, by simp, hbd _ (by simp; omega), ?_⟩
      (conv => whnf)
      refine ⟨⟨rfl, rfl, rfl, rfl, by decide⟩, by simp, hbd _ (by simp [f4]; try omega), ?_⟩
      (conv => whnf)
      refine ⟨rfl, ?_⟩
      (conv => whnf)
      refine ⟨⟨3, by omega⟩, Wk.of (renOf [(3, 8)]) [] ⟨.yld rfl (by omega), ?_, .int_of rfl, .int_of ?_, trivial⟩ (LeH.of ⟨⟨by omega, .inl ⟨by simp, _, rfl, rfl, rfl, rfl, rfl, rfl, rfl, .ptr rfl (by omega), .ptr rfl (by omega), trivial⟩⟩, ⟨by omega, .inl ⟨by simp, _, rfl, LeB.free cell⟩⟩, ⟨by omega, .inl ⟨by simp, _, rfl, id, rfl, .osl_of rfl (by omega) ?_, trivial⟩⟩, ⟨by omega, .inl ⟨by simp, _, rfl, LeB.eq_of ?_ (rowsB_free _)⟩⟩, trivial⟩ (show ∀ b ∈ [2, 0, 1, 3], ∀ b' ∈ [2, 0, 1, 3], renOf [(3, 8)] b = renOf [(3, 8)] b' → b = b' by decide) (show ∀ b, b < 3 → renOf [(3, 8)] b = b by decide) (by omega) (by simp)), by simp⟩
      · exact .free (.sl attrRows_free)
      · simp [wrap64']
      · (simp [rawP, part, attrX, cell, f4, Nat.add_assoc]; try omega)
      · simp [rawP, part, attrX, rowsB, u8_nat, wrap8, cell, f4, Nat.add_assoc, List.take_of_length_le]
    case succ.succ.succ.zero =>
      (conv => whnf)
      refine ⟨rfl, _, ⟨by simp, rfl⟩, ?_⟩
      (conv => whnf)
      subst hasg hbody
      refine roundV_of tab_ok mixed rfl (by simp) (show 2 < 5 by omega) ?_
      (conv => whnf)
      refine ⟨rfl, ?_⟩
      (conv => whnf)
      refine callV_pure (hasMed_ok fr a) ⟨.free (encA_free _ _), trivial⟩ ?_
      (conv => whnf)
      split
      · rename_i h
        have h : a.hasMed = false := by simpa using h
        (conv => whnf)
        refine ⟨rfl, ?_⟩
        (conv => whnf)
        refine ⟨⟨4, by omega⟩, Wk.of (renOf [(3, 3)]) [] ⟨.yld rfl (by omega), ?_, .int_of rfl, .int_of ?_, trivial⟩ (LeH.of ⟨⟨by omega, .inl ⟨by simp, _, rfl, rfl, rfl, rfl, rfl, rfl, rfl, .ptr rfl (by omega), .ptr rfl (by omega), trivial⟩⟩, ⟨by omega, .inl ⟨by simp, _, rfl, LeB.free cell⟩⟩, ⟨by omega, .inl ⟨by simp, _, rfl, id, rfl, .osl_of rfl (by omega) ?_, trivial⟩⟩, ⟨by omega, .inl ⟨by simp, _, rfl, LeB.eq_of ?_ (rowsB_free _)⟩⟩, trivial⟩ (show ∀ b ∈ [2, 0, 1, 3], ∀ b' ∈ [2, 0, 1, 3], renOf [(3, 3)] b = renOf [(3, 3)] b' → b = b' by decide) (show ∀ b, b < 3 → renOf [(3, 3)] b = b by decide) (by omega) (by simp)), by simp⟩
        · exact .free (.sl attrRows_free)
        · simp [wrap64']
        · (simp [rawP, part, attrX, h, cell, Nat.add_assoc]; try omega)
        · simp [rawP, part, attrX, rowsB, u8_nat, wrap8, h, cell, Nat.add_assoc, List.take_of_length_le]
      · rename_i h
        have h : a.hasMed = true := by simpa using h
        (conv => whnf)
        refine callV_pure (vMed_ok fr a) ⟨.free (encA_free _ _), trivial⟩ ?_
        (conv => whnf)
        refine fun (_ : gd none _) => ?_
        (conv => whnf)
        refine fun (_ : gd none _) => ?_
        (conv => whnf)
        refine ⟨rfl, by simp, ⟨rfl, rfl, rfl, rfl, by decide⟩, by simp, hbd _ (by simp; omega), ?_⟩
        (conv => whnf)
        refine ⟨⟨rfl, rfl, rfl, rfl, by decide⟩, by simp, hbd _ (by simp [f4]; try omega), ?_⟩
        (conv => whnf)
        refine ⟨rfl, ?_⟩
        (conv => whnf)
        refine ⟨⟨4, by omega⟩, Wk.of (renOf [(3, 8)]) [] ⟨.yld rfl (by omega), ?_, .int_of rfl, .int_of ?_, trivial⟩ (LeH.of ⟨⟨by omega, .inl ⟨by simp, _, rfl, rfl, rfl, rfl, rfl, rfl, rfl, .ptr rfl (by omega), .ptr rfl (by omega), trivial⟩⟩, ⟨by omega, .inl ⟨by simp, _, rfl, LeB.free cell⟩⟩, ⟨by omega, .inl ⟨by simp, _, rfl, id, rfl, .osl_of rfl (by omega) ?_, trivial⟩⟩, ⟨by omega, .inl ⟨by simp, _, rfl, LeB.eq_of ?_ (rowsB_free _)⟩⟩, trivial⟩ (show ∀ b ∈ [2, 0, 1, 3], ∀ b' ∈ [2, 0, 1, 3], renOf [(3, 8)] b = renOf [(3, 8)] b' → b = b' by decide) (show ∀ b, b < 3 → renOf [(3, 8)] b = b by decide) (by omega) (by simp)), by simp⟩
        · exact .free (.sl attrRows_free)
        · simp [wrap64']
        · (simp [rawP, part, attrX, h, f4, Nat.add_assoc]; try omega)
        · simp [rawP, part, attrX, rowsB, u8_nat, wrap8, h, f4, Nat.add_assoc, List.take_of_length_le]
    case succ.succ.succ.succ.zero =>
      (conv => whnf)
      refine ⟨rfl, _, ⟨by simp, rfl⟩, ?_⟩
      (conv => whnf)
      subst hasg hbody
      refine roundV_of tab_ok mixed rfl (by simp) (show 2 < 5 by omega) ?_
      (conv => whnf)
      refine ⟨rfl, ?_⟩
      (conv => whnf)
      refine callV_pure (hasPref_ok fr a) ⟨.free (encA_free _ _), trivial⟩ ?_
      (conv => whnf)
      split
      · rename_i h
        have h : a.hasPref = false := by simpa using h
        (conv => whnf)
        refine ⟨rfl, ?_⟩
        (conv => whnf)
        refine ⟨⟨5, by omega⟩, Wk.of (renOf [(3, 3)]) [] ⟨.yld rfl (by omega), ?_, .int_of rfl, .int_of ?_, trivial⟩ (LeH.of ⟨⟨by omega, .inl ⟨by simp, _, rfl, rfl, rfl, rfl, rfl, rfl, rfl, .ptr rfl (by omega), .ptr rfl (by omega), trivial⟩⟩, ⟨by omega, .inl ⟨by simp, _, rfl, LeB.free cell⟩⟩, ⟨by omega, .inl ⟨by simp, _, rfl, id, rfl, .osl_of rfl (by omega) ?_, trivial⟩⟩, ⟨by omega, .inl ⟨by simp, _, rfl, LeB.eq_of ?_ (rowsB_free _)⟩⟩, trivial⟩ (show ∀ b ∈ [2, 0, 1, 3], ∀ b' ∈ [2, 0, 1, 3], renOf [(3, 3)] b = renOf [(3, 3)] b' → b = b' by decide) (show ∀ b, b < 3 → renOf [(3, 3)] b = b by decide) (by omega) (by simp)), by simp⟩
        · exact .free (.sl attrRows_free)
        · simp [wrap64']
        · (simp [rawP, part, attrX, h, cell, Nat.add_assoc]; try omega)
        · simp [rawP, part, attrX, rowsB, u8_nat, wrap8, h, cell, Nat.add_assoc, List.take_of_length_le]
      · rename_i h
        have h : a.hasPref = true := by simpa using h
        (conv => whnf)
        refine callV_pure (vPref_ok fr a) ⟨.free (encA_free _ _), trivial⟩ ?_
        (conv => whnf)
        refine fun (_ : gd none _) => ?_
        (conv => whnf)
        refine fun (_ : gd none _) => ?_
        (conv => whnf)
        refine ⟨rfl, by simp, ⟨rfl, rfl, rfl, rfl, by decide⟩, by simp, hbd _ (by simp; omega), ?_⟩
        (conv => whnf)
        refine ⟨⟨rfl, rfl, rfl, rfl, by decide⟩, by simp, hbd _ (by simp [f4]; try omega), ?_⟩
        (conv => whnf)
        refine ⟨rfl, ?_⟩
        (conv => whnf)
        refine ⟨⟨5, by omega⟩, Wk.of (renOf [(3, 8)]) [] ⟨.yld rfl (by omega), ?_, .int_of rfl, .int_of ?_, trivial⟩ (LeH.of ⟨⟨by omega, .inl ⟨by simp, _, rfl, rfl, rfl, rfl, rfl, rfl, rfl, .ptr rfl (by omega), .ptr rfl (by omega), trivial⟩⟩, ⟨by omega, .inl ⟨by simp, _, rfl, LeB.free cell⟩⟩, ⟨by omega, .inl ⟨by simp, _, rfl, id, rfl, .osl_of rfl (by omega) ?_, trivial⟩⟩, ⟨by omega, .inl ⟨by simp, _, rfl, LeB.eq_of ?_ (rowsB_free _)⟩⟩, trivial⟩ (show ∀ b ∈ [2, 0, 1, 3], ∀ b' ∈ [2, 0, 1, 3], renOf [(3, 8)] b = renOf [(3, 8)] b' → b = b' by decide) (show ∀ b, b < 3 → renOf [(3, 8)] b = b by decide) (by omega) (by simp)), by simp⟩
        · exact .free (.sl attrRows_free)
        · simp [wrap64']
        · (simp [rawP, part, attrX, h, f4, Nat.add_assoc]; try omega)
        · simp [rawP, part, attrX, rowsB, u8_nat, wrap8, h, f4, Nat.add_assoc, List.take_of_length_le]
    case succ.succ.succ.succ.succ.zero =>
      (conv => whnf)
      refine ⟨rfl, _, ⟨by simp, rfl⟩, ?_⟩
      (conv => whnf)
      subst hasg hbody
      refine roundV_of tab_ok mixed rfl (by simp) (show 2 < 5 by omega) ?_
      (conv => whnf)
      refine ⟨rfl, ?_⟩
      (conv => whnf)
      refine callV_pure (hasTags_ok fr a) ⟨.free (encA_free _ _), trivial⟩ ?_
      (conv => whnf)
      split
      · rename_i h
        have h : ¬ 0 < a.tags.length := by simpa using h
        (conv => whnf)
        refine ⟨rfl, ?_⟩
        (conv => whnf)
        refine ⟨⟨6, by omega⟩, Wk.of (renOf [(3, 3)]) [] ⟨.yld rfl (by omega), ?_, .int_of rfl, .int_of ?_, trivial⟩ (LeH.of ⟨⟨by omega, .inl ⟨by simp, _, rfl, rfl, rfl, rfl, rfl, rfl, rfl, .ptr rfl (by omega), .ptr rfl (by omega), trivial⟩⟩, ⟨by omega, .inl ⟨by simp, _, rfl, LeB.free cell⟩⟩, ⟨by omega, .inl ⟨by simp, _, rfl, id, rfl, .osl_of rfl (by omega) ?_, trivial⟩⟩, ⟨by omega, .inl ⟨by simp, _, rfl, LeB.eq_of ?_ (rowsB_free _)⟩⟩, trivial⟩ (show ∀ b ∈ [2, 0, 1, 3], ∀ b' ∈ [2, 0, 1, 3], renOf [(3, 3)] b = renOf [(3, 3)] b' → b = b' by decide) (show ∀ b, b < 3 → renOf [(3, 3)] b = b by decide) (by omega) (by simp)), by simp⟩
        · exact .free (.sl attrRows_free)
        · simp [wrap64']
        · (simp [rawP, part, attrX, h, if_neg, Nat.add_assoc]; try omega)
        · simp [rawP, part, attrX, rowsB, u8_nat, wrap8, h, if_neg, Nat.add_assoc, List.take_of_length_le]
      · rename_i h
        have h : 0 < a.tags.length := by simpa using h
        have hs : ¬ 255 < (allB a.tags).length := by rw [allB_len]; omega
        (conv => whnf)
        refine callV_pure (vTags_ok fr a hf) ⟨.free (encA_free _ _), trivial⟩ ?_
        (conv => whnf)
        refine fun (_ : gd none _) => ?_
        (conv => whnf)
        split
        · rename_i hb
          exact absurd hb (by simp; omega)
        rename_i hb
        (conv => whnf)
        refine fun (_ : gd none _) => ?_
        (conv => whnf)
        refine ⟨rfl, by simp, ⟨rfl, rfl, rfl, rfl, by decide⟩, by simp, hbd _ (by simp; omega), ?_⟩
        (conv => whnf)
        refine ⟨⟨rfl, rfl, rfl, rfl, by decide⟩, by simp, hbd _ (by simp; omega), ?_⟩
        (conv => whnf)
        refine ⟨rfl, ?_⟩
        (conv => whnf)
        refine ⟨⟨6, by omega⟩, Wk.of (renOf [(3, 8)]) [] ⟨.yld rfl (by omega), ?_, .int_of rfl, .int_of ?_, trivial⟩ (LeH.of ⟨⟨by omega, .inl ⟨by simp, _, rfl, rfl, rfl, rfl, rfl, rfl, rfl, .ptr rfl (by omega), .ptr rfl (by omega), trivial⟩⟩, ⟨by omega, .inl ⟨by simp, _, rfl, LeB.free cell⟩⟩, ⟨by omega, .inl ⟨by simp, _, rfl, id, rfl, .osl_of rfl (by omega) ?_, trivial⟩⟩, ⟨by omega, .inl ⟨by simp, _, rfl, LeB.eq_of ?_ (rowsB_free _)⟩⟩, trivial⟩ (show ∀ b ∈ [2, 0, 1, 3], ∀ b' ∈ [2, 0, 1, 3], renOf [(3, 8)] b = renOf [(3, 8)] b' → b = b' by decide) (show ∀ b, b < 3 → renOf [(3, 8)] b = b by decide) (by omega) (by simp)), by simp⟩
        · exact .free (.sl attrRows_free)
        · simp [wrap64']
        · (simp [rawP, part, attrX, h, hs, Nat.add_assoc]; try omega)
        · simp [rawP, part, attrX, rowsB, u8_nat, wrap8, h, hs, Nat.add_assoc, List.take_of_length_le]
    case succ.zero =>
      (conv => whnf)
      refine ⟨rfl, _, ⟨by simp, rfl⟩, ?_⟩
      (conv => whnf)
      subst hasg hbody
      refine roundV_of tab_ok mixed rfl (by simp) (show 2 < 5 by omega) ?_
      (conv => whnf)
      refine ⟨rfl, ?_⟩
      (conv => whnf)
      refine callV_pure (always_ok fr a) ⟨.free (encA_free _ _), trivial⟩ ?_
      (conv => whnf)
      (conv => whnf)
      refine callV_pure (route_ok fr a hf) ⟨.free (encA_free _ _), trivial⟩ ?_
      (conv => whnf)
      refine fun (_ : gd none _) => ?_
      (conv => whnf)
      split
      · rename_i hb
        have hs : 255 < (pathB a.path).length := by simp at hb; omega
        (conv => whnf)
        refine ⟨rfl, by simp, ⟨rfl, rfl, rfl, rfl, by decide⟩, by simp, hbd _ (by simp; omega), ?_⟩
        (conv => whnf)
        refine fun (_ : gd none _) => ?_
        (conv => whnf)
        refine callV_pure (highI_ok (pathB a.path).length (by omega)) ⟨.int_of (by simp), .free .int, trivial⟩ ?_
        (conv => whnf)
        refine ⟨⟨rfl, rfl, rfl, rfl, by decide⟩, by simp, hbd _ (by simp [twoB]; omega), ?_⟩
        (conv => whnf)
        refine ⟨⟨rfl, rfl, rfl, rfl, by decide⟩, by simp, hbd _ (by simp [twoB]; omega), ?_⟩
        (conv => whnf)
        refine ⟨rfl, ?_⟩
        (conv => whnf)
        refine ⟨⟨2, by omega⟩, Wk.of (renOf [(3, 9)]) [] ⟨.yld rfl (by omega), ?_, .int_of rfl, .int_of ?_, trivial⟩ (LeH.of ⟨⟨by omega, .inl ⟨by simp, _, rfl, rfl, rfl, rfl, rfl, rfl, rfl, .ptr rfl (by omega), .ptr rfl (by omega), trivial⟩⟩, ⟨by omega, .inl ⟨by simp, _, rfl, LeB.free cell⟩⟩, ⟨by omega, .inl ⟨by simp, _, rfl, id, rfl, .osl_of rfl (by omega) ?_, trivial⟩⟩, ⟨by omega, .inl ⟨by simp, _, rfl, LeB.eq_of ?_ (rowsB_free _)⟩⟩, trivial⟩ (show ∀ b ∈ [2, 0, 1, 3], ∀ b' ∈ [2, 0, 1, 3], renOf [(3, 9)] b = renOf [(3, 9)] b' → b = b' by decide) (show ∀ b, b < 3 → renOf [(3, 9)] b = b by decide) (by omega) (by simp)), by simp⟩
        · exact .free (.sl attrRows_free)
        · simp [wrap64']
        · (simp [rawP, part, attrX, hs, twoB, or80, Nat.add_assoc]; try omega)
        · simp [rawP, part, attrX, rowsB, u8_nat, wrap8, hs, twoB, or80, Nat.add_assoc, List.take_of_length_le]
      · rename_i hb
        have hs : ¬ 255 < (pathB a.path).length := by simp at hb; omega
        (conv => whnf)
        refine fun (_ : gd none _) => ?_
        (conv => whnf)
        refine ⟨rfl, by simp, ⟨rfl, rfl, rfl, rfl, by decide⟩, by simp, hbd _ (by simp; omega), ?_⟩
        (conv => whnf)
        refine ⟨⟨rfl, rfl, rfl, rfl, by decide⟩, by simp, hbd _ (by simp; omega), ?_⟩
        (conv => whnf)
        refine ⟨rfl, ?_⟩
        (conv => whnf)
        refine ⟨⟨2, by omega⟩, Wk.of (renOf [(3, 8)]) [] ⟨.yld rfl (by omega), ?_, .int_of rfl, .int_of ?_, trivial⟩ (LeH.of ⟨⟨by omega, .inl ⟨by simp, _, rfl, rfl, rfl, rfl, rfl, rfl, rfl, .ptr rfl (by omega), .ptr rfl (by omega), trivial⟩⟩, ⟨by omega, .inl ⟨by simp, _, rfl, LeB.free cell⟩⟩, ⟨by omega, .inl ⟨by simp, _, rfl, id, rfl, .osl_of rfl (by omega) ?_, trivial⟩⟩, ⟨by omega, .inl ⟨by simp, _, rfl, LeB.eq_of ?_ (rowsB_free _)⟩⟩, trivial⟩ (show ∀ b ∈ [2, 0, 1, 3], ∀ b' ∈ [2, 0, 1, 3], renOf [(3, 8)] b = renOf [(3, 8)] b' → b = b' by decide) (show ∀ b, b < 3 → renOf [(3, 8)] b = b by decide) (by omega) (by simp)), by simp⟩
        · exact .free (.sl attrRows_free)
        · simp [wrap64']
        · (simp [rawP, part, attrX, hs, cell, Nat.add_assoc]; try omega)
        · simp [rawP, part, attrX, rowsB, u8_nat, wrap8, hs, cell, Nat.add_assoc, List.take_of_length_le]
end Go.Proofs.Ytcfkendgjinmiaa
/- Plain laws: the two ways to write are one. -/
set_option linter.unusedVariables false
namespace Go.Proofs.Ytcfkendgjinmiaa

theorem attrX_eq (f c : UInt8) (v : List UInt8) : attrX f c v = attrB f c v := by
  unfold attrX attrB twoB
  split
  · have : UInt8.ofNat (v.length % 256) = UInt8.ofNat v.length := by
      apply UInt8.toNat_inj.1
      simp
    rw [this]
    rfl
  · rfl
theorem rawP_eq (a : Attrs) : rawP a 6 = rawA a := by
  simp only [rawP, part, rawA, rawO, attrX_eq, List.nil_append, List.append_assoc]
end Go.Proofs.Ytcfkendgjinmiaa
/- Contracts: numbers read; lengths. -/
set_option linter.unusedVariables false
set_option linter.unusedSimpArgs false
namespace Go.Proofs.Ytcfkendgjinmiaa
open Go.RowKit
open Go.Proofs.Try (prog)
attribute [local irreducible] CallV RoundV

theorem shl_or (n : UInt32) (c : UInt8) : bits .or .u32 (IntKind.u32.wrap ((n.toNat : Int) * 2 ^ (min (Int.toNat 8) IntKind.u32.bits))) (IntKind.u32.wrap (c.toNat : Int)) = ((n * 256 + c.toUInt32).toNat : Int) := by
  have hn := n.toNat_lt
  have hc := c.toNat_lt
  have e : (2 : Int) ^ (min (Int.toNat 8) IntKind.u32.bits) = 256 := by decide
  have e1 : IntKind.u32.wrap (c.toNat : Int) = c.toNat := by rw [wrap32]; omega
  rw [e, e1, wrap32]
  rw [bits_join .u32 32 (by decide) (fun n h0 h1 => by rw [wrap32]; omega) 8 _ _ (by omega) (by omega) (by omega) (by omega) (by omega) (by omega)]
  simp [UInt32.toNat_add, UInt32.toNat_mul]
  omega
set_option maxRecDepth 100000 in
theorem number_ok (fr : Bool) (b : List UInt8) : PCon prog 97 [encB fr b] (cW (wordOf b)) := by
  refine callV_of (fn := Go.Proofs.Try.f97) (body := _) tab_ok mixed rfl rfl (by decide) (by simp [Go.Proofs.Try.f97]) ?_
  (conv => whnf)
  intro hl
  have hl : b.length ≤ maxLen := by simpa [gd] using hl
  (conv => whnf)
  refine vcg_loop tab_ok mixed (fun i : {i : Nat // i ≤ b.length} => ⟨[(2, cW (wordOf (b.take i.1))), (5, encB fr b), (6, cI b.length), (7, cI i.1)], [], 0⟩) (fun i => b.length - i.1) ⟨0, by omega⟩ (Wk.of id [] ⟨.int_of rfl, .free (encB_free _ _), .int_of (by simp), .int_of rfl, trivial⟩ (LeH.nil (Nat.le_refl _) (fun b h => by omega) (by simp))) (fun i => ?_)
  obtain ⟨i, hi⟩ := i
  (conv => whnf)
  split
  · rename_i hc
    have hc : i < b.length := by simpa using hc
    (conv => whnf)
    refine ⟨rfl, _, ⟨by first | omega | (simp only; omega), idxB hc⟩, ?_⟩
    (conv => whnf)
    refine ⟨by decide, ?_⟩
    (conv => whnf)
    refine ⟨⟨i + 1, by omega⟩, Wk.of id [] ⟨.int_of ?_, .free (encB_free _ _), .int_of rfl, .int_of (wrap64_succ hc hl), trivial⟩ (LeH.nil (Nat.le_refl _) (fun b h => by omega) (by simp)), by simp only; omega⟩
    rw [wordOf_take hc]
    exact shl_or _ _
  · rename_i hc
    have hc : i = b.length := by simp at hc; omega
    subst hc
    (conv => whnf)
    exact Ends.pure [] (.int_of (by simp)) (by simp)
end Go.Proofs.Ytcfkendgjinmiaa
/- Contracts: a path's first system. -/
set_option linter.unusedVariables false
set_option linter.unusedSimpArgs false
namespace Go.Proofs.Ytcfkendgjinmiaa
open Go.RowKit
open Go.Proofs.Try (prog)
attribute [local irreducible] CallV RoundV

def firstOf (a : Attrs) : UInt32 := match a.path with
  | p :: _ => if p.set then 0 else p.ns.headD 0
  | [] => 0
set_option maxRecDepth 100000 in
theorem first_ok (fr : Bool) (a : Attrs) : PCon prog 27 [encA fr a] (cW (firstOf a)) := by
  have fin : ∀ {s : St} {n : Int}, n = ((firstOf a).toNat : Int) → ∃ v1 h' nx', Ends 0 s (.int .u32 n) v1 h' nx' ∧ (v1 = cW (firstOf a) ∧ h' = [] ∧ nx' = 0) := fun h => Ends.pure [] (.int_of h) (by simp)
  obtain ⟨o, path, nxt, hm, m, hp, p, tags⟩ := a
  cases path with
  | nil =>
    refine callV_of (fn := Go.Proofs.Try.f27) (body := _) tab_ok mixed rfl rfl (by decide) (by simp [Go.Proofs.Try.f27]) ?_
    (conv => whnf)
    intro _
    (conv => whnf)
    exact fin (by simp [firstOf])
  | cons p0 r =>
    obtain ⟨set, ns⟩ := p0
    cases set with
    | true =>
      refine callV_of (fn := Go.Proofs.Try.f27) (body := _) tab_ok mixed rfl rfl (by decide) (by simp [Go.Proofs.Try.f27]) ?_
      (conv => whnf)
      intro _
      (conv => whnf)
      refine ⟨rfl, _, ⟨by omega, rfl⟩, ?_⟩
      (conv => whnf)
      exact fin (by simp [firstOf])
    | false =>
      cases ns with
      | nil =>
        refine callV_of (fn := Go.Proofs.Try.f27) (body := _) tab_ok mixed rfl rfl (by decide) (by simp [Go.Proofs.Try.f27]) ?_
        (conv => whnf)
        intro _
        (conv => whnf)
        refine ⟨rfl, _, ⟨by omega, rfl⟩, ?_⟩
        (conv => whnf)
        refine ⟨rfl, _, ⟨by omega, rfl⟩, ?_⟩
        (conv => whnf)
        intro _
        (conv => whnf)
        exact fin (by simp [firstOf])
      | cons n0 ns =>
        refine callV_of (fn := Go.Proofs.Try.f27) (body := _) tab_ok mixed rfl rfl (by decide) (by simp [Go.Proofs.Try.f27]) ?_
        (conv => whnf)
        intro _
        (conv => whnf)
        refine ⟨rfl, _, ⟨by omega, rfl⟩, ?_⟩
        (conv => whnf)
        refine ⟨rfl, _, ⟨by omega, rfl⟩, ?_⟩
        (conv => whnf)
        intro _
        (conv => whnf)
        refine ⟨rfl, _, ⟨by omega, rfl⟩, ?_⟩
        (conv => whnf)
        refine ⟨rfl, _, ⟨by omega, rfl⟩, ?_⟩
        (conv => whnf)
        exact fin (by simp [firstOf])
set_option maxRecDepth 100000 in
theorem ref_first_ok (fr : Bool) (a : Attrs) : PCon prog 28 [encA fr a] (cW (firstOf a)) := by
  have fin : ∀ {s : St} {n : Int}, n = ((firstOf a).toNat : Int) → ∃ v1 h' nx', Ends 0 s (.int .u32 n) v1 h' nx' ∧ (v1 = cW (firstOf a) ∧ h' = [] ∧ nx' = 0) := fun h => Ends.pure [] (.int_of h) (by simp)
  obtain ⟨o, path, nxt, hm, m, hp, p, tags⟩ := a
  cases path with
  | nil =>
    refine callV_of (fn := Go.Proofs.Try.f28) (body := _) tab_ok mixed rfl rfl (by decide) (by simp [Go.Proofs.Try.f28]) ?_
    (conv => whnf)
    intro _
    (conv => whnf)
    exact fin (by simp [firstOf])
  | cons p0 r =>
    obtain ⟨set, ns⟩ := p0
    cases set with
    | true =>
      refine callV_of (fn := Go.Proofs.Try.f28) (body := _) tab_ok mixed rfl rfl (by decide) (by simp [Go.Proofs.Try.f28]) ?_
      (conv => whnf)
      intro _
      (conv => whnf)
      refine ⟨rfl, _, ⟨by omega, rfl⟩, ?_⟩
      (conv => whnf)
      exact fin (by simp [firstOf])
    | false =>
      cases ns with
      | nil =>
        refine callV_of (fn := Go.Proofs.Try.f28) (body := _) tab_ok mixed rfl rfl (by decide) (by simp [Go.Proofs.Try.f28]) ?_
        (conv => whnf)
        intro _
        (conv => whnf)
        refine ⟨rfl, _, ⟨by omega, rfl⟩, ?_⟩
        (conv => whnf)
        refine ⟨rfl, _, ⟨by omega, rfl⟩, ?_⟩
        (conv => whnf)
        intro _
        (conv => whnf)
        exact fin (by simp [firstOf])
      | cons n0 ns =>
        refine callV_of (fn := Go.Proofs.Try.f28) (body := _) tab_ok mixed rfl rfl (by decide) (by simp [Go.Proofs.Try.f28]) ?_
        (conv => whnf)
        intro _
        (conv => whnf)
        refine ⟨rfl, _, ⟨by omega, rfl⟩, ?_⟩
        (conv => whnf)
        refine ⟨rfl, _, ⟨by omega, rfl⟩, ?_⟩
        (conv => whnf)
        intro _
        (conv => whnf)
        refine ⟨rfl, _, ⟨by omega, rfl⟩, ?_⟩
        (conv => whnf)
        refine ⟨rfl, _, ⟨by omega, rfl⟩, ?_⟩
        (conv => whnf)
        exact fin (by simp [firstOf])
end Go.Proofs.Ytcfkendgjinmiaa
/- Contracts: a path's length. -/
set_option linter.unusedVariables false
set_option linter.unusedSimpArgs false
namespace Go.Proofs.Ytcfkendgjinmiaa
open Go.RowKit
open Go.Proofs.Try (prog)
attribute [local irreducible] CallV RoundV

def lenOf (p : Leg) : Nat := if p.set then 1 else p.ns.length
def lengthOf (l : List Leg) : Nat := (l.map lenOf).sum
theorem lengthOf_succ {l : List Leg} {i : Nat} (h : i < l.length) : lengthOf (l.take (i + 1)) = lengthOf (l.take i) + lenOf l[i] := by
  unfold lengthOf
  rw [List.take_succ_eq_append_getElem h, List.map_append, List.sum_append]
  simp only [List.map_cons, List.map_nil, List.sum_cons, List.sum_nil, Nat.add_zero]
theorem lengthOf_le {l : List Leg} (h : ∀ p ∈ l, p.ns.length ≤ 60) : lengthOf l ≤ 61 * l.length := by
  induction l with
  | nil => simp [lengthOf]
  | cons p l ih =>
    have := ih (fun q hq => h q (by simp [hq]))
    have h1 := h p (by simp)
    have h2 : lenOf p ≤ 61 := by unfold lenOf; split <;> omega
    have e : lengthOf (p :: l) = lenOf p + lengthOf l := by simp [lengthOf]
    rw [e, List.length_cons]
    omega
set_option maxRecDepth 100000 in
theorem length_ok (fr : Bool) (l : List Leg) (hl0 : l.length ≤ 1000) (hp : ∀ p ∈ l, p.ns.length ≤ 60) : PCon prog 25 [encLegs fr l] (cI (lengthOf l)) := by
  refine callV_of (fn := Go.Proofs.Try.f25) (body := _) tab_ok mixed rfl rfl (by decide) (by simp [Go.Proofs.Try.f25]) ?_
  (conv => whnf)
  intro hl
  have hl : l.length ≤ maxLen := by simpa [gd] using hl
  (conv => whnf)
  refine vcg_loop tab_ok mixed (fun i : {i : Nat // i ≤ l.length} => ⟨[(2, cI (lengthOf (l.take i.1))), (5, encLegs fr l), (6, cI l.length), (7, cI i.1)], [], 0⟩) (fun i => l.length - i.1) ⟨0, by omega⟩ (Wk.of id [] ⟨.int_of rfl, .free (encLegs_free _ _), .int_of (by simp), .int_of rfl, trivial⟩ (LeH.nil (Nat.le_refl _) (fun b h => by omega) (by simp))) (fun i => ?_)
  obtain ⟨i, hi⟩ := i
  (conv => whnf)
  split
  · rename_i hc
    have hc : i < l.length := by simpa using hc
    have hpi := hp l[i] (List.getElem_mem hc)
    have hb := lengthOf_le (l := l.take i) (fun p hp' => hp p (List.mem_of_mem_take hp'))
    rw [List.length_take, Nat.min_eq_left hi] at hb
    (conv => whnf)
    refine ⟨rfl, _, ⟨by first | omega | (simp only; omega), idxL hc⟩, ?_⟩
    (conv => whnf)
    split
    · rename_i hs
      (conv => whnf)
      refine ⟨⟨i + 1, by omega⟩, Wk.of id [] ⟨.int_of ?_, .free (encLegs_free _ _), .int_of rfl, .int_of (wrap64_succ hc hl), trivial⟩ (LeH.nil (Nat.le_refl _) (fun b h => by omega) (by simp)), by simp only; omega⟩
      rw [lengthOf_succ hc]
      simp only [lenOf, hs, if_true]
      rw [wrap64] <;> omega
    · rename_i hs
      (conv => whnf)
      intro _
      (conv => whnf)
      refine ⟨⟨i + 1, by omega⟩, Wk.of id [] ⟨.int_of ?_, .free (encLegs_free _ _), .int_of rfl, .int_of (wrap64_succ hc hl), trivial⟩ (LeH.nil (Nat.le_refl _) (fun b h => by omega) (by simp)), by simp only; omega⟩
      rw [lengthOf_succ hc]
      simp only [lenOf, hs, List.length_map, Bool.false_eq_true, if_false]
      rw [wrap64] <;> omega
  · rename_i hc
    have hc : i = l.length := by simp at hc; omega
    subst hc
    (conv => whnf)
    exact Ends.pure [] (.int_of (by simp)) (by simp)
end Go.Proofs.Ytcfkendgjinmiaa
/- Contracts: numbers read off bytes. -/
set_option linter.unusedVariables false
set_option linter.unusedSimpArgs false
namespace Go.Proofs.Ytcfkendgjinmiaa
open Go.RowKit
open Go.Proofs.Try (prog)
attribute [local irreducible] CallV RoundV

abbrev rowsW (b : List UInt32) : List (List V) := b.map fun x => [V.int .u32 x.toNat]
/-- The first k numbers of four bytes. -/
def numsK (b : List UInt8) (k : Nat) : List UInt32 := (List.range k).map fun j => wordOf ((b.drop (4 * j)).take 4)
theorem numsK_succ (b : List UInt8) (k : Nat) : numsK b (k + 1) = numsK b k ++ [wordOf ((b.drop (4 * k)).take 4)] := by
  simp [numsK, List.range_succ]
theorem numsK_len (b : List UInt8) (k : Nat) : (numsK b k).length = k := by simp [numsK]
set_option maxRecDepth 100000 in
theorem numbers_ok (fr : Bool) (b : List UInt8) (m : Nat) (hm : b.length = 4 * m) (hb : m ≤ 1000000) : PCon prog 79 [encB fr b] (encW true (numsK b m)) := by
  refine callV_of (fn := Go.Proofs.Try.f79) (body := _) tab_ok mixed rfl rfl (by decide) (by simp [Go.Proofs.Try.f79]) ?_
  (conv => whnf)
  refine callV_of (fn := Go.Proofs.Try.f98) (body := _) tab_ok mixed rfl rfl (by decide) (by simp [Go.Proofs.Try.f98]) ?_
  (conv => whnf)
  refine ⟨_, _, _, Ends.here, ?_⟩
  (conv => whnf)
  refine callV_loop [(2, .ptr 0 0)] ⟨rfl, trivial⟩ fun asg' body' hasg hbody => ?_
  refine callV_of (fn := Go.Proofs.Try.f107) (body := _) tab_ok mixed rfl rfl (by decide) (by simp [Go.Proofs.Try.f107]) ?_
  (conv => whnf)
  refine vcg_loop tab_ok mixed (fun k : {k : Nat // k ≤ m} => ⟨[(0, .yld 3), (1, .ptr 1 0), (2, .ptr 2 0), (4, cI (4 * k.1))], [(3, some (.loop 13 [(2, .ptr 0 0)] [6] asg' body' .ready none)), (0, some (.var true 24 [.osl 4 1 0 k.1])), (1, some (.var true 30 [encB fr b])), (2, some (.var true 3 [.int .i64 4])), (4, some (.arr true false 23 1 (rowsW (numsK b k.1))))], 5⟩) (fun k => m - k.1) ⟨0, by omega⟩ ?_ (fun k => ?_)
  · exact Wk.of id [] ⟨.yld rfl (by omega), .ptr rfl (by omega), .ptr rfl (by omega), .int_of rfl, trivial⟩ (LeH.of ⟨⟨by omega, .inl ⟨by simp, _, rfl, rfl, rfl, rfl, rfl, rfl, rfl, .ptr rfl (by omega), trivial⟩⟩, ⟨by omega, .inl ⟨by simp, _, rfl, id, rfl, .osl0, trivial⟩⟩, ⟨by omega, .inl ⟨by simp, _, rfl, id, rfl, .free (encB_free _ _), trivial⟩⟩, ⟨by omega, .inl ⟨by simp, _, rfl, id, rfl, .int_of rfl, trivial⟩⟩, ⟨by omega, .inr ⟨by simp, _, _, _, _, rfl⟩⟩, trivial⟩ (fun _ _ _ _ h => h) (fun _ _ => rfl) (by omega) (by simp))
  obtain ⟨k, hk⟩ := k
  (conv => whnf)
  intro hl
  have hl : b.length ≤ maxLen := by simpa [gd] using hl
  (conv => whnf)
  split
  · rename_i hc
    have hc : k < m := by simp at hc; omega
    (conv => whnf)
    refine ⟨rfl, ?_⟩
    (conv => whnf)
    refine ⟨⟨by omega, by simp; omega⟩, ?_⟩
    (conv => whnf)
    refine ⟨by kernel_rfl, ?_⟩
    (conv => whnf)
    have hmin : (if (((List.drop ((4 * k : Nat) : Int).toNat (List.map (fun x => [V.int .u8 x.toNat]) b)).length : Nat) : Int) < 4 then (((List.drop ((4 * k : Nat) : Int).toNat (List.map (fun x => [V.int .u8 x.toNat]) b)).length : Nat) : Int) else 4) = 4 := by
      rw [if_neg]
      simp
      omega
    have hw : IntKind.i64.wrap (((4 * k : Nat) : Int) + 4) = ((4 * (k + 1) : Nat) : Int) := by rw [wrap64] <;> unfold maxLen at hl <;> omega
    refine ⟨rfl, ?_⟩
    (conv => whnf)
    refine ⟨by simp only [hmin, hw]; refine ⟨by omega, by omega, by omega, ?_, Nat.le_refl _, ?_⟩ <;> simp <;> omega, ?_⟩
    simp only [hmin, hw]
    (conv => whnf)
    have hsl : List.drop ((4 * k : Nat) : Int).toNat (List.take ((4 * (k + 1) : Nat) : Int).toNat (List.map (fun x => [V.int .u8 x.toNat]) b)) = rowsB ((b.drop (4 * k)).take 4) := by
      rw [Int.toNat_natCast, Int.toNat_natCast, ← List.map_take, ← List.map_drop, List.drop_take, show 4 * (k + 1) - 4 * k = 4 by omega]
    simp only [hsl]
    subst hasg hbody
    refine roundV_of tab_ok mixed rfl (by simp) (show 3 < 5 by omega) ?_
    (conv => whnf)
    refine ⟨rfl, ?_⟩
    (conv => whnf)
    refine ⟨cW (wordOf ((b.drop (4 * k)).take 4)), [], fun h nx _ => ?_, by simp, ?_⟩
    · refine pureV_pure (number_ok fr _) ?_
      exact ⟨.free (encB_free _ _), trivial⟩
    (conv => whnf)
    refine ⟨rfl, by simp, ⟨rfl, rfl, rfl, rfl, by decide⟩, by simp [numsK_len], ⟨by simp [tab, tabOf, nth]; omega, by simp; omega⟩, ?_⟩
    (conv => whnf)
    refine ⟨by kernel_rfl, ?_⟩
    (conv => whnf)
    refine ⟨rfl, ?_⟩
    (conv => whnf)
    refine ⟨⟨k + 1, by omega⟩, Wk.of (renOf [(4, 6)]) [] ⟨.yld rfl (by omega), .ptr rfl (by omega), .ptr rfl (by omega), .int_of hw, trivial⟩ (LeH.of ⟨⟨by omega, .inl ⟨by simp, _, rfl, rfl, rfl, rfl, rfl, rfl, rfl, .ptr rfl (by omega), trivial⟩⟩, ⟨by omega, .inl ⟨by simp, _, rfl, id, rfl, .osl_of rfl (by omega) (by simp), trivial⟩⟩, ⟨by omega, .inl ⟨by simp, _, rfl, id, rfl, .free (encB_free _ _), trivial⟩⟩, ⟨by omega, .inl ⟨by simp, _, rfl, id, rfl, .int_of rfl, trivial⟩⟩, ⟨by omega, .inl ⟨by simp, _, rfl, LeB.eq_of ?_ (rowsW_free _)⟩⟩, trivial⟩ (show ∀ b ∈ [3, 0, 1, 2, 4], ∀ b' ∈ [3, 0, 1, 2, 4], renOf [(4, 6)] b = renOf [(4, 6)] b' → b = b' by decide) (show ∀ b, b < 4 → renOf [(4, 6)] b = b by decide) (by omega) (by simp)), by simp only; omega⟩
    simp only
    rw [numsK_succ, List.take_of_length_le (by simp [numsK_len])]
    simp
  · rename_i hc
    have hc : k = m := by simp at hc; omega
    subst hc
    (conv => whnf)
    refine ⟨_, _, _, Ends.here, ?_⟩
    (conv => whnf)
    refine Ends.pure [4] (LeV.freeze_of (by simp) rfl (by simp [numsK_len]) (rowsW_free _) ?_) (one_none rfl)
    simp only [List.drop_zero]
    exact List.take_of_length_le (by simp [numsK_len])
end Go.Proofs.Ytcfkendgjinmiaa
/- Contracts: a number many times; lists one behind the other. -/
set_option linter.unusedVariables false
set_option linter.unusedSimpArgs false
namespace Go.Proofs.Ytcfkendgjinmiaa
open Go.RowKit
open Go.Proofs.Try (prog)
attribute [local irreducible] CallV RoundV

theorem int2_free (a b : V) (h1 : Free a) (h2 : Free b) : Free (.tup [a, b]) := .tup (by intro v hv; simp at hv; rcases hv with rfl | rfl <;> assumption)
set_option maxRecDepth 100000 in
theorem mul_ok (n : Nat) (hn : n ≤ 8) : PCon prog 90 [.int .u64 1, .int .u64 n] (.tup [.int .u64 0, .int .u64 n]) := by
  have hn' : n = 0 ∨ n = 1 ∨ n = 2 ∨ n = 3 ∨ n = 4 ∨ n = 5 ∨ n = 6 ∨ n = 7 ∨ n = 8 := by omega
  rcases hn' with rfl | rfl | rfl | rfl | rfl | rfl | rfl | rfl | rfl
  · refine callV_of (fn := Go.Proofs.Try.f90) (body := _) tab_ok mixed rfl rfl (by decide) (by simp [Go.Proofs.Try.f90]) ?_
    (conv => whnf)
    refine callV_of (fn := Go.Proofs.Try.f104) (body := _) tab_ok mixed rfl rfl (by decide) (by simp [Go.Proofs.Try.f104]) ?_
    (conv => whnf)
    iterate 5
      refine ⟨by decide, ?_⟩
      (conv => whnf)
    refine ⟨_, _, _, Ends.here, ?_⟩
    (conv => whnf)
    exact Ends.pure [] (.eq_of (by kernel_rfl) (int2_free _ _ .int .int)) (by simp)
  · refine callV_of (fn := Go.Proofs.Try.f90) (body := _) tab_ok mixed rfl rfl (by decide) (by simp [Go.Proofs.Try.f90]) ?_
    (conv => whnf)
    refine callV_of (fn := Go.Proofs.Try.f104) (body := _) tab_ok mixed rfl rfl (by decide) (by simp [Go.Proofs.Try.f104]) ?_
    (conv => whnf)
    iterate 5
      refine ⟨by decide, ?_⟩
      (conv => whnf)
    refine ⟨_, _, _, Ends.here, ?_⟩
    (conv => whnf)
    exact Ends.pure [] (.eq_of (by kernel_rfl) (int2_free _ _ .int .int)) (by simp)
  · refine callV_of (fn := Go.Proofs.Try.f90) (body := _) tab_ok mixed rfl rfl (by decide) (by simp [Go.Proofs.Try.f90]) ?_
    (conv => whnf)
    refine callV_of (fn := Go.Proofs.Try.f104) (body := _) tab_ok mixed rfl rfl (by decide) (by simp [Go.Proofs.Try.f104]) ?_
    (conv => whnf)
    iterate 5
      refine ⟨by decide, ?_⟩
      (conv => whnf)
    refine ⟨_, _, _, Ends.here, ?_⟩
    (conv => whnf)
    exact Ends.pure [] (.eq_of (by kernel_rfl) (int2_free _ _ .int .int)) (by simp)
  · refine callV_of (fn := Go.Proofs.Try.f90) (body := _) tab_ok mixed rfl rfl (by decide) (by simp [Go.Proofs.Try.f90]) ?_
    (conv => whnf)
    refine callV_of (fn := Go.Proofs.Try.f104) (body := _) tab_ok mixed rfl rfl (by decide) (by simp [Go.Proofs.Try.f104]) ?_
    (conv => whnf)
    iterate 5
      refine ⟨by decide, ?_⟩
      (conv => whnf)
    refine ⟨_, _, _, Ends.here, ?_⟩
    (conv => whnf)
    exact Ends.pure [] (.eq_of (by kernel_rfl) (int2_free _ _ .int .int)) (by simp)
  · refine callV_of (fn := Go.Proofs.Try.f90) (body := _) tab_ok mixed rfl rfl (by decide) (by simp [Go.Proofs.Try.f90]) ?_
    (conv => whnf)
    refine callV_of (fn := Go.Proofs.Try.f104) (body := _) tab_ok mixed rfl rfl (by decide) (by simp [Go.Proofs.Try.f104]) ?_
    (conv => whnf)
    iterate 5
      refine ⟨by decide, ?_⟩
      (conv => whnf)
    refine ⟨_, _, _, Ends.here, ?_⟩
    (conv => whnf)
    exact Ends.pure [] (.eq_of (by kernel_rfl) (int2_free _ _ .int .int)) (by simp)
  · refine callV_of (fn := Go.Proofs.Try.f90) (body := _) tab_ok mixed rfl rfl (by decide) (by simp [Go.Proofs.Try.f90]) ?_
    (conv => whnf)
    refine callV_of (fn := Go.Proofs.Try.f104) (body := _) tab_ok mixed rfl rfl (by decide) (by simp [Go.Proofs.Try.f104]) ?_
    (conv => whnf)
    iterate 5
      refine ⟨by decide, ?_⟩
      (conv => whnf)
    refine ⟨_, _, _, Ends.here, ?_⟩
    (conv => whnf)
    exact Ends.pure [] (.eq_of (by kernel_rfl) (int2_free _ _ .int .int)) (by simp)
  · refine callV_of (fn := Go.Proofs.Try.f90) (body := _) tab_ok mixed rfl rfl (by decide) (by simp [Go.Proofs.Try.f90]) ?_
    (conv => whnf)
    refine callV_of (fn := Go.Proofs.Try.f104) (body := _) tab_ok mixed rfl rfl (by decide) (by simp [Go.Proofs.Try.f104]) ?_
    (conv => whnf)
    iterate 5
      refine ⟨by decide, ?_⟩
      (conv => whnf)
    refine ⟨_, _, _, Ends.here, ?_⟩
    (conv => whnf)
    exact Ends.pure [] (.eq_of (by kernel_rfl) (int2_free _ _ .int .int)) (by simp)
  · refine callV_of (fn := Go.Proofs.Try.f90) (body := _) tab_ok mixed rfl rfl (by decide) (by simp [Go.Proofs.Try.f90]) ?_
    (conv => whnf)
    refine callV_of (fn := Go.Proofs.Try.f104) (body := _) tab_ok mixed rfl rfl (by decide) (by simp [Go.Proofs.Try.f104]) ?_
    (conv => whnf)
    iterate 5
      refine ⟨by decide, ?_⟩
      (conv => whnf)
    refine ⟨_, _, _, Ends.here, ?_⟩
    (conv => whnf)
    exact Ends.pure [] (.eq_of (by kernel_rfl) (int2_free _ _ .int .int)) (by simp)
  · refine callV_of (fn := Go.Proofs.Try.f90) (body := _) tab_ok mixed rfl rfl (by decide) (by simp [Go.Proofs.Try.f90]) ?_
    (conv => whnf)
    refine callV_of (fn := Go.Proofs.Try.f104) (body := _) tab_ok mixed rfl rfl (by decide) (by simp [Go.Proofs.Try.f104]) ?_
    (conv => whnf)
    iterate 5
      refine ⟨by decide, ?_⟩
      (conv => whnf)
    refine ⟨_, _, _, Ends.here, ?_⟩
    (conv => whnf)
    exact Ends.pure [] (.eq_of (by kernel_rfl) (int2_free _ _ .int .int)) (by simp)

def repRows (x : UInt32) (m n : Nat) : List (List V) := List.replicate m [cW x] ++ List.replicate (n - m) [.int .u32 0]
theorem repRows_free (x : UInt32) (m n : Nat) : ∀ r ∈ repRows x m n, ∀ v ∈ r, Free v := by
  intro r hr v hv
  rcases List.mem_append.1 hr with h | h
  · rw [List.eq_of_mem_replicate h] at hv; simp at hv; subst hv; exact .int
  · rw [List.eq_of_mem_replicate h] at hv; simp at hv; subst hv; exact .int
theorem repRows_len (x : UInt32) (m n : Nat) (h : m ≤ n) : (repRows x m n).length = n := by simp [repRows]; omega
theorem repRows_step (x : UInt32) (m n : Nat) (h : m ≤ n) : (repRows x m n).take m ++ ((repRows x m n).take m).take (n - m) ++ (repRows x m n).drop (m + min m (n - m)) = repRows x (m + min m (n - m)) n := by
  have h1 : (repRows x m n).take m = List.replicate m [cW x] := by
    rw [repRows, List.take_append_of_le_length (by simp), List.take_of_length_le (by simp)]
  rw [h1]
  have h2 : (repRows x m n).drop (m + min m (n - m)) = List.replicate (n - m - min m (n - m)) [.int .u32 0] := by
    rw [repRows, List.drop_append, List.drop_eq_nil_of_le (by simp), List.nil_append, List.length_replicate, List.drop_replicate]
    congr 1
    omega
  rw [h2, repRows, List.take_replicate]
  rw [show List.replicate m [cW x] ++ List.replicate (min (n - m) m) [cW x] = List.replicate (m + min m (n - m)) [cW x] by rw [List.replicate_append_replicate, Nat.min_comm]]
  congr 2
  omega
set_option maxRecDepth 100000 in
theorem repeat_ok (fr : Bool) (x : UInt32) (n : Nat) (hn : n ≤ 8) : PCon prog 50 [encW fr [x], cI n] (encW true (List.replicate n x)) := by
  refine callV_of (fn := Go.Proofs.Try.f50) (body := _) tab_ok mixed rfl rfl (by decide) (by simp [Go.Proofs.Try.f50]) ?_
  (conv => whnf)
  intro _
  (conv => whnf)
  refine callV_pure (mul_ok n hn) ⟨.int_of ?_, .int_of ?_, trivial⟩ ?_
  · simp [wrapu64]
  · rw [wrapu64]; omega
  (conv => whnf)
  rw [show decide (((9223372036854775807 : Int)) < (n : Int)) = false by simp; omega]
  (conv => whnf)
  have hw : IntKind.i64.wrap (n : Int) = n := by rw [wrap64] <;> omega
  rw [hw]
  refine ⟨⟨by omega, by omega, by simp [tab, tabOf, nth]; omega, by omega⟩, ?_⟩
  (conv => whnf)
  refine ⟨⟨rfl, rfl, rfl⟩, by simp, ?_⟩
  (conv => whnf)
  refine vcg_loop tab_ok mixed (fun m : {m : Nat // m ≤ n ∧ (m = 0 → n = 0)} => ⟨[(7, .osl 0 1 0 n), (8, cI m.1)], [(0, some (.arr true true 23 1 (repRows x m.1 n)))], 1⟩) (fun m => n - m.1) ⟨min 1 n, by omega, by omega⟩ ?_ (fun m => ?_)
  · refine Wk.of id [] ⟨.osl_of rfl (by omega) (by simp), .int_of (by simp), trivial⟩ (LeH.of ⟨⟨by omega, .inl ⟨by simp, _, rfl, LeB.eq_of ?_ (repRows_free _ _ _)⟩⟩, trivial⟩ (fun _ _ _ _ h => h) (fun _ _ => rfl) (by omega) (by simp))
    rw [Int.toNat_natCast]
    simp only [List.length_map, List.length_cons, List.length_nil, Nat.zero_add, List.take_zero, List.nil_append, List.drop_replicate, repRows]
    congr 1
    rcases n with _ | n
    · rfl
    · simp [Nat.min_eq_left (show 1 ≤ n + 1 by omega)]
  obtain ⟨m, hm, hm0⟩ := m
  (conv => whnf)
  intro _
  (conv => whnf)
  split
  · rename_i hc
    have hc : m < n := by simpa using hc
    (conv => whnf)
    refine ⟨rfl, ⟨by simp, by simp; try omega⟩, ?_⟩
    (conv => whnf)
    refine ⟨rfl, .own, ⟨by simp, by simp, by simp, by simp; try omega⟩, ?_⟩
    (conv => whnf)
    refine ⟨rfl, by simp [repRows_len x m n hm]; try omega, ⟨rfl, rfl, rfl⟩, by simp [repRows_len x m n hm]; try omega, ?_⟩
    (conv => whnf)
    refine ⟨by kernel_rfl, ?_⟩
    (conv => whnf)
    have hlen : min (List.take ((m : Int).toNat - 0) (List.drop (0 + 0) (repRows x m n))).length (n - (m : Int).toNat) = min m (n - m) := by
      simp [repRows_len x m n hm]
    refine ⟨⟨m + min m (n - m), by omega, by omega⟩, Wk.of id [] ⟨.osl_of rfl (by omega) rfl, .int_of ?_, trivial⟩ (LeH.of ⟨⟨by omega, .inl ⟨by simp, _, rfl, LeB.eq_of ?_ (repRows_free _ _ _)⟩⟩, trivial⟩ (fun _ _ _ _ h => h) (fun _ _ => rfl) (by omega) (by simp)), by simp only; omega⟩
    · simp only [hlen]
      rw [wrap64] <;> omega
    · simp only [hlen]
      have := repRows_step x m n hm
      simpa using this
  · rename_i hc
    have hc : m = n := by simp at hc; omega
    subst hc
    (conv => whnf)
    refine Ends.pure [0] (LeV.freeze_of (by simp) rfl (by simp [repRows_len]) (repRows_free _ _ _) ?_) (one_none rfl)
    simp [repRows]

/-- A list of numbers, or nil. -/
def IsW (fr : Bool) (v : V) (l : List UInt32) : Prop := v = encW fr l ∨ (v = .snil ∧ l = [])
theorem IsW.free {fr : Bool} {v : V} {l : List UInt32} (h : IsW fr v l) : Free v := by
  rcases h with rfl | ⟨rfl, _⟩
  · exact encW_free _ _
  · exact .snil
theorem IsW.cold {v : V} {l : List UInt32} (h : IsW false v l) : Cold v := by
  rcases h with rfl | ⟨rfl, _⟩
  · exact encW_cold _
  · exact .snil
def pairV (fr : Bool) (l1 : List UInt32) (v2 : V) : V := .sl fr 1 [[encW fr l1], [v2]]
theorem pairV_free {fr : Bool} {l1 l2 : List UInt32} {v2 : V} (h : IsW fr v2 l2) : Free (pairV fr l1 v2) := .sl (by
  intro x hx v hv
  simp at hx
  rcases hx with rfl | rfl
  · simp at hv; subst hv; exact encW_free _ _
  · simp at hv; subst hv; exact h.free)
def catRows (l1 l2 : List UInt32) : Nat → List (List V)
  | 0 => []
  | 1 => rowsW l1
  | _ => rowsW (l1 ++ l2)
def catLen (l1 l2 : List UInt32) : Nat → Nat
  | 0 => 0
  | 1 => l1.length
  | _ => l1.length + l2.length
theorem zeros_free (n : Nat) : ∀ r ∈ List.replicate n [V.int .u32 0], ∀ v ∈ r, Free v := by
  intro r hr v hv
  rw [List.eq_of_mem_replicate hr] at hv; simp at hv; subst hv; exact .int
def catR (r0 : List (List V)) (l1 l2 : List UInt32) : Nat → List (List V)
  | 0 => r0
  | 1 => rowsW l1
  | _ => rowsW (l1 ++ l2)
set_option maxRecDepth 100000 in
theorem concat_ok (fr : Bool) (l1 l2 : List UInt32) (v2 : V) (h2 : IsW fr v2 l2) (n1 : l1.length ≤ 1000) (n2 : l2.length ≤ 1000) : PCon prog 49 [pairV fr l1 v2] (encW true (l1 ++ l2)) := by
  refine callV_of (fn := Go.Proofs.Try.f49) (body := _) tab_ok mixed rfl rfl (by decide) (by simp [Go.Proofs.Try.f49]) ?_
  (conv => whnf)
  intro _
  (conv => whnf)
  refine vcg_loop tab_ok mixed (fun i : {i : Nat // i ≤ 2} => ⟨[(0, pairV fr l1 v2), (3, cI (catLen l1 l2 i.1)), (9, pairV fr l1 v2), (10, .int .i64 2), (11, cI i.1)], [], 0⟩) (fun i => 2 - i.1) ⟨0, by omega⟩ (Wk.of id [] ⟨.free (pairV_free h2), .int_of rfl, .free (pairV_free h2), .int_of rfl, .int_of rfl, trivial⟩ (LeH.nil (Nat.le_refl _) (fun b h => by omega) (by simp))) (fun i => ?_)
  obtain ⟨i, hi⟩ := i
  rcases i with _ | _ | _ | i
  case succ.succ.succ => omega
  case zero =>
    (conv => whnf)
    refine ⟨rfl, _, ⟨by simp, rfl⟩, ?_⟩
    (conv => whnf)
    intro _
    (conv => whnf)
    have hw : IntKind.i64.wrap (((catLen l1 l2 (⟨0, hi⟩ : {i : Nat // i ≤ 2}).val : Nat) : Int) + ((List.map (fun x => [V.int .u32 x.toNat]) l1).length : Nat)) = (catLen l1 l2 1 : Nat) := by
      simp only [catLen, List.length_map]; rw [wrap64] <;> omega
    split
    · rename_i h; rw [hw] at h; simp at h; omega
    (conv => whnf)
    exact ⟨⟨1, by omega⟩, Wk.of id [] ⟨.free (pairV_free h2), .int_of hw, .free (pairV_free h2), .int_of rfl, .int_of rfl, trivial⟩ (LeH.nil (Nat.le_refl _) (fun b h => by omega) (by simp)), by simp only; omega⟩
  case succ.zero =>
    (conv => whnf)
    refine ⟨rfl, _, ⟨by simp, rfl⟩, ?_⟩
    (conv => whnf)
    have hw : ∀ n : Nat, n = l2.length → IntKind.i64.wrap (((catLen l1 l2 (⟨0 + 1, hi⟩ : {i : Nat // i ≤ 2}).val : Nat) : Int) + (n : Nat)) = (catLen l1 l2 2 : Nat) := by
      intro n hn
      simp only [catLen]; rw [wrap64] <;> omega
    have h2' := h2
    rcases h2' with h | ⟨h, h0⟩
    · rw [h]
      (conv => whnf)
      intro _
      (conv => whnf)
      have hw := hw ((List.map (fun x => [V.int .u32 x.toNat]) l2).length) (by simp)
      split
      · rename_i h; rw [hw] at h; simp at h; omega
      (conv => whnf)
      exact ⟨⟨2, by omega⟩, Wk.of id [] ⟨h ▸ .free (pairV_free h2), .int_of hw, h ▸ .free (pairV_free h2), .int_of rfl, .int_of rfl, trivial⟩ (LeH.nil (Nat.le_refl _) (fun b h => by omega) (by simp)), by simp only; omega⟩
    · rw [h]
      (conv => whnf)
      have hw : IntKind.i64.wrap (((catLen l1 l2 (⟨0 + 1, hi⟩ : {i : Nat // i ≤ 2}).val : Nat) : Int) + 0) = (catLen l1 l2 2 : Nat) := hw 0 (by simp [h0])
      split
      · rename_i h; rw [hw] at h; simp at h; omega
      (conv => whnf)
      exact ⟨⟨2, by omega⟩, Wk.of id [] ⟨h ▸ .free (pairV_free h2), .int_of hw, h ▸ .free (pairV_free h2), .int_of rfl, .int_of rfl, trivial⟩ (LeH.nil (Nat.le_refl _) (fun b h => by omega) (by simp)), by simp only; omega⟩
  case succ.succ.zero =>
    (conv => whnf)
    refine callV_of (fn := Go.Proofs.Try.f89) (body := _) tab_ok mixed rfl rfl (by decide) (by simp [Go.Proofs.Try.f89]) ?_
    (conv => whnf)
    have hn : IntKind.i64.wrap (((catLen l1 l2 (⟨0 + 1 + 1, hi⟩ : {i : Nat // i ≤ 2}).val : Nat) : Int) - IntKind.i64.wrap (0 - 0)) = (l1.length + l2.length : Nat) := by
      rw [show IntKind.i64.wrap (0 - 0) = 0 by decide]
      simp only [catLen]; rw [wrap64] <;> omega
    split
    · rename_i hc
      (conv => whnf)
      refine ⟨⟨trivial, by simp, rfl, rfl⟩, ?_⟩
      (conv => whnf)
      refine ⟨by rw [hn]; exact ⟨by decide, by omega, by simp [tab, tabOf, nth]; omega, by omega⟩, ?_⟩
      (conv => whnf)
      refine ⟨rfl, .own, ⟨trivial, by simp, by simp, by simp⟩, ?_⟩
      (conv => whnf)
      refine ⟨_, _, _, Ends.here, ?_⟩
      (conv => whnf)
      intro _
      (conv => whnf)
      refine vcg_loop tab_ok mixed (fun i : {i : Nat // i ≤ 2} => ⟨[(6, .osl 0 1 0 (catLen l1 l2 i.1)), (25, pairV fr l1 v2), (26, .int .i64 2), (27, cI i.1)], [(0, some (.arr true false 23 1 (catR (List.replicate (l1.length + l2.length) [.int .u32 0]) l1 l2 i.1)))], 1⟩) (fun i => 2 - i.1) ⟨0, by omega⟩ (Wk.of id [] ⟨.osl_of rfl (by omega) rfl, .free (pairV_free h2), .int_of rfl, .int_of rfl, trivial⟩ (LeH.of ⟨⟨by omega, .inl ⟨by simp, _, rfl, (LeB.eq_of (by simp only [hn, Int.toNat_natCast]; rfl) (by exact zeros_free _))⟩⟩, trivial⟩ (fun _ _ _ _ h => h) (fun _ _ => rfl) (by omega) (by simp))) (fun i => ?_)
      obtain ⟨i, hi⟩ := i
      rcases i with _ | _ | _ | i
      case succ.succ.succ => omega
      case zero =>
        (conv => whnf)
        refine ⟨rfl, _, ⟨by simp, rfl⟩, ?_⟩
        (conv => whnf)
        refine ⟨⟨rfl, rfl, rfl, rfl, by decide⟩, by simp [catLen], ⟨by simp [tab, tabOf, nth, catLen]; omega, by simp [catLen]; omega⟩, ?_⟩
        (conv => whnf)
        refine ⟨⟨1, by omega⟩, Wk.of (renOf [(0, 1)]) [] ⟨.osl_of rfl (by omega) (by simp [catLen]), .free (pairV_free h2), .int_of rfl, .int_of rfl, trivial⟩ (LeH.of ⟨⟨by omega, .inl ⟨by simp, _, rfl, LeB.eq_of ?_ (by exact rowsW_free l1)⟩⟩, trivial⟩ (show ∀ b ∈ [0], ∀ b' ∈ [0], renOf [(0, 1)] b = renOf [(0, 1)] b' → b = b' by decide) (show ∀ b, b < 0 → renOf [(0, 1)] b = b by decide) (by omega) (by simp)), by simp only; omega⟩
        simp [catR, catLen]
      case succ.zero =>
        (conv => whnf)
        refine ⟨rfl, _, ⟨by simp, rfl⟩, ?_⟩
        (conv => whnf)
        have h2' := h2
        rcases h2' with h | ⟨h, h0⟩
        · rw [h]
          (conv => whnf)
          refine ⟨⟨rfl, rfl, rfl, rfl, by decide⟩, by simp [catLen, catR], ⟨by simp [tab, tabOf, nth, catLen]; omega, by simp [catLen]; omega⟩, ?_⟩
          (conv => whnf)
          refine ⟨⟨2, by omega⟩, Wk.of (renOf [(0, 1)]) [] ⟨.osl_of rfl (by omega) (by simp [catLen]), h ▸ .free (pairV_free h2), .int_of rfl, .int_of rfl, trivial⟩ (LeH.of ⟨⟨by omega, .inl ⟨by simp, _, rfl, LeB.eq_of ?_ (rowsW_free (l1 ++ l2))⟩⟩, trivial⟩ (show ∀ b ∈ [0], ∀ b' ∈ [0], renOf [(0, 1)] b = renOf [(0, 1)] b' → b = b' by decide) (show ∀ b, b < 0 → renOf [(0, 1)] b = b by decide) (by omega) (by simp)), by simp only; omega⟩
          simp [catR, catLen]
          exact List.take_of_length_le (by simp)
        · rw [h]
          (conv => whnf)
          refine ⟨_, ⟨rfl, rfl, rfl, rfl, by decide⟩, by simp [catLen, catR], ⟨by simp [tab, tabOf, nth, catLen]; omega, by simp [catLen]; omega⟩, ?_⟩
          (conv => whnf)
          refine ⟨⟨2, by omega⟩, Wk.of (renOf [(0, 1)]) [] ⟨.osl_of rfl (by omega) (by simp [catLen, h0]), h ▸ .free (pairV_free h2), .int_of rfl, .int_of rfl, trivial⟩ (LeH.of ⟨⟨by omega, .inl ⟨by simp, _, rfl, LeB.eq_of ?_ (rowsW_free (l1 ++ l2))⟩⟩, trivial⟩ (show ∀ b ∈ [0], ∀ b' ∈ [0], renOf [(0, 1)] b = renOf [(0, 1)] b' → b = b' by decide) (show ∀ b, b < 0 → renOf [(0, 1)] b = b by decide) (by omega) (by simp)), by simp only; omega⟩
          simp [catR, catLen, h0]
          exact List.take_of_length_le (by simp)
      case succ.succ.zero =>
        (conv => whnf)
        refine Ends.pure [0] (LeV.freeze_of (by simp) rfl (by simp [catLen, catR]) (rowsW_free (l1 ++ l2)) ?_) (one_none rfl)
        simp [catLen, catR]
        exact List.take_of_length_le (by simp)
    · rename_i hc
      have h0 : l1.length + l2.length = 0 := by rw [hn] at hc; simp at hc; omega
      (conv => whnf)
      refine ⟨_, _, _, Ends.here, ?_⟩
      (conv => whnf)
      intro _
      (conv => whnf)
      refine vcg_loop tab_ok mixed (fun i : {i : Nat // i ≤ 2} => ⟨[(6, .osl 0 1 0 0), (25, pairV fr l1 v2), (26, .int .i64 2), (27, cI i.1)], [(0, some (.arr true false 23 1 []))], 1⟩) (fun i => 2 - i.1) ⟨0, by omega⟩ (Wk.of id [] ⟨.osl0, .free (pairV_free h2), .int_of rfl, .int_of rfl, trivial⟩ (LeH.of ⟨⟨by omega, .inr ⟨by simp, _, _, _, _, rfl⟩⟩, trivial⟩ (fun _ _ _ _ h => h) (fun _ _ => rfl) (by omega) (by simp))) (fun i => ?_)
      obtain rfl : l1 = [] := List.eq_nil_of_length_eq_zero (by omega)
      obtain rfl : l2 = [] := List.eq_nil_of_length_eq_zero (by omega)
      obtain ⟨i, hi⟩ := i
      rcases i with _ | _ | _ | i
      case succ.succ.succ => omega
      case zero =>
        (conv => whnf)
        refine ⟨rfl, _, ⟨by simp, rfl⟩, ?_⟩
        (conv => whnf)
        refine ⟨⟨rfl, rfl, rfl, rfl, by decide⟩, by simp, ⟨by simp [tab, tabOf, nth], by simp⟩, ?_⟩
        (conv => whnf)
        refine ⟨⟨1, by omega⟩, Wk.of (renOf [(0, 1)]) [] ⟨.osl_of rfl (by omega) (by simp), .free (pairV_free h2), .int_of rfl, .int_of rfl, trivial⟩ (LeH.of ⟨⟨by omega, .inl ⟨by simp, _, rfl, LeB.eq_of rfl (by intro x hx; simp at hx)⟩⟩, trivial⟩ (show ∀ b ∈ [0], ∀ b' ∈ [0], renOf [(0, 1)] b = renOf [(0, 1)] b' → b = b' by decide) (show ∀ b, b < 0 → renOf [(0, 1)] b = b by decide) (by omega) (by simp)), by simp only; omega⟩
      case succ.zero =>
        (conv => whnf)
        refine ⟨rfl, _, ⟨by simp, rfl⟩, ?_⟩
        (conv => whnf)
        have h2' := h2
        rcases h2' with h | ⟨h, h0⟩
        · rw [h]
          (conv => whnf)
          refine ⟨⟨rfl, rfl, rfl, rfl, by decide⟩, by simp, ⟨by simp [tab, tabOf, nth], by simp⟩, ?_⟩
          (conv => whnf)
          refine ⟨⟨2, by omega⟩, Wk.of (renOf [(0, 1)]) [] ⟨.osl_of rfl (by omega) (by simp), h ▸ .free (pairV_free h2), .int_of rfl, .int_of rfl, trivial⟩ (LeH.of ⟨⟨by omega, .inl ⟨by simp, _, rfl, LeB.eq_of rfl (by intro x hx; simp at hx)⟩⟩, trivial⟩ (show ∀ b ∈ [0], ∀ b' ∈ [0], renOf [(0, 1)] b = renOf [(0, 1)] b' → b = b' by decide) (show ∀ b, b < 0 → renOf [(0, 1)] b = b by decide) (by omega) (by simp)), by simp only; omega⟩
        · rw [h]
          (conv => whnf)
          refine ⟨_, ⟨rfl, rfl, rfl, rfl, by decide⟩, by simp, ⟨by simp [tab, tabOf, nth], by simp⟩, ?_⟩
          (conv => whnf)
          refine ⟨⟨2, by omega⟩, Wk.of (renOf [(0, 1)]) [] ⟨.osl_of rfl (by omega) (by simp), h ▸ .free (pairV_free h2), .int_of rfl, .int_of rfl, trivial⟩ (LeH.of ⟨⟨by omega, .inl ⟨by simp, _, rfl, LeB.eq_of rfl (by intro x hx; simp at hx)⟩⟩, trivial⟩ (show ∀ b ∈ [0], ∀ b' ∈ [0], renOf [(0, 1)] b = renOf [(0, 1)] b' → b = b' by decide) (show ∀ b, b < 0 → renOf [(0, 1)] b = b by decide) (by omega) (by simp)), by simp only; omega⟩
      case succ.succ.zero =>
        (conv => whnf)
        exact Ends.pure [0] (LeV.freeze_of (by simp) rfl (by simp) (by intro x hx; simp at hx) rfl) (one_none rfl)
end Go.Proofs.Ytcfkendgjinmiaa
/- Contracts: two parses. -/
set_option linter.unusedVariables false
set_option linter.unusedSimpArgs false
namespace Go.Proofs.Ytcfkendgjinmiaa
open Go.RowKit
open Go.Proofs.Try (prog)
attribute [local irreducible] CallV RoundV

def noA : Attrs := ⟨0, [], 0, false, 0, false, 0, []⟩
theorem LeV.noA {h : Heap} {nx nx' : Nat} {ρ : Nat → Nat} {Z : List Nat} {fr : Bool} : LeV h nx ρ nx' Z (.agg zeroA) (encA fr noA) :=
  .aggL ⟨.free .int, .snil_sl, .free .int, .free .bool, .free .int, .free .bool, .free .int, .snil_sl, trivial⟩
def parseE (fr : Bool) (a : Attrs) (e : Int) : V := .tup [encA fr a, .int .i64 e]
set_option maxRecDepth 100000 in
theorem parse_nil : PCon prog 20 [.snil] (parseE true noA 299) := by
  refine callV_of (fn := Go.Proofs.Try.f20) (body := _) tab_ok mixed rfl rfl (by decide) (by simp [Go.Proofs.Try.f20]) ?_
  (conv => whnf)
  refine vcg_once tab_ok mixed ?_
  (conv => whnf)
  exact Ends.pure [] (.tupL ⟨.noA, .int_of rfl, trivial⟩) (by simp)

def badB : List UInt8 := [64, 1, 1, 3]
set_option maxRecDepth 100000 in
theorem parse_bad (fr : Bool) : PCon prog 20 [encB fr badB] (parseE true noA 295) := by
  refine callV_of (fn := Go.Proofs.Try.f20) (body := _) tab_ok mixed rfl rfl (by decide) (by simp [Go.Proofs.Try.f20]) ?_
  (conv => whnf)
  refine vcg_once tab_ok mixed ?_
  (conv => whnf)
  intro _
  (conv => whnf)
  refine callV_of (fn := Go.Proofs.Try.f45) (body := _) tab_ok mixed rfl rfl (by decide) (by simp [Go.Proofs.Try.f45]) ?_
  (conv => whnf)
  intro _
  (conv => whnf)
  refine ⟨rfl, _, ⟨by simp, rfl⟩, ?_⟩
  (conv => whnf)
  refine ⟨rfl, _, ⟨by simp, rfl⟩, ?_⟩
  (conv => whnf)
  refine ⟨rfl, _, ⟨by simp, rfl⟩, ?_⟩
  (conv => whnf)
  refine ⟨by kernel_rfl, ?_⟩
  (conv => whnf)
  refine ⟨by kernel_rfl, ?_⟩
  (conv => whnf)
  refine callV_pure attributes_ok trivial ?_
  (conv => whnf)
  refine callV_loop [(1, .ptr 2 0), (3, .ptr 3 0), (4, .ptr 4 0), (5, .ptr 5 0), (6, .ptr 6 0), (7, .ptr 7 0), (8, .ptr 8 0)] ⟨rfl, rfl, rfl, rfl, rfl, rfl, rfl, trivial⟩ fun asg' body' hasg hbody => ?_
  refine callV_of (fn := Go.Proofs.Try.f95) (body := _) tab_ok mixed rfl rfl (by decide) (by simp [Go.Proofs.Try.f95]) ?_
  (conv => whnf)
  intro _
  (conv => whnf)
  refine vcg_once tab_ok mixed ?_
  (conv => whnf)
  refine ⟨rfl, _, ⟨by simp, rfl⟩, ?_⟩
  (conv => whnf)
  subst hasg hbody
  refine roundV_of tab_ok mixed rfl (by simp) (show 9 < 11 by omega) ?_
  (conv => whnf)
  refine ⟨rfl, ?_⟩
  (conv => whnf)
  refine ⟨by kernel_rfl, ?_⟩
  (conv => whnf)
  refine ⟨rfl, ⟨by decide, by decide, by decide, by decide⟩, ?_⟩
  (conv => whnf)
  refine ⟨by kernel_rfl, ?_⟩
  (conv => whnf)
  refine callV_of (fn := Go.Proofs.Try.f62) (body := _) tab_ok mixed rfl rfl (by decide) (by simp [Go.Proofs.Try.f62]) ?_
  (conv => whnf)
  intro _
  (conv => whnf)
  refine ⟨rfl, [.int .u8 3], ⟨by decide, rfl⟩, ?_⟩
  (conv => whnf)
  refine ⟨rfl, [.int .u8 3], ⟨by decide, rfl⟩, ?_⟩
  (conv => whnf)
  refine ⟨_, _, _, Ends.here, ?_⟩
  (conv => whnf)
  refine ⟨rfl, ?_⟩
  (conv => whnf)
  refine ⟨_, _, _, Ends.here, ?_⟩
  (conv => whnf)
  refine ⟨rfl, ⟨by decide, by decide⟩, ?_⟩
  (conv => whnf)
  refine ⟨by kernel_rfl, ?_⟩
  (conv => whnf)
  refine ⟨_, _, _, Ends.here, ?_⟩
  (conv => whnf)
  exact Ends.pure [] (.tupL ⟨.noA, .int_of rfl, trivial⟩) (by simp)
end Go.Proofs.Ytcfkendgjinmiaa
/- Contract: one system laid ahead of no path. -/
set_option linter.unusedVariables false
set_option linter.unusedSimpArgs false
namespace Go.Proofs.Ytcfkendgjinmiaa
open Go.RowKit
open Go.Proofs.Try (prog)
attribute [local irreducible] CallV RoundV

def nineA : Attrs := ⟨0, [], 9, false, 0, false, 0, []⟩
def nineV : V := .agg [.int .u8 0, .snil, .int .u32 9, .bool false, .int .u32 0, .bool false, .int .u32 0, .snil]
theorem LeV.nineA {h : Heap} {nx nx' : Nat} {ρ : Nat → Nat} {Z : List Nat} {fr : Bool} : LeV h nx ρ nx' Z nineV (encA fr nineA) :=
  .aggL ⟨.free .int, .snil_sl, .int_of rfl, .free .bool, .free .int, .free .bool, .free .int, .snil_sl, trivial⟩
def sevenA : Attrs := ⟨0, [⟨false, [7, 7]⟩], 9, false, 0, false, 0, []⟩
theorem Ends.ownNil {s : St} {sz : Nat} {fr ex : Bool} {ty : TypeId} : ∃ v1 h' nx', Ends 0 s .snil v1 h' nx' ∧ (v1 = .osl 0 sz 0 0 ∧ h' = [(0, some (.arr fr ex ty sz []))] ∧ nx' = 1) :=
  ⟨.osl 0 sz 0 0, [(0, some (.arr fr ex ty sz []))], 1, Ends.of (fun _ => s.nx) [] .osl0 (LeH.of ⟨⟨by omega, .inr ⟨by simp, _, _, _, _, rfl⟩⟩, trivial⟩ (by simp) (fun b hb => by omega) (by omega) (by simp)), rfl, rfl, rfl⟩
set_option maxRecDepth 100000 in
theorem cloneW_ok (fr : Bool) (v : V) (l : List UInt32) (h : IsW fr v l) (hl : l.length ≤ 1000000) : OCon prog 53 [v] true false 23 1 l.length (rowsW l) := by
  rcases h with rfl | ⟨rfl, rfl⟩
  · rcases l with _ | ⟨x, l⟩
    · refine callV_of (fn := Go.Proofs.Try.f53) (body := _) tab_ok mixed rfl rfl (by decide) (by simp [Go.Proofs.Try.f53]) ?_
      (conv => whnf)
      refine ⟨?_, ?_⟩
      · (conv => whnf)
        exact Ends.ownNil
      · (conv => whnf)
        refine ⟨⟨rfl, rfl, rfl, rfl, by decide⟩, by simp, ⟨by simp [tab, tabOf, nth], by simp⟩, ?_⟩
        (conv => whnf)
        exact Ends.own rfl (rowsW_free []) rfl rfl
    · refine callV_of (fn := Go.Proofs.Try.f53) (body := _) tab_ok mixed rfl rfl (by decide) (by simp [Go.Proofs.Try.f53]) ?_
      (conv => whnf)
      refine ⟨⟨rfl, rfl, rfl, rfl, by decide⟩, by simp, ⟨by simp [tab, tabOf, nth] at *; omega, by simp at *; omega⟩, ?_⟩
      (conv => whnf)
      exact Ends.own rfl (rowsW_free (x :: l)) (by simp) rfl
  · refine callV_of (fn := Go.Proofs.Try.f53) (body := _) tab_ok mixed rfl rfl (by decide) (by simp [Go.Proofs.Try.f53]) ?_
    (conv => whnf)
    refine ⟨?_, ?_⟩
    · (conv => whnf)
      exact Ends.ownNil
    · (conv => whnf)
      refine ⟨_, ⟨rfl, rfl, rfl, rfl, by decide⟩, by simp, ⟨by simp [tab, tabOf, nth], by simp⟩, ?_⟩
      (conv => whnf)
      exact Ends.own rfl (rowsW_free []) rfl rfl
set_option maxRecDepth 100000 in
theorem cloneL_nil : OCon prog 52 [.snil] true false 54 2 0 [] := by
  refine callV_of (fn := Go.Proofs.Try.f52) (body := _) tab_ok mixed rfl rfl (by decide) (by simp [Go.Proofs.Try.f52]) ?_
  (conv => whnf)
  refine ⟨?_, ?_⟩
  · (conv => whnf)
    exact Ends.ownNil
  · (conv => whnf)
    refine ⟨_, ⟨rfl, rfl, rfl, rfl, by decide⟩, by simp, ⟨by simp [tab, tabOf, nth], by simp⟩, ?_⟩
    (conv => whnf)
    exact Ends.own rfl (by simp) rfl rfl
theorem Less.encW {l : List UInt32} : Less (encW true l) (encW false l) := .sl (by simp) rfl fun j v v' h1 h2 => by rw [h1] at h2; cases h2; exact Less.refl _
theorem Less.pair {l1 : List UInt32} {v2 v2' : V} (h : Less v2 v2') : Less (pairV true l1 v2) (pairV false l1 v2') := .sl (by simp) rfl fun j v v' h1 h2 => by
  rcases j with _ | _ | j
  · simp at h1 h2; subst h1; subst h2; exact .encW
  · simp at h1 h2; subst h1; subst h2; exact h
  · simp at h1
theorem legs_less : ∀ (l : List Leg) (j : Nat) (v v' : V), (l.map (encLeg true)).flatten[j]? = some v → (l.map (encLeg false)).flatten[j]? = some v' → Less v v'
  | [], j, v, v', h1, h2 => by simp at h1
  | p :: l, j, v, v', h1, h2 => by
    rcases j with _ | _ | j
    · simp [encLeg] at h1 h2; subst h1; subst h2; exact Less.refl _
    · simp [encLeg] at h1 h2; subst h1; subst h2; exact .encW
    · simp [encLeg] at h1 h2
      exact legs_less l j v v' (by simpa [encLeg] using h1) (by simpa [encLeg] using h2)
theorem Less.legs {l : List Leg} : Less (encLegs true l) (encLegs false l) := .sl (by simp) (by rw [List.map_map, List.map_map]; rfl) (legs_less l)
theorem pairV_cold {l1 l2 : List UInt32} {v2 : V} (h : IsW false v2 l2) : Cold (pairV false l1 v2) := .sl (by
  intro x hx v hv
  simp at hx
  rcases hx with rfl | rfl
  · simp at hv; subst hv; exact encW_cold _
  · simp at hv; subst hv; exact h.cold)
theorem encW_rows_free {vs : List V} (h : ∀ v ∈ vs, Free v) : ∀ x ∈ vs.map (fun v => [v]), ∀ v ∈ x, Free v := by
  intro x hx v hv
  obtain ⟨y, hy, rfl⟩ := List.mem_map.1 hx
  simp at hv; subst hv; exact h _ hy
set_option maxRecDepth 100000 in
theorem prepend_seven : PCon prog 22 [nineV, cW 7, cI 2] (parseE true sevenA 0) := by
  refine callV_of (fn := Go.Proofs.Try.f22) (body := _) tab_ok mixed rfl rfl (by decide) (by simp [Go.Proofs.Try.f22]) ?_
  (conv => whnf)
  refine callV_pure (check_ok true nineA) ⟨.nineA, trivial⟩ ?_
  have hc : checkA nineA = 0 := by decide
  rw [hc]
  (conv => whnf)
  refine callV_of (fn := Go.Proofs.Try.f32) (body := _) tab_ok mixed rfl rfl (by decide) (by simp [Go.Proofs.Try.f32]) ?_
  (conv => whnf)
  refine callV_own [] cloneL_nil ⟨.free .snil, trivial⟩ (by simp; exact .snil) (by simp) (by simp) ?_
  (conv => whnf)
  intro _
  (conv => whnf)
  refine vcg_once tab_ok mixed ?_
  (conv => whnf)
  refine callV_own [] (cloneW_ok false .snil [] (.inr ⟨rfl, rfl⟩) (by simp)) ⟨.free .snil, trivial⟩ (by simp; exact .snil) (by simp) (by simp) ?_
  (conv => whnf)
  refine ⟨_, _, _, Ends.here, ?_⟩
  (conv => whnf)
  intro _
  (conv => whnf)
  refine callV_of (fn := Go.Proofs.Try.f48) (body := _) tab_ok mixed rfl rfl (by decide) (by simp [Go.Proofs.Try.f48]) ?_
  (conv => whnf)
  refine ⟨rfl, ⟨by simp, by simp⟩, ?_⟩
  (conv => whnf)
  intro _
  (conv => whnf)
  intro _
  (conv => whnf)
  refine ⟨rfl, by simp, ⟨rfl, rfl, rfl, rfl, by decide⟩, by simp, ⟨by simp [tab, tabOf, nth], by simp⟩, ?_⟩
  (conv => whnf)
  refine ⟨_, _, _, Ends.here, ?_⟩
  (conv => whnf)
  refine ⟨encW true (List.replicate 2 7), [(8, some (.arr true true 23 1 (rowsW [7])))], fun h nx hrd => ?_, ?_, ?_⟩
  · have h8 := hrd 8 _ (List.mem_singleton.2 rfl)
    refine pureV_lend [8] (repeat_ok false 7 2 (by omega)) ⟨LeV.fresh_off (LeV.freeze_of (by simp) h8 (by simp) (rowsW_free [7]) rfl), .free .int, trivial⟩ ?_ (one_none h8) (encW_fresh _)
    intro v hv
    simp at hv
    rcases hv with rfl | rfl
    · exact encW_cold _
    · exact .int
  · intro b ob hm
    obtain ⟨rfl, rfl⟩ : b = 8 ∧ ob = _ := by simpa using hm
    rfl
  (conv => whnf)
  refine ⟨rfl, ⟨by decide, by decide⟩, ?_⟩
  (conv => whnf)
  refine ⟨rfl, _, rfl, ?_⟩
  (conv => whnf)
  refine ⟨encW true [7, 7], [(9, some (.arr true true 24 1 [[encW true [7, 7]], [.snil]]))], fun h nx hrd => ?_, ?_, ?_⟩
  · have h9 := hrd 9 _ (List.mem_singleton.2 rfl)
    refine pureV_lend [9] (concat_ok false [7, 7] [] .snil (.inr ⟨rfl, rfl⟩) (by simp) (by simp)) ⟨.less (v1 := pairV true [7, 7] .snil) (LeV.freeze_of (by simp) h9 (by simp) (encW_rows_free (vs := [encW true [7, 7], .snil]) (by intro v hv; simp at hv; rcases hv with rfl | rfl; exact encW_free _ _; exact .snil)) rfl) (.pair (Less.refl _)), trivial⟩ ?_ (one_none h9) (encW_fresh _)
    intro v hv
    simp at hv
    subst hv
    exact pairV_cold (.inr ⟨rfl, rfl⟩)
  · intro b ob hm
    obtain ⟨rfl, rfl⟩ : b = 9 ∧ ob = _ := by simpa using hm
    rfl
  (conv => whnf)
  refine ⟨rfl, ⟨by decide, by decide⟩, ?_⟩
  (conv => whnf)
  refine ⟨rfl, _, rfl, ?_⟩
  (conv => whnf)
  refine ⟨by kernel_rfl, ?_⟩
  (conv => whnf)
  refine callV_lend [7] (path_ok false [⟨false, [7, 7]⟩]) ⟨.less (v1 := encLegs true [⟨false, [7, 7]⟩]) (LeV.freeze_of (by simp) rfl (by decide) (rowsLegs_free true [⟨false, [7, 7]⟩]) rfl) .legs, trivial⟩ (by intro v hv; simp at hv; subst hv; exact encLegs_cold _) (one_none rfl) .bool ?_
  have hp : pathOk [⟨false, [7, 7]⟩] = true := by decide
  rw [hp]
  (conv => whnf)
  refine Ends.pure [7, 5] (.tupL ⟨.aggL ⟨.free .int, LeV.freeze_of (by simp) rfl (by decide) (rowsLegs_free true [⟨false, [7, 7]⟩]) rfl, .int_of rfl, .free .bool, .free .int, .free .bool, .free .int, LeV.freeze_of (by simp) rfl (by decide) (by simp) rfl, trivial⟩, .int_of rfl, trivial⟩) ?_
  intro z hz
  simp at hz
  rcases hz with rfl | rfl
  · exact ne_none_of rfl
  · exact ne_none_of rfl
end Go.Proofs.Ytcfkendgjinmiaa
/- Contract: the chapter's rows. -/
set_option linter.unusedVariables false
set_option linter.unusedSimpArgs false
namespace Go.Proofs.Ytcfkendgjinmiaa
open Go.RowKit
open Go.Proofs.Try (prog)
attribute [local irreducible] CallV RoundV

def rowB : List UInt8 := [64, 1, 1, 0, 64, 2, 0, 64, 3, 4, 0, 0, 0, 9]
theorem raw_nine : rawE nineA = .tup [encB true rowB, .int .i64 0] := by
  rw [rawE_yes (by decide)]
  rfl
theorem parseE_fresh (a : Attrs) (e : Int) : Fresh (parseE true a e) := .tup (by intro v hv; simp at hv; rcases hv with rfl | rfl; exact encA_fresh _; exact .int)
def legA : Leg := ⟨false, [1, 2]⟩
def legB' : Leg := ⟨true, [3, 4]⟩
def oneA : Attrs := ⟨0, [legB'], 0, false, 0, false, 0, []⟩
theorem cons_free {a b : V} (h1 : Free a) (h2 : Free b) : ∀ v ∈ [a, b], Free v := by intro v hv; simp at hv; rcases hv with rfl | rfl <;> assumption
set_option maxRecDepth 100000 in
theorem works_ok : PCon prog 12 [] (.bool true) := by
  refine callV_of (fn := Go.Proofs.Try.f12) (body := _) tab_ok mixed rfl rfl (by decide) (by simp [Go.Proofs.Try.f12]) ?_
  (conv => whnf)
  refine callV_pure (raw_ok true nineA (by decide)) ⟨.nineA, trivial⟩ ?_
  rw [raw_nine]
  (conv => whnf)
  refine callV_pure parse_nil ⟨.free .snil, trivial⟩ ?_
  (conv => whnf)
  refine callV_lend [1] (parse_bad false) ⟨LeV.fresh_off (LeV.freeze_of (by simp) rfl (by decide) (rowsB_free badB) rfl), trivial⟩ (by intro v hv; simp at hv; subst hv; exact encB_cold _) (one_none rfl) (parseE_fresh _ _) ?_
  (conv => whnf)
  refine callV_pure prepend_seven ⟨.eq_of rfl (.agg (by intro v hv; simp only [List.mem_cons, List.not_mem_nil, or_false] at hv; rcases hv with rfl | rfl | rfl | rfl | rfl | rfl | rfl | rfl <;> first | exact .int | exact .snil | exact .bool)), .int_of rfl, .int_of rfl, trivial⟩ ?_
  (conv => whnf)
  refine callV_pure (num_ok 0) ⟨.int_of rfl, trivial⟩ ?_
  (conv => whnf)
  refine callV_pure (num_ok 0) ⟨.int_of rfl, trivial⟩ ?_
  (conv => whnf)
  refine ⟨rfl, ⟨rowB.toArray⟩, rfl, ?_⟩
  (conv => whnf)
  refine callV_pure (num_ok 299) ⟨.int_of rfl, trivial⟩ ?_
  (conv => whnf)
  refine callV_pure (num_ok 295) ⟨.int_of rfl, trivial⟩ ?_
  (conv => whnf)
  refine callV_freeze (args' := [.osl 7 2 0 2]) [4, 6] (h' := [(7, some (.arr true true 54 2 [encLeg true legA, encLeg true legB'])), (5, some (.var true 54 (encLeg true legB'))), (3, some (.var true 26 (cellsA true sevenA)))]) (LeH.of ⟨⟨by decide, .inl ⟨by decide, _, rfl, ?_⟩⟩, ⟨by decide, .inl ⟨by decide, _, rfl, ?_⟩⟩, ⟨by decide, .inl ⟨by decide, _, rfl, ?_⟩⟩, trivial⟩ (fun _ _ _ _ h => h) (fun _ _ => rfl) (Nat.le_refl _) ?_) ⟨.osl rfl (by decide), trivial⟩ ?_
  · refine ⟨id, id, rfl, rfl, rfl, fun j v v' h1 h2 => ?_⟩
    rcases j with _ | _ | _ | _ | j
    · cases h1; cases h2; exact .free .bool
    · cases h1; cases h2; exact LeV.freeze_of (by simp) rfl (by decide) (rowsW_free [1, 2]) rfl
    · cases h1; cases h2; exact .free .bool
    · cases h1; cases h2; exact LeV.freeze_of (by simp) rfl (by decide) (rowsW_free [3, 4]) rfl
    · cases h1
  · exact ⟨id, rfl, .free .bool, LeV.freeze_of (by simp) rfl (by decide) (rowsW_free [3, 4]) rfl, trivial⟩
  · exact LeB.eq_of (b' := .var true 26 (cellsA true sevenA)) rfl (cellsA_free true sevenA)
  · intro z hz
    simp at hz
    rcases hz with rfl | rfl
    · exact ne_none_of rfl
    · exact ne_none_of rfl
  refine callV_lend [7] (length_ok false [legA, legB'] (by simp) (by simp [legA, legB'])) ⟨.less (v1 := encLegs true [legA, legB']) (LeV.freeze_of (by simp) rfl (by decide) (rowsLegs_free true [legA, legB']) rfl) .legs, trivial⟩ (by intro v hv; simp at hv; subst hv; exact encLegs_cold _) (one_none rfl) .int ?_
  (conv => whnf)
  refine callV_lend [8] (first_ok false oneA) ⟨.aggL ⟨.free .int, .less (v1 := encLegs true [legB']) (LeV.freeze_of (by simp) rfl (by decide) (rowsLegs_free true [legB']) rfl) .legs, .free .int, .free .bool, .free .int, .free .bool, .free .int, .snil_sl, trivial⟩, trivial⟩ (by intro v hv; simp at hv; subst hv; exact encA_cold _) (one_none rfl) .int ?_
  (conv => whnf)
  refine callV_pure (first_ok true sevenA) ⟨.free (encA_free _ _), trivial⟩ ?_
  (conv => whnf)
  refine callV_pure (length_ok true sevenA.path (by decide) (by decide)) ⟨.free (encLegs_free _ _), trivial⟩ ?_
  (conv => whnf)
  exact Ends.pure [] (.free .bool) (by simp)
end Go.Proofs.Ytcfkendgjinmiaa
/- Contract: the law AttrsRaws. -/
set_option linter.unusedVariables false
set_option linter.unusedSimpArgs false
namespace Go.Proofs.Ytcfkendgjinmiaa
open Go.RowKit
open Go.Proofs.Try (prog)
attribute [local irreducible] CallV RoundV

theorem sameA_refl (a : Attrs) : sameA a a = true := by
  simp [sameA]
set_option maxRecDepth 100000 in
theorem raws_ok (fr : Bool) (a : Attrs) : PCon prog 3 [encA fr a] (.bool true) := by
  refine callV_of (fn := Go.Proofs.Try.f3) (body := _) tab_ok mixed rfl rfl (by decide) (by simp [Go.Proofs.Try.f3]) ?_
  (conv => whnf)
  refine callV_pure (few_ok fr a) ⟨.free (encA_free _ _), trivial⟩ ?_
  cases hf : fewA a with
  | false =>
    (conv => whnf)
    refine callV_pure works_ok trivial ?_
    (conv => whnf)
    exact Ends.pure [] (.free .bool) (by simp)
  | true =>
    (conv => whnf)
    refine callV_pure (lent_ok fr a hf) ⟨.free (encA_free _ _), trivial⟩ ?_
    (conv => whnf)
    refine callV_pure (raw_ok true a hf) ⟨.free (encA_free _ _), trivial⟩ ?_
    cases hr : rightA a with
    | false =>
      rw [rawE_no hr]
      (conv => whnf)
      refine callV_pure (check_ok true a) ⟨.free (encA_free _ _), trivial⟩ ?_
      rw [checkA_no hr]
      (conv => whnf)
      refine callV_pure (ref_same_ok true fr a a) ⟨.free (encA_free _ _), .free (encA_free _ _), trivial⟩ ?_
      rw [sameA_refl]
      (conv => whnf)
      refine callV_pure (right_ok fr a) ⟨.free (encA_free _ _), trivial⟩ ?_
      rw [hr]
      (conv => whnf)
      intro _
      (conv => whnf)
      refine callV_pure (num_ok 2) ⟨.int_of rfl, trivial⟩ ?_
      (conv => whnf)
      refine callV_pure (num_ok 2) ⟨.int_of rfl, trivial⟩ ?_
      (conv => whnf)
      refine callV_pure works_ok trivial ?_
      (conv => whnf)
      exact Ends.pure [] (.free .bool) (by simp)
    | true =>
      rw [rawE_yes hr, rawP_eq]
      (conv => whnf)
      refine callV_pure (check_ok true a) ⟨.free (encA_free _ _), trivial⟩ ?_
      rw [checkA_yes hr]
      (conv => whnf)
      refine callV_pure (ref_same_ok true fr a a) ⟨.free (encA_free _ _), .free (encA_free _ _), trivial⟩ ?_
      rw [sameA_refl]
      (conv => whnf)
      refine callV_pure (right_ok fr a) ⟨.free (encA_free _ _), trivial⟩ ?_
      rw [hr]
      (conv => whnf)
      refine ⟨rfl, ⟨(rawA a).toArray⟩, rfl, ?_⟩
      (conv => whnf)
      refine ⟨encB true (rawA a), [], fun h nx _ => pureV_pure (ref_raw_ok fr a hf) ⟨.free (encA_free _ _), trivial⟩, by simp, ?_⟩
      (conv => whnf)
      refine ⟨rfl, ⟨(rawA a).toArray⟩, rfl, ?_⟩
      (conv => whnf)
      split
      case h_2 h => exact absurd h (by simp)
      (conv => whnf)
      refine ⟨_, [], fun h nx _ => pureV_pure (num_ok 0) ⟨.int_of rfl, trivial⟩, by simp, ?_⟩
      (conv => whnf)
      refine ⟨_, [], fun h nx _ => pureV_pure (num_ok 0) ⟨.int_of rfl, trivial⟩, by simp, ?_⟩
      (conv => whnf)
      refine ⟨_, [], fun h nx _ => pureV_pure works_ok trivial, by simp, ?_⟩
      (conv => whnf)
      refine ⟨by kernel_rfl, ?_⟩
      (conv => whnf)
      exact Ends.pure [] (.free .bool) (by simp)
end Go.Proofs.Ytcfkendgjinmiaa
