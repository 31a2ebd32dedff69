/- Joined: VS, C0, R0, C1, C2, C3, C4, C5, C6, C7, C8, C9, C10, C11, C12, C13, C14, D1, C15, C16, C17, C18, C19, C20, C21, C22, C23, D2, E1, E2, E3, E4, E5, E6, E7, E8, E9, E10, F1, F2, G1, G2, G3, G4. -/
import Derived.Test.YtjpfofmkgdjelaaGreatK2
import Derived.Test.YtjpfofmkgdjelaaGreatProg
import Derived.KernelRfl
import Derived.Test.YtjpfofmkgdjelaaGreatRows
import Derived.Laws.BitsLemmas
/- Written by gentab.sh: the types of the program. -/
namespace Go.Proofs.YtjpfofmkgdjelaaGreat
set_option maxRecDepth 100000
def tab : Tab := tabOf
  [{ k := TK.tuple, size := 1, bytes := 0, zero := [Value.tuple #[]] },
    { k := TK.func, size := 1, bytes := 8, zero := [Value.nilFunc] },
    { k := TK.int IntKind.i64, size := 1, bytes := 8, zero := [Value.int IntKind.i64 (0)], key := true },
    { k := TK.int IntKind.i64, size := 1, bytes := 8, zero := [Value.int IntKind.i64 (0)], key := true },
    { k := TK.bool, size := 1, bytes := 1, zero := [Value.bool false], key := true },
    { k := TK.int IntKind.u8, size := 1, bytes := 1, zero := [Value.int IntKind.u8 (0)], key := true },
    { k := TK.int IntKind.u8, size := 1, bytes := 1, zero := [Value.int IntKind.u8 (0)], key := true },
    { k := TK.struct [(0, 2), (1, 3), (2, 4), (3, 6)], size := 4, bytes := 24,
      zero :=
        [Value.int IntKind.i64 (0), Value.int IntKind.i64 (0), Value.bool false,
          Value.int IntKind.u8 (0)],
      key := true },
    { k := TK.struct [(0, 2), (1, 3), (2, 4), (3, 6)], size := 4, bytes := 24,
      zero :=
        [Value.int IntKind.i64 (0), Value.int IntKind.i64 (0), Value.bool false,
          Value.int IntKind.u8 (0)] },
    { k := TK.str, size := 1, bytes := 16, zero := [Value.string { data := { toList := [] } }], key := true },
    { k := TK.str, size := 1, bytes := 16, zero := [Value.string { data := { toList := [] } }], key := true },
    { k := TK.str, size := 1, bytes := 16, zero := [Value.string { data := { toList := [] } }], key := true },
    { k := TK.int IntKind.u64, size := 1, bytes := 8, zero := [Value.int IntKind.u64 (0)], key := true },
    { k := TK.struct [(0, 9), (1, 12)], size := 2, bytes := 24,
      zero := [Value.string { data := { toList := [] } }, Value.int IntKind.u64 (0)] },
    { k := TK.struct [(0, 9), (1, 12)], size := 2, bytes := 24,
      zero := [Value.string { data := { toList := [] } }, Value.int IntKind.u64 (0)] },
    { k := TK.ptr 162, size := 1, bytes := 8, zero := [Value.pointer none] },
    { k := TK.ptr 165, size := 1, bytes := 8, zero := [Value.pointer none] },
    { k := TK.ptr 173, size := 1, bytes := 8, zero := [Value.pointer none] },
    { k := TK.struct [(0, 17)], size := 1, bytes := 8, zero := [Value.pointer none] },
    { k := TK.struct [(0, 17)], size := 1, bytes := 8, zero := [Value.pointer none] },
    { k := TK.iface, size := 1, bytes := 16, zero := [Value.nilIface] },
    { k := TK.int IntKind.i32, size := 1, bytes := 4, zero := [Value.int IntKind.i32 (0)], key := true },
    { k := TK.int IntKind.u32, size := 1, bytes := 4, zero := [Value.int IntKind.u32 (0)], key := true },
    { k := TK.struct [(0, 22), (1, 5)], size := 2, bytes := 8,
      zero := [Value.int IntKind.u32 (0), Value.int IntKind.u8 (0)], key := true },
    { k := TK.struct [(0, 22), (1, 5)], size := 2, bytes := 8,
      zero := [Value.int IntKind.u32 (0), Value.int IntKind.u8 (0)], key := true },
    {
      k :=
        TK.struct
          [(0, 24), (2, 5), (3, 5), (4, 4), (5, 22), (6, 22), (7, 4), (8, 4), (9, 4), (10, 4), (11, 22), (12, 22),
            (13, 22), (14, 5)],
      size := 15, bytes := 40,
      zero :=
        [Value.int IntKind.u32 (0), Value.int IntKind.u8 (0), Value.int IntKind.u8 (0),
          Value.int IntKind.u8 (0), Value.bool false, Value.int IntKind.u32 (0),
          Value.int IntKind.u32 (0), Value.bool false, Value.bool false, Value.bool false, Value.bool false,
          Value.int IntKind.u32 (0), Value.int IntKind.u32 (0), Value.int IntKind.u32 (0),
          Value.int IntKind.u8 (0)],
      key := true },
    {
      k :=
        TK.struct
          [(0, 24), (2, 5), (3, 5), (4, 4), (5, 22), (6, 22), (7, 4), (8, 4), (9, 4), (10, 4), (11, 22), (12, 22),
            (13, 22), (14, 5)],
      size := 15, bytes := 40,
      zero :=
        [Value.int IntKind.u32 (0), Value.int IntKind.u8 (0), Value.int IntKind.u8 (0),
          Value.int IntKind.u8 (0), Value.bool false, Value.int IntKind.u32 (0),
          Value.int IntKind.u32 (0), Value.bool false, Value.bool false, Value.bool false, Value.bool false,
          Value.int IntKind.u32 (0), Value.int IntKind.u32 (0), Value.int IntKind.u32 (0),
          Value.int IntKind.u8 (0)],
      key := true },
    { k := TK.slice 26, size := 1, bytes := 24, zero := [Value.slice none 0 0] },
    { k := TK.struct [(0, 27), (1, 4)], size := 2, bytes := 32, zero := [Value.slice none 0 0, Value.bool false] },
    { k := TK.struct [(0, 27), (1, 4)], size := 2, bytes := 32, zero := [Value.slice none 0 0, Value.bool false] },
    { k := TK.slice 65, size := 1, bytes := 24, zero := [Value.slice none 0 0] },
    { k := TK.slice 22, size := 1, bytes := 24, zero := [Value.slice none 0 0] },
    { k := TK.struct [(0, 5), (1, 30), (2, 22), (3, 4), (4, 22), (5, 4), (6, 22), (7, 31)], size := 8, bytes := 80,
      zero :=
        [Value.int IntKind.u8 (0), Value.slice none 0 0, Value.int IntKind.u32 (0), Value.bool false,
          Value.int IntKind.u32 (0), Value.bool false, Value.int IntKind.u32 (0),
          Value.slice none 0 0] },
    { k := TK.struct [(0, 5), (1, 30), (2, 22), (3, 4), (4, 22), (5, 4), (6, 22), (7, 31)], size := 8, bytes := 80,
      zero :=
        [Value.int IntKind.u8 (0), Value.slice none 0 0, Value.int IntKind.u32 (0), Value.bool false,
          Value.int IntKind.u32 (0), Value.bool false, Value.int IntKind.u32 (0),
          Value.slice none 0 0] },
    { k := TK.func, size := 1, bytes := 8, zero := [Value.nilFunc] },
    { k := TK.func, size := 1, bytes := 8, zero := [Value.nilFunc] },
    { k := TK.func, size := 1, bytes := 8, zero := [Value.nilFunc] },
    { k := TK.func, size := 1, bytes := 8, zero := [Value.nilFunc] },
    { k := TK.func, size := 1, bytes := 8, zero := [Value.nilFunc] },
    { k := TK.int IntKind.i64, size := 1, bytes := 8, zero := [Value.int IntKind.i64 (0)], key := true },
    { k := TK.func, size := 1, bytes := 8, zero := [Value.nilFunc] },
    { k := TK.func, size := 1, bytes := 8, zero := [Value.nilFunc] },
    { k := TK.func, size := 1, bytes := 8, zero := [Value.nilFunc] },
    { k := TK.func, size := 1, bytes := 8, zero := [Value.nilFunc] },
    { k := TK.tuple, size := 1, bytes := 0,
      zero :=
        [Value.tuple
            {
              toList :=
                [Value.agg
                    {
                      toList :=
                        [Value.int IntKind.u8 (0), Value.slice none 0 0, Value.int IntKind.u32 (0),
                          Value.bool false, Value.int IntKind.u32 (0), Value.bool false,
                          Value.int IntKind.u32 (0), Value.slice none 0 0] },
                  Value.bool false, Value.int IntKind.i64 (0)] }] },
    { k := TK.func, size := 1, bytes := 8, zero := [Value.nilFunc] },
    { k := TK.tuple, size := 1, bytes := 0,
      zero :=
        [Value.tuple
            {
              toList :=
                [Value.agg
                    {
                      toList :=
                        [Value.int IntKind.u8 (0), Value.slice none 0 0, Value.int IntKind.u32 (0),
                          Value.bool false, Value.int IntKind.u32 (0), Value.bool false,
                          Value.int IntKind.u32 (0), Value.slice none 0 0] },
                  Value.bool false, Value.int IntKind.i64 (0)] }] },
    { k := TK.func, size := 1, bytes := 8, zero := [Value.nilFunc] },
    { k := TK.func, size := 1, bytes := 8, zero := [Value.nilFunc] },
    { k := TK.func, size := 1, bytes := 8, zero := [Value.nilFunc] },
    { k := TK.func, size := 1, bytes := 8, zero := [Value.nilFunc] },
    { k := TK.slice 5, size := 1, bytes := 24, zero := [Value.slice none 0 0] },
    { k := TK.func, size := 1, bytes := 8, zero := [Value.nilFunc] },
    { k := TK.tuple, size := 1, bytes := 0,
      zero :=
        [Value.tuple
            {
              toList :=
                [Value.agg { toList := [Value.slice none 0 0, Value.bool false] },
                  Value.int IntKind.i64 (0)] }] },
    { k := TK.func, size := 1, bytes := 8, zero := [Value.nilFunc] },
    { k := TK.tuple, size := 1, bytes := 0,
      zero :=
        [Value.tuple
            {
              toList :=
                [Value.agg { toList := [Value.slice none 0 0, Value.bool false] },
                  Value.int IntKind.i64 (0)] }] },
    { k := TK.func, size := 1, bytes := 8, zero := [Value.nilFunc] },
    { k := TK.func, size := 1, bytes := 8, zero := [Value.nilFunc] },
    { k := TK.func, size := 1, bytes := 8, zero := [Value.nilFunc] },
    { k := TK.func, size := 1, bytes := 8, zero := [Value.nilFunc] },
    { k := TK.tuple, size := 1, bytes := 0,
      zero := [Value.tuple { toList := [Value.slice none 0 0, Value.int IntKind.i64 (0)] }] },
    { k := TK.func, size := 1, bytes := 8, zero := [Value.nilFunc] },
    { k := TK.func, size := 1, bytes := 8, zero := [Value.nilFunc] },
    { k := TK.func, size := 1, bytes := 8, zero := [Value.nilFunc] },
    { k := TK.struct [(0, 4), (1, 31)], size := 2, bytes := 32, zero := [Value.bool false, Value.slice none 0 0] },
    { k := TK.struct [(0, 4), (1, 31)], size := 2, bytes := 32, zero := [Value.bool false, Value.slice none 0 0] },
    { k := TK.func, size := 1, bytes := 8, zero := [Value.nilFunc] },
    { k := TK.func, size := 1, bytes := 8, zero := [Value.nilFunc] },
    { k := TK.slice 35, size := 1, bytes := 24, zero := [Value.slice none 0 0] },
    { k := TK.func, size := 1, bytes := 8, zero := [Value.nilFunc] },
    { k := TK.func, size := 1, bytes := 8, zero := [Value.nilFunc] },
    { k := TK.func, size := 1, bytes := 8, zero := [Value.nilFunc] },
    { k := TK.func, size := 1, bytes := 8, zero := [Value.nilFunc] },
    { k := TK.func, size := 1, bytes := 8, zero := [Value.nilFunc] },
    { k := TK.func, size := 1, bytes := 8, zero := [Value.nilFunc] },
    { k := TK.func, size := 1, bytes := 8, zero := [Value.nilFunc] },
    { k := TK.func, size := 1, bytes := 8, zero := [Value.nilFunc] },
    { k := TK.func, size := 1, bytes := 8, zero := [Value.nilFunc] },
    { k := TK.tuple, size := 1, bytes := 0,
      zero :=
        [Value.tuple
            {
              toList :=
                [Value.agg
                    {
                      toList :=
                        [Value.int IntKind.u8 (0), Value.slice none 0 0, Value.int IntKind.u32 (0),
                          Value.bool false, Value.int IntKind.u32 (0), Value.bool false,
                          Value.int IntKind.u32 (0), Value.slice none 0 0] },
                  Value.int IntKind.i64 (0)] }] },
    { k := TK.func, size := 1, bytes := 8, zero := [Value.nilFunc] },
    { k := TK.func, size := 1, bytes := 8, zero := [Value.nilFunc] },
    { k := TK.tuple, size := 1, bytes := 0,
      zero :=
        [Value.tuple
            {
              toList :=
                [Value.agg
                    {
                      toList :=
                        [Value.int IntKind.u8 (0), Value.slice none 0 0, Value.int IntKind.u32 (0),
                          Value.bool false, Value.int IntKind.u32 (0), Value.bool false,
                          Value.int IntKind.u32 (0), Value.slice none 0 0] },
                  Value.int IntKind.i64 (0)] }] },
    { k := TK.func, size := 1, bytes := 8, zero := [Value.nilFunc] },
    { k := TK.func, size := 1, bytes := 8, zero := [Value.nilFunc] },
    { k := TK.func, size := 1, bytes := 8, zero := [Value.nilFunc] },
    { k := TK.func, size := 1, bytes := 8, zero := [Value.nilFunc] },
    { k := TK.func, size := 1, bytes := 8, zero := [Value.nilFunc] },
    { k := TK.func, size := 1, bytes := 8, zero := [Value.nilFunc] },
    { k := TK.func, size := 1, bytes := 8, zero := [Value.nilFunc] },
    { k := TK.func, size := 1, bytes := 8, zero := [Value.nilFunc] },
    { k := TK.slice 95, size := 1, bytes := 24, zero := [Value.slice none 0 0] },
    { k := TK.func, size := 1, bytes := 8, zero := [Value.nilFunc] },
    { k := TK.func, size := 1, bytes := 8, zero := [Value.nilFunc] },
    { k := TK.func, size := 1, bytes := 8, zero := [Value.nilFunc] },
    { k := TK.struct [(0, 3), (1, 92), (2, 93)], size := 3, bytes := 24,
      zero := [Value.int IntKind.i64 (0), Value.nilFunc, Value.nilFunc] },
    { k := TK.struct [(0, 3), (1, 92), (2, 93)], size := 3, bytes := 24,
      zero := [Value.int IntKind.i64 (0), Value.nilFunc, Value.nilFunc] },
    { k := TK.ptr 26, size := 1, bytes := 8, zero := [Value.pointer none] },
    { k := TK.func, size := 1, bytes := 8, zero := [Value.nilFunc] },
    { k := TK.func, size := 1, bytes := 8, zero := [Value.nilFunc] },
    { k := TK.func, size := 1, bytes := 8, zero := [Value.nilFunc] },
    { k := TK.func, size := 1, bytes := 8, zero := [Value.nilFunc] },
    { k := TK.func, size := 1, bytes := 8, zero := [Value.nilFunc] },
    { k := TK.func, size := 1, bytes := 8, zero := [Value.nilFunc] },
    { k := TK.func, size := 1, bytes := 8, zero := [Value.nilFunc] },
    { k := TK.func, size := 1, bytes := 8, zero := [Value.nilFunc] },
    { k := TK.func, size := 1, bytes := 8, zero := [Value.nilFunc] },
    { k := TK.func, size := 1, bytes := 8, zero := [Value.nilFunc] },
    { k := TK.func, size := 1, bytes := 8, zero := [Value.nilFunc] },
    { k := TK.func, size := 1, bytes := 8, zero := [Value.nilFunc] },
    { k := TK.func, size := 1, bytes := 8, zero := [Value.nilFunc] },
    { k := TK.func, size := 1, bytes := 8, zero := [Value.nilFunc] },
    { k := TK.tuple, size := 1, bytes := 0,
      zero := [Value.tuple { toList := [Value.int IntKind.i64 (0), Value.bool false] }] },
    { k := TK.func, size := 1, bytes := 8, zero := [Value.nilFunc] },
    { k := TK.func, size := 1, bytes := 8, zero := [Value.nilFunc] },
    { k := TK.func, size := 1, bytes := 8, zero := [Value.nilFunc] },
    { k := TK.func, size := 1, bytes := 8, zero := [Value.nilFunc] },
    { k := TK.func, size := 1, bytes := 8, zero := [Value.nilFunc] },
    { k := TK.slice 4, size := 1, bytes := 24, zero := [Value.slice none 0 0] },
    { k := TK.func, size := 1, bytes := 8, zero := [Value.nilFunc] },
    { k := TK.func, size := 1, bytes := 8, zero := [Value.nilFunc] },
    { k := TK.func, size := 1, bytes := 8, zero := [Value.nilFunc] },
    { k := TK.func, size := 1, bytes := 8, zero := [Value.nilFunc] },
    { k := TK.func, size := 1, bytes := 8, zero := [Value.nilFunc] },
    { k := TK.func, size := 1, bytes := 8, zero := [Value.nilFunc] },
    { k := TK.func, size := 1, bytes := 8, zero := [Value.nilFunc] },
    { k := TK.ptr 22, size := 1, bytes := 8, zero := [Value.pointer none] },
    { k := TK.ptr 5, size := 1, bytes := 8, zero := [Value.pointer none] },
    { k := TK.slice 129, size := 1, bytes := 24, zero := [Value.slice none 0 0] },
    { k := TK.func, size := 1, bytes := 8, zero := [Value.nilFunc] },
    { k := TK.ptr 4, size := 1, bytes := 8, zero := [Value.pointer none] },
    { k := TK.func, size := 1, bytes := 8, zero := [Value.nilFunc] },
    { k := TK.func, size := 1, bytes := 8, zero := [Value.nilFunc] },
    { k := TK.func, size := 1, bytes := 8, zero := [Value.nilFunc] },
    { k := TK.func, size := 1, bytes := 8, zero := [Value.nilFunc] },
    { k := TK.func, size := 1, bytes := 8, zero := [Value.nilFunc] },
    { k := TK.int IntKind.u64, size := 1, bytes := 8, zero := [Value.int IntKind.u64 (0)], key := true },
    { k := TK.func, size := 1, bytes := 8, zero := [Value.nilFunc] },
    { k := TK.int IntKind.u64, size := 1, bytes := 8, zero := [Value.int IntKind.u64 (0)], key := true },
    { k := TK.func, size := 1, bytes := 8, zero := [Value.nilFunc] },
    { k := TK.func, size := 1, bytes := 8, zero := [Value.nilFunc] },
    { k := TK.func, size := 1, bytes := 8, zero := [Value.nilFunc] },
    { k := TK.func, size := 1, bytes := 8, zero := [Value.nilFunc] },
    { k := TK.func, size := 1, bytes := 8, zero := [Value.nilFunc] },
    { k := TK.slice 31, size := 1, bytes := 24, zero := [Value.slice none 0 0] },
    { k := TK.tuple, size := 1, bytes := 0,
      zero := [Value.tuple { toList := [Value.int IntKind.u64 (0), Value.int IntKind.u64 (0)] }] },
    { k := TK.func, size := 1, bytes := 8, zero := [Value.nilFunc] },
    { k := TK.func, size := 1, bytes := 8, zero := [Value.nilFunc] },
    { k := TK.func, size := 1, bytes := 8, zero := [Value.nilFunc] },
    { k := TK.func, size := 1, bytes := 8, zero := [Value.nilFunc] },
    { k := TK.func, size := 1, bytes := 8, zero := [Value.nilFunc] },
    { k := TK.tuple, size := 1, bytes := 0,
      zero := [Value.tuple { toList := [Value.int IntKind.u32 (0), Value.int IntKind.u32 (0)] }] },
    { k := TK.func, size := 1, bytes := 8, zero := [Value.nilFunc] },
    { k := TK.tuple, size := 1, bytes := 0,
      zero := [Value.tuple { toList := [Value.int IntKind.u64 (0), Value.int IntKind.u64 (0)] }] },
    { k := TK.func, size := 1, bytes := 8, zero := [Value.nilFunc] },
    { k := TK.func, size := 1, bytes := 8, zero := [Value.nilFunc] },
    { k := TK.func, size := 1, bytes := 8, zero := [Value.nilFunc] },
    { k := TK.func, size := 1, bytes := 8, zero := [Value.nilFunc] },
    { k := TK.func, size := 1, bytes := 8, zero := [Value.nilFunc] },
    { k := TK.func, size := 1, bytes := 8, zero := [Value.nilFunc] },
    { k := TK.func, size := 1, bytes := 8, zero := [Value.nilFunc] },
    { k := TK.func, size := 1, bytes := 8, zero := [Value.nilFunc] },
    { k := TK.struct [(0, 17), (1, 17), (2, 17), (3, 9)], size := 4, bytes := 40,
      zero := [Value.pointer none, Value.pointer none, Value.pointer none, Value.string { data := { toList := [] } }] },
    { k := TK.struct [(0, 17), (1, 17), (2, 17), (3, 9)], size := 4, bytes := 40,
      zero := [Value.pointer none, Value.pointer none, Value.pointer none, Value.string { data := { toList := [] } }] },
    { k := TK.array 0 16, size := 0, bytes := 0, zero := [] },
    { k := TK.struct [(0, 163)], size := 0, bytes := 0, zero := [] },
    { k := TK.struct [(0, 163)], size := 0, bytes := 0, zero := [] },
    { k := TK.func, size := 1, bytes := 8, zero := [Value.nilFunc] },
    { k := TK.int IntKind.u8, size := 1, bytes := 1, zero := [Value.int IntKind.u8 (0)], key := true },
    { k := TK.int IntKind.u8, size := 1, bytes := 1, zero := [Value.int IntKind.u8 (0)], key := true },
    { k := TK.func, size := 1, bytes := 8, zero := [Value.nilFunc] },
    { k := TK.int IntKind.i32, size := 1, bytes := 4, zero := [Value.int IntKind.i32 (0)], key := true },
    { k := TK.int IntKind.i32, size := 1, bytes := 4, zero := [Value.int IntKind.i32 (0)], key := true },
    {
      k :=
        TK.struct
          [(0, 12), (1, 12), (2, 22), (3, 167), (4, 5), (5, 5), (6, 168), (7, 169), (8, 126), (9, 170), (10, 171)],
      size := 11, bytes := 48,
      zero :=
        [Value.int IntKind.u64 (0), Value.int IntKind.u64 (0), Value.int IntKind.u32 (0),
          Value.int IntKind.u8 (0), Value.int IntKind.u8 (0), Value.int IntKind.u8 (0),
          Value.int IntKind.u8 (0), Value.nilFunc, Value.pointer none, Value.int IntKind.i32 (0),
          Value.int IntKind.i32 (0)] },
    {
      k :=
        TK.struct
          [(0, 12), (1, 12), (2, 22), (3, 167), (4, 5), (5, 5), (6, 168), (7, 169), (8, 126), (9, 170), (10, 171)],
      size := 11, bytes := 48,
      zero :=
        [Value.int IntKind.u64 (0), Value.int IntKind.u64 (0), Value.int IntKind.u32 (0),
          Value.int IntKind.u8 (0), Value.int IntKind.u8 (0), Value.int IntKind.u8 (0),
          Value.int IntKind.u8 (0), Value.nilFunc, Value.pointer none, Value.int IntKind.i32 (0),
          Value.int IntKind.i32 (0)] },
    { k := TK.other, size := 1, bytes := 8, zero := [Value.pointer none] }]
theorem tab_ok : TabOk Go.Proofs.Tryz.prog tab := tabOk_of _ _ 175 (by kernel_rfl)
end Go.Proofs.YtjpfofmkgdjelaaGreat
/- The data of layer 19, and what is said of lists. -/
set_option linter.unusedVariables false
set_option linter.unusedSimpArgs false
namespace Go.Proofs.YtjpfofmkgdjelaaGreat
open Go.RowKit
open Go.Proofs.Tryz (prog)
theorem mixed : prog.follows .mixedOrders = true := rfl

structure Leg where
  set : Bool
  ns : List UInt32
deriving DecidableEq
structure Attrs where
  origin : UInt8
  path : List Leg
  next : UInt32
  hasMed : Bool
  med : UInt32
  hasPref : Bool
  pref : UInt32
  tags : List UInt32
deriving DecidableEq
abbrev cB (x : UInt8) : V := .int .u8 x.toNat
abbrev cW (x : UInt32) : V := .int .u32 x.toNat
abbrev cI (n : Nat) : V := .int .i64 n
def encLeg (fr : Bool) (p : Leg) : List V := [.bool p.set, encW fr p.ns]
def encLegs (fr : Bool) (l : List Leg) : V := .sl fr 2 (l.map (encLeg fr))
def cellsA (fr : Bool) (a : Attrs) : List V := [cB a.origin, encLegs fr a.path, cW a.next, .bool a.hasMed, cW a.med, .bool a.hasPref, cW a.pref, encW fr a.tags]
def encA (fr : Bool) (a : Attrs) : V := .agg (cellsA fr a)

theorem encLeg_free (fr : Bool) (p : Leg) : ∀ v ∈ encLeg fr p, Free v := by
  intro v hv
  simp [encLeg] at hv
  rcases hv with rfl | rfl
  · exact .bool
  · exact encW_free _ _
theorem rowsLegs_free (fr : Bool) (l : List Leg) : ∀ x ∈ l.map (encLeg fr), ∀ v ∈ x, Free v := by
  intro x hx v hv
  obtain ⟨p, _, rfl⟩ := List.mem_map.1 hx
  exact encLeg_free fr p v hv
theorem encLegs_free (fr : Bool) (l : List Leg) : Free (encLegs fr l) := .sl (rowsLegs_free fr l)
theorem cellsA_free (fr : Bool) (a : Attrs) : ∀ v ∈ cellsA fr a, Free v := by
  intro v hv
  simp [cellsA] at hv
  rcases hv with rfl | rfl | rfl | rfl | rfl | rfl | rfl | rfl
  all_goals first | exact .int | exact .bool | exact encLegs_free _ _ | exact encW_free _ _
theorem encA_free (fr : Bool) (a : Attrs) : Free (encA fr a) := .agg (cellsA_free fr a)
theorem encLegs_cold (l : List Leg) : Cold (encLegs false l) := .sl (by
  intro x hx v hv
  obtain ⟨p, _, rfl⟩ := List.mem_map.1 hx
  simp [encLeg] at hv
  rcases hv with rfl | rfl
  · exact .bool
  · exact encW_cold _)
theorem encLegs_fresh (l : List Leg) : Fresh (encLegs true l) := .sl (by
  intro x hx v hv
  obtain ⟨p, _, rfl⟩ := List.mem_map.1 hx
  simp [encLeg] at hv
  rcases hv with rfl | rfl
  · exact .bool
  · exact encW_fresh _)
theorem encA_cold (a : Attrs) : Cold (encA false a) := .agg (by
  intro v hv
  simp [cellsA] at hv
  rcases hv with rfl | rfl | rfl | rfl | rfl | rfl | rfl | rfl
  all_goals first | exact .int | exact .bool | exact encLegs_cold _ | exact encW_cold _)
theorem encA_fresh (a : Attrs) : Fresh (encA true a) := .agg (by
  intro v hv
  simp [cellsA] at hv
  rcases hv with rfl | rfl | rfl | rfl | rfl | rfl | rfl | rfl
  all_goals first | exact .int | exact .bool | exact encLegs_fresh _ | exact encW_fresh _)

/-- Blocks of values without ids, kept as they are. -/
def FreeB : Blk → Prop
  | .var _ _ cells => ∀ v ∈ cells, Free v
  | .arr _ _ _ _ rows => ∀ x ∈ rows, ∀ v ∈ x, Free v
  | .loop .. => False
theorem LeL.free {h : Heap} {nx nx' : Nat} {ρ : Nat → Nat} {Z : List Nat} : ∀ {cells : List V}, (∀ v ∈ cells, Free v) → LeL h nx ρ nx' Z cells cells
  | [], _ => trivial
  | v :: r, hf => ⟨.free (hf v (by simp)), LeL.free (fun v hv => hf v (by simp [hv]))⟩
theorem LeB.free {h : Heap} {nx nx' : Nat} {ρ : Nat → Nat} {Z : List Nat} {blk : Blk} (hf : FreeB blk) : LeB h nx ρ nx' Z blk blk := by
  cases blk with
  | var fr ty cells => exact ⟨id, rfl, LeL.free hf⟩
  | arr fr ex ty sz rows => exact .arr hf
  | loop => exact hf.elim
theorem LeB.rows {h : Heap} {nx nx' : Nat} {ρ : Nat → Nat} {Z : List Nat} {fr ex : Bool} {ty sz : Nat} {rows rows' : List (List V)} (hl : rows.length = rows'.length)
    (hr : ∀ (j : Nat) (x x' : List V), rows[j]? = some x → rows'[j]? = some x' → LeL h nx ρ nx' Z x x') : LeB h nx ρ nx' Z (.arr fr ex ty sz rows) (.arr fr ex ty sz rows') := by
  have key : ∀ (rows rows' : List (List V)), rows.length = rows'.length → (∀ (j : Nat) (x x' : List V), rows[j]? = some x → rows'[j]? = some x' → LeL h nx ρ nx' Z x x') →
      rows.map List.length = rows'.map List.length ∧ ∀ (j : Nat) (v v' : V), rows.flatten[j]? = some v → rows'.flatten[j]? = some v' → LeV h nx ρ nx' Z v v' := by
    intro rows
    induction rows with
    | nil => intro rows' hl _; cases rows' with
      | nil => simp
      | cons _ _ => simp at hl
    | cons x r ih =>
      intro rows' hl hr
      cases rows' with
      | nil => simp at hl
      | cons x' r' =>
        obtain ⟨q1, q2⟩ := ih r' (by simpa using hl) (fun j y y' h1 h2 => hr (j + 1) y y' (by simpa using h1) (by simpa using h2))
        have hx := (hr 0 x x' rfl rfl).out
        refine ⟨by simp [q1, hx.1], fun j v v' h1 h2 => ?_⟩
        rw [List.flatten_cons] at h1 h2
        rcases Nat.lt_or_ge j x.length with hj | hj
        · rw [List.getElem?_append_left hj] at h1
          rw [List.getElem?_append_left (by omega)] at h2
          exact hx.2 j v v' h1 h2
        · rw [List.getElem?_append_right hj] at h1
          rw [List.getElem?_append_right (by omega), ← hx.1] at h2
          exact q2 _ v v' h1 h2
  obtain ⟨h1, h2⟩ := key rows rows' hl hr
  exact ⟨id, id, rfl, rfl, h1, h2⟩
theorem LeB.set {h : Heap} {nx nx' : Nat} {ρ : Nat → Nat} {Z : List Nat} {fr ex : Bool} {ty sz i : Nat} {rows : List (List V)} {x x' : List V} (hf : ∀ x ∈ rows, ∀ v ∈ x, Free v) (hx : LeL h nx ρ nx' Z x x') :
    LeB h nx ρ nx' Z (.arr fr ex ty sz (rows.set i x)) (.arr fr ex ty sz (rows.set i x')) :=
  LeB.rows (by simp) fun j y y' h1 h2 => by
    rw [List.getElem?_set] at h1 h2
    split at h1
    · rename_i e
      subst e
      split at h1
      · rename_i hlt
        rw [if_pos rfl, if_pos hlt] at h2
        cases h1; cases h2
        exact hx
      · cases h1
    · rename_i e
      rw [if_neg e] at h2
      rw [h1] at h2; cases h2
      exact LeL.free (hf _ (List.mem_of_getElem? h1))
theorem ne_none_of {ob : Option Blk} {x : Blk} (h : ob = some x) : ob ≠ none := by rw [h]; simp
def sameH (h : Heap) (nx' : Nat) : Heap → Prop
  | [] => True
  | (b, some blk) :: r => (hget h b = some blk ∧ FreeB blk ∧ b < nx') ∧ sameH h nx' r
  | (_, none) :: r => sameH h nx' r
theorem sameH.out {h : Heap} {nx nx' : Nat} : ∀ {h' : Heap}, sameH h nx' h' → leHL h nx id nx' [] h'
  | [], _ => trivial
  | (b, none) :: r, hh => sameH.out (h' := r) hh
  | (b, some blk) :: r, hh => ⟨⟨hh.1.2.2, .inl ⟨by simp, blk, hh.1.1, LeB.free hh.1.2.1⟩⟩, sameH.out hh.2⟩
theorem LeH.same {base : Nat} {h h' : Heap} {nx nx' : Nat} (hs : sameH h nx' h') (hn : base ≤ nx') : LeH base h nx id nx' [] h' :=
  LeH.of hs.out (fun _ _ _ _ h => h) (fun _ _ => rfl) hn (by simp)
theorem idxW {l : List UInt32} {i : Nat} (h : i < l.length) : (l.map fun x => [V.int .u32 x.toNat])[(i : Int).toNat]? = some [.int .u32 l[i].toNat] := by simp [h]
theorem idxB {l : List UInt8} {i : Nat} (h : i < l.length) : (l.map fun x => [V.int .u8 x.toNat])[(i : Int).toNat]? = some [.int .u8 l[i].toNat] := by simp [h]
theorem idxL {fr : Bool} {l : List Leg} {i : Nat} (h : i < l.length) : (l.map (encLeg fr))[(i : Int).toNat]? = some (encLeg fr l[i]) := by simp [h]
theorem wrap64_succ {n i : Nat} (h : i < n) (hn : n ≤ maxLen) : IntKind.i64.wrap ((i : Int) + 1) = ((i + 1 : Nat) : Int) := by
  rw [wrap64] <;> unfold maxLen at hn <;> omega
theorem wrap64_pred {n i : Nat} (h : i < n) (hn : n ≤ maxLen) : IntKind.i64.wrap (((i + 1 : Nat) : Int) - 1) = i := by
  rw [wrap64] <;> unfold maxLen at hn <;> omega

theorem all_take_succ {α : Type} {p : α → Bool} {l : List α} {i : Nat} (h : i < l.length) : (l.take (i + 1)).all p = ((l.take i).all p && p l[i]) := by
  rw [List.take_succ_eq_append_getElem h, List.all_append]; simp
theorem all_false {α : Type} {p : α → Bool} {l : List α} {i : Nat} (h : i < l.length) (hp : p l[i] = false) : l.all p = false := by
  rw [List.all_eq_false]
  exact ⟨l[i], List.getElem_mem h, by simp [hp]⟩
end Go.Proofs.YtjpfofmkgdjelaaGreat
/- What is read at the types of layer 19. -/
set_option linter.unusedVariables false
set_option linter.unusedSimpArgs false
namespace Go.Proofs.YtjpfofmkgdjelaaGreat
open Go.RowKit Go.ChangeShapes Go.WideShapes
open Go.Proofs.Tryz (prog)

theorem rep_words : RepOk prog 31 (fun l : List UInt32 => [encW false l]) :=
  rep_slice (cells := fun x : UInt32 => [.int .u32 x.toNat]) Go.Proofs.Tryz.underlying31 (by kernel_rfl) (by decide) (fun _ => rfl) (rep_u32 Go.Proofs.Tryz.underlying22)
theorem rep_bytes : RepOk prog 51 (fun l : List UInt8 => [encB false l]) :=
  rep_slice (cells := fun x : UInt8 => [.int .u8 x.toNat]) Go.Proofs.Tryz.underlying51 (by kernel_rfl) (by decide) (fun _ => rfl) (rep_u8 Go.Proofs.Tryz.underlying5)
theorem vrs_join {G : Gh} {w : World} {vs : List V} {us : List Value} {v : V} {k n : Nat} (h : vrs G w vs (us.take n)) (hv : vrs G w [v] ((us.drop k).take 1)) (hk : k = n) (hn : n < us.length) : vrs G w (vs ++ [v]) (us.take (n + 1)) := by
  subst hk
  rw [List.take_succ_eq_append_getElem hn]
  refine h.append ?_
  rw [List.drop_eq_getElem_cons hn, List.take_succ_cons, List.take_zero] at hv
  exact hv
theorem one_join {us : List Value} {k n : Nat} (h : ∀ u ∈ us.take n, u.oneCell' = true) (hv : ∀ u ∈ (us.drop k).take 1, u.oneCell' = true) (hk : k = n) (hn : n < us.length) : ∀ u ∈ us.take (n + 1), u.oneCell' = true := by
  subst hk
  rw [List.take_succ_eq_append_getElem hn]
  intro u hu
  rcases List.mem_append.1 hu with hu | hu
  · exact h u hu
  · refine hv u ?_
    rw [List.drop_eq_getElem_cons hn, List.take_succ_cons, List.take_zero]
    exact hu
theorem vrs_take0 {G : Gh} {w : World} {us : List Value} : vrs G w [] (us.take 0) := by simp [vrs]
theorem field_at {H : Type} {enc : TypeId × Value → H} {w : World} {sp : Nat → Bool} {t : TypeId} {fs : Array Field} {fuel : Nat} {cs : List Value} {x : DataW H × List MemPlace} (ht : prog.underlying t = some (.struct fs)) (h : DataW.trod enc prog w 0 sp true fuel t cs = some x)
    (i : Nat) {f : Field} (hf : fs[i]? = some f) {α : Type} {cells : α → List V} (he : RepOk prog f.type cells) (ho : f.offset = i) (hz : prog.cellsOf f.type = 1) : ∃ a, vrs (G0 w) w (cells a) ((cs.drop i).take 1) ∧ ∀ u ∈ (cs.drop i).take 1, u.oneCell' = true := by
  have := field_of ht h hf he
  rw [ho, hz] at this
  exact this
theorem rep_leg : RepOk prog 65 (encLeg false) := fun enc w sp fuel cs x h => by
  have ht := Go.Proofs.Tryz.underlying65
  obtain ⟨xs, n, _, _, hlen, _, _⟩ := DataW.trod_struct ht h
  have hl : cs.length = 2 := hlen.trans (by kernel_rfl)
  obtain ⟨b, h0, o0⟩ := field_at ht h 0 rfl (rep_bool Go.Proofs.Tryz.underlying4) rfl (by kernel_rfl)
  obtain ⟨l, h1, o1⟩ := field_at ht h 1 rfl rep_words rfl (by kernel_rfl)
  have j1 := vrs_join (vrs_join vrs_take0 h0 rfl (by omega)) h1 rfl (by omega)
  have k1 := one_join (one_join (by simp) o0 rfl (by omega)) o1 rfl (by omega)
  rw [List.take_of_length_le (by omega)] at j1 k1
  exact ⟨⟨b, l⟩, j1, k1⟩
theorem rep_legs : RepOk prog 30 (fun l : List Leg => [encLegs false l]) :=
  rep_slice (cells := encLeg false) Go.Proofs.Tryz.underlying30 (by kernel_rfl) (by decide) (fun _ => rfl) rep_leg
theorem rep_attrs : RepOk prog 33 (cellsA false) := fun enc w sp fuel cs x h => by
  have ht := Go.Proofs.Tryz.underlying33
  obtain ⟨xs, n, _, _, hlen, _, _⟩ := DataW.trod_struct ht h
  have hl : cs.length = 8 := hlen.trans (by kernel_rfl)
  obtain ⟨a0, h0, o0⟩ := field_at ht h 0 rfl (rep_u8 Go.Proofs.Tryz.underlying5) rfl (by kernel_rfl)
  obtain ⟨a1, h1, o1⟩ := field_at ht h 1 rfl rep_legs rfl (by kernel_rfl)
  obtain ⟨a2, h2, o2⟩ := field_at ht h 2 rfl (rep_u32 Go.Proofs.Tryz.underlying22) rfl (by kernel_rfl)
  obtain ⟨a3, h3, o3⟩ := field_at ht h 3 rfl (rep_bool Go.Proofs.Tryz.underlying4) rfl (by kernel_rfl)
  obtain ⟨a4, h4, o4⟩ := field_at ht h 4 rfl (rep_u32 Go.Proofs.Tryz.underlying22) rfl (by kernel_rfl)
  obtain ⟨a5, h5, o5⟩ := field_at ht h 5 rfl (rep_bool Go.Proofs.Tryz.underlying4) rfl (by kernel_rfl)
  obtain ⟨a6, h6, o6⟩ := field_at ht h 6 rfl (rep_u32 Go.Proofs.Tryz.underlying22) rfl (by kernel_rfl)
  obtain ⟨a7, h7, o7⟩ := field_at ht h 7 rfl rep_words rfl (by kernel_rfl)
  have j := vrs_join (vrs_join (vrs_join (vrs_join (vrs_join (vrs_join (vrs_join (vrs_join vrs_take0 h0 rfl (by omega)) h1 rfl (by omega)) h2 rfl (by omega)) h3 rfl (by omega)) h4 rfl (by omega)) h5 rfl (by omega)) h6 rfl (by omega)) h7 rfl (by omega)
  have k := one_join (one_join (one_join (one_join (one_join (one_join (one_join (one_join (by simp) o0 rfl (by omega)) o1 rfl (by omega)) o2 rfl (by omega)) o3 rfl (by omega)) o4 rfl (by omega)) o5 rfl (by omega)) o6 rfl (by omega)) o7 rfl (by omega)
  rw [List.take_of_length_le (by omega)] at j k
  exact ⟨⟨a0, a1, a2, a3, a4, a5, a6, a7⟩, j, k⟩
theorem arg_attrs : ArgOk prog 33 (encA false) := arg_struct Go.Proofs.Tryz.underlying33 rep_attrs
theorem arg_bytes : ArgOk prog 51 (encB false) := arg_slice Go.Proofs.Tryz.underlying51 rep_bytes
theorem arg_i64 : ArgOk prog 3 (fun n : I64 => .int .i64 n.1) := arg_int Go.Proofs.Tryz.underlying3 (rep_i64 Go.Proofs.Tryz.underlying3)
theorem arg_u8 : ArgOk prog 5 (fun x : UInt8 => .int .u8 x.toNat) := arg_int Go.Proofs.Tryz.underlying5 (rep_u8 Go.Proofs.Tryz.underlying5)
theorem arg_u32 : ArgOk prog 22 (fun x : UInt32 => .int .u32 x.toNat) := arg_int Go.Proofs.Tryz.underlying22 (rep_u32 Go.Proofs.Tryz.underlying22)
theorem laidOut : laidOutB prog = true := by kernel_rfl
theorem own : ownKnob prog.godebug = none := by kernel_rfl
theorem read26 : prog.readableRec 33 = true ∧ 33 < prog.types.size := ⟨by kernel_rfl, of_decide_eq_true (by kernel_rfl)⟩
theorem read30 : prog.readableRec 51 = true ∧ 51 < prog.types.size := ⟨by kernel_rfl, of_decide_eq_true (by kernel_rfl)⟩
theorem read3 : prog.readableRec 3 = true ∧ 3 < prog.types.size := ⟨by kernel_rfl, of_decide_eq_true (by kernel_rfl)⟩
theorem read5 : prog.readableRec 5 = true ∧ 5 < prog.types.size := ⟨by kernel_rfl, of_decide_eq_true (by kernel_rfl)⟩
theorem read23 : prog.readableRec 22 = true ∧ 22 < prog.types.size := ⟨by kernel_rfl, of_decide_eq_true (by kernel_rfl)⟩
end Go.Proofs.YtjpfofmkgdjelaaGreat
/- Contracts of small functions. -/
set_option linter.unusedVariables false
set_option linter.unusedSimpArgs false
namespace Go.Proofs.YtjpfofmkgdjelaaGreat
open Go.RowKit
open Go.Proofs.Tryz (prog)
attribute [local irreducible] CallV RoundV

/-- A number of bytes, the higher ahead. -/
def wordOf (b : List UInt8) : UInt32 := b.foldl (fun n c => n * 256 + c.toUInt32) 0
theorem wordOf_take {b : List UInt8} {i : Nat} (h : i < b.length) : wordOf (b.take (i + 1)) = wordOf (b.take i) * 256 + b[i].toUInt32 := by
  rw [List.take_succ_eq_append_getElem h, wordOf, List.foldl_append]; rfl
def rises : List UInt32 → Bool
  | a :: b :: r => decide (a < b) && rises (b :: r)
  | _ => true
theorem rises_take_succ {l : List UInt32} : ∀ {i : Nat} (h : i + 1 < l.length), rises (l.take (i + 2)) = (rises (l.take (i + 1)) && decide (l[i] < l[i + 1])) := by
  induction l with
  | nil => intro i h; simp at h
  | cons a l ih =>
    intro i h
    cases l with
    | nil => simp at h
    | cons b r =>
      cases i with
      | zero => simp [rises]
      | succ i =>
        have := ih (i := i) (by simpa using h)
        simp only [List.take_succ_cons, List.getElem_cons_succ] at this ⊢
        cases i with
        | zero => simp [rises] at this ⊢; rw [this]
        | succ i =>
          simp only [List.take_succ_cons, rises] at this ⊢
          rw [this]
          simp [Bool.and_assoc]
theorem rises_take_false {l : List UInt32} {i : Nat} (h : i ≤ l.length) (hf : rises (l.take i) = false) : rises l = false := by
  induction l generalizing i with
  | nil => simp [rises] at hf
  | cons a l ih =>
    cases i with
    | zero => simp [rises] at hf
    | succ i =>
      cases l with
      | nil => simp [rises] at hf
      | cons b r =>
        cases i with
        | zero => simp [rises] at hf
        | succ i =>
          have h2 := ih (i := i + 1) (by simpa using h)
          simp only [List.take_succ_cons, rises, Bool.and_eq_false_iff] at hf h2 ⊢
          rcases hf with hf | hf
          · exact .inl hf
          · exact .inr (h2 hf)

set_option maxRecDepth 100000 in
theorem rise_ok (fr : Bool) (l : List UInt32) : PCon prog 75 [encW fr l] (.bool (rises l)) := by
  refine callV_of (fn := Go.Proofs.Tryz.f75) (body := _) tab_ok mixed rfl rfl (by decide) (by simp [Go.Proofs.Tryz.f75]) ?_
  (conv => whnf)
  intro hl
  have hl : l.length ≤ maxLen := by simpa [gd] using hl
  (conv => whnf)
  refine vcg_loop tab_ok mixed (fun i : {i : Nat // i ≤ l.length ∧ rises (l.take i) = true} => ⟨[(0, encW fr l), (5, .int .i64 l.length), (6, .int .i64 i.1)], [], 0⟩) (fun i => l.length - i.1) ⟨0, Nat.zero_le _, rfl⟩ (Wk.of id [] ⟨?_, ?_, ?_, trivial⟩ (LeH.nil (Nat.le_refl _) (fun b h => by omega) (by simp))) (fun i => ?_)
  · exact .free (encW_free _ _)
  · exact .int_of (by simp)
  · exact .int_of rfl
  obtain ⟨i, hi, hr⟩ := i
  (conv => whnf)
  split
  · rename_i hc
    have hc : i < l.length := by simpa using hc
    (conv => whnf)
    split
    · rename_i h0
      obtain ⟨k, rfl⟩ : ∃ k, i = k + 1 := ⟨i - 1, by simp at h0; omega⟩
      have e1 : IntKind.i64.wrap (((k + 1 : Nat) : Int) - 1) = k := by rw [wrap64'] ; unfold maxLen at hl; omega
      refine ⟨rfl, [.int .u32 (l[k]'(by omega)).toNat], ⟨by simp only [e1]; omega, by simp only [e1]; exact idxW _⟩, ?_⟩
      (conv => whnf)
      refine ⟨rfl, [.int .u32 (l[k + 1]).toNat], ⟨by simp only; omega, idxW _⟩, ?_⟩
      (conv => whnf)
      refine ⟨by kernel_rfl, ?_⟩
      (conv => whnf)
      split
      · rename_i h1
        (conv => whnf)
        refine Ends.pure [] (.bool_of ?_) (by simp)
        symm
        refine rises_take_false (i := k + 2) (by omega) ?_
        rw [rises_take_succ hc]
        simp only [Bool.and_eq_false_iff, decide_eq_false_iff_not]
        right
        simpa [UInt32.lt_iff_toNat_lt] using h1
      · rename_i h1
        (conv => whnf)
        refine ⟨⟨k + 2, by omega, ?_⟩, Wk.of id [] ⟨?_, ?_, ?_, trivial⟩ (LeH.nil (Nat.le_refl _) (fun b h => by omega) (by simp)), by simp only; omega⟩
        · rw [rises_take_succ hc, hr]
          simpa [UInt32.lt_iff_toNat_lt] using h1
        · exact .free (encW_free _ _)
        · exact .int_of rfl
        · refine .int_of ?_
          simp only
          rw [wrap64] <;> unfold maxLen at hl <;> omega
    · rename_i h0
      have h0 : i = 0 := by simp at h0; omega
      subst h0
      (conv => whnf)
      refine ⟨by kernel_rfl, ?_⟩
      (conv => whnf)
      refine ⟨⟨1, by omega, ?_⟩, Wk.of id [] ⟨?_, ?_, ?_, trivial⟩ (LeH.nil (Nat.le_refl _) (fun b h => by omega) (by simp)), by simp only; omega⟩
      · cases l with
        | nil => rfl
        | cons a l => simp [rises]
      · exact .free (encW_free _ _)
      · exact .int_of rfl
      · exact .int_of rfl
  · rename_i hc
    have hc : i = l.length := by simp at hc; omega
    subst hc
    (conv => whnf)
    refine Ends.pure [] (.bool_of ?_) (by simp)
    simpa using hr.symm
end Go.Proofs.YtjpfofmkgdjelaaGreat
/- Contracts: what may be said of paths. -/
set_option linter.unusedVariables false
set_option linter.unusedSimpArgs false
namespace Go.Proofs.YtjpfofmkgdjelaaGreat
open Go.RowKit
open Go.Proofs.Tryz (prog)
attribute [local irreducible] CallV RoundV

set_option maxRecDepth 100000 in
theorem ref_rise_ok (fr : Bool) (l : List UInt32) : PCon prog 58 [encW fr l] (.bool (rises l)) := by
  refine callV_of (fn := Go.Proofs.Tryz.f58) (body := _) tab_ok mixed rfl rfl (by decide) (by simp [Go.Proofs.Tryz.f58]) ?_
  (conv => whnf)
  refine vcg_loop tab_ok mixed (fun i : {i : Nat // i < l.length + 1 ∧ rises (l.take (i + 1)) = true} => ⟨[(0, encW fr l), (3, .int .i64 ((i.1 + 1 : Nat) : Int))], [], 0⟩) (fun i => l.length - i.1) ⟨0, by omega, ?_⟩ (Wk.of id [] ⟨?_, ?_, trivial⟩ (LeH.nil (Nat.le_refl _) (fun b h => by omega) (by simp))) (fun i => ?_)
  · cases l with
    | nil => rfl
    | cons a l => simp [rises]
  · exact .free (encW_free _ _)
  · exact .int_of rfl
  obtain ⟨i, hi, hr⟩ := i
  (conv => whnf)
  intro hl
  have hl : l.length ≤ maxLen := by simpa [gd] using hl
  (conv => whnf)
  split
  · rename_i hc
    have hc : i + 1 < l.length := by simp at hc; omega
    (conv => whnf)
    refine ⟨rfl, [.int .u32 (l[i]'(by omega)).toNat], ⟨by simp only [wrap64_pred hc hl, show (i : Nat) < l.length by omega, wrap64_pred (show i < l.length by omega) hl]; omega, by simp only [wrap64_pred (show i < l.length by omega) hl]; exact idxW _⟩, ?_⟩
    (conv => whnf)
    refine ⟨rfl, [.int .u32 (l[i + 1]).toNat], ⟨by simp only; omega, idxW _⟩, ?_⟩
    (conv => whnf)
    refine ⟨by kernel_rfl, ?_⟩
    (conv => whnf)
    split
    · rename_i h1
      (conv => whnf)
      refine Ends.pure [] (.bool_of ?_) (by simp)
      symm
      refine rises_take_false (i := i + 2) (by omega) ?_
      rw [rises_take_succ hc]
      simp only [Bool.and_eq_false_iff, decide_eq_false_iff_not]
      right
      simpa [UInt32.lt_iff_toNat_lt] using h1
    · rename_i h1
      (conv => whnf)
      refine ⟨⟨i + 1, by omega, ?_⟩, Wk.of id [] ⟨?_, ?_, trivial⟩ (LeH.nil (Nat.le_refl _) (fun b h => by omega) (by simp)), by simp only; omega⟩
      · rw [rises_take_succ hc, hr]
        simpa [UInt32.lt_iff_toNat_lt] using h1
      · exact .free (encW_free _ _)
      · exact .int_of (wrap64_succ hc hl)
  · rename_i hc
    have hc : l.length ≤ i + 1 := by simp at hc; omega
    (conv => whnf)
    refine Ends.pure [] (.bool_of ?_) (by simp)
    rw [List.take_of_length_le hc] at hr
    exact hr.symm

set_option maxRecDepth 100000 in
theorem words_ok (fr fr' : Bool) (a b : List UInt32) : PCon prog 50 [encW fr a, encW fr' b] (.bool (decide (a = b))) := by
  refine callV_of (fn := Go.Proofs.Tryz.f50) (body := _) tab_ok mixed rfl rfl (by decide) (by simp [Go.Proofs.Tryz.f50]) ?_
  (conv => whnf)
  intro ha
  have ha : a.length ≤ maxLen := by simpa [gd] using ha
  (conv => whnf)
  intro hb
  (conv => whnf)
  split
  · rename_i hne
    (conv => whnf)
    refine Ends.pure [] (.bool_of ?_) (by simp)
    symm
    rw [decide_eq_false_iff_not]
    rintro rfl
    simp at hne
  · rename_i hne
    have hlen : a.length = b.length := by simp at hne; omega
    (conv => whnf)
    refine vcg_loop tab_ok mixed (fun i : {i : Nat // i ≤ a.length ∧ a.take i = b.take i} => ⟨[(0, encW fr a), (1, encW fr' b), (5, .int .i64 i.1)], [], 0⟩) (fun i => a.length - i.1) ⟨0, by omega, rfl⟩ (Wk.of id [] ⟨?_, ?_, ?_, trivial⟩ (LeH.nil (Nat.le_refl _) (fun b h => by omega) (by simp))) (fun i => ?_)
    · exact .free (encW_free _ _)
    · exact .free (encW_free _ _)
    · exact .int_of rfl
    obtain ⟨i, hi, hr⟩ := i
    (conv => whnf)
    intro _
    (conv => whnf)
    split
    · rename_i hc
      have hc : i < a.length := by simpa using hc
      (conv => whnf)
      refine ⟨rfl, _, ⟨by simp only; omega, idxW hc⟩, ?_⟩
      (conv => whnf)
      refine ⟨rfl, _, ⟨by simp only; omega, idxW (show i < b.length by omega)⟩, ?_⟩
      (conv => whnf)
      refine ⟨by kernel_rfl, ?_⟩
      (conv => whnf)
      split
      · rename_i h1
        (conv => whnf)
        refine Ends.pure [] (.bool_of ?_) (by simp)
        symm
        rw [decide_eq_false_iff_not]
        rintro rfl
        simp at h1
      · rename_i h1
        have h1 : a[i] = b[i] := by
          simp at h1
          exact UInt32.toNat_inj.1 (by omega)
        (conv => whnf)
        refine ⟨⟨i + 1, by omega, ?_⟩, Wk.of id [] ⟨?_, ?_, ?_, trivial⟩ (LeH.nil (Nat.le_refl _) (fun b h => by omega) (by simp)), by simp only; omega⟩
        · rw [List.take_succ_eq_append_getElem hc, List.take_succ_eq_append_getElem (show i < b.length by omega), hr, h1]
        · exact .free (encW_free _ _)
        · exact .free (encW_free _ _)
        · exact .int_of (wrap64_succ hc ha)
    · rename_i hc
      have hc : i = a.length := by simp at hc; omega
      subst hc
      (conv => whnf)
      refine Ends.pure [] (.bool_of ?_) (by simp)
      symm
      rw [decide_eq_true_iff]
      rw [List.take_length, hlen, List.take_length] at hr
      exact hr

/-- May a part be said? -/
def legOk (p : Leg) : Bool := decide (1 ≤ p.ns.length) && decide (p.ns.length ≤ 32) && (!p.set || rises p.ns) && p.ns.all (· != 0)
def pathOk (l : List Leg) : Bool := decide (l.length ≤ 8) && l.all legOk

set_option maxRecDepth 100000 in
theorem ref_part_ok (fr : Bool) (p : Leg) : PCon prog 101 [.agg (encLeg fr p)] (.bool (legOk p)) := by
  refine callV_of (fn := Go.Proofs.Tryz.f101) (body := _) tab_ok mixed rfl rfl (by decide) (by simp [Go.Proofs.Tryz.f101]) ?_
  (conv => whnf)
  intro hl
  have hl : p.ns.length ≤ maxLen := by simpa [gd] using hl
  have fin : ∀ {s : St}, legOk p = false → ∃ v1 h' nx', Ends 0 s (.bool false) v1 h' nx' ∧ (v1 = .bool (legOk p) ∧ h' = [] ∧ nx' = 0) := fun h => Ends.pure [] (.bool_of h.symm) (by simp)
  (conv => whnf)
  split
  · rename_i h0
    (conv => whnf)
    exact fin (by simp at h0; simp [legOk]; omega)
  · rename_i h0
    have h0 : 1 ≤ p.ns.length := by simp at h0; omega
    (conv => whnf)
    intro _
    (conv => whnf)
    split
    · rename_i h1
      (conv => whnf)
      exact fin (by simp at h1; simp [legOk]; omega)
    · rename_i h1
      have h1 : p.ns.length ≤ 32 := by simp at h1; omega
      (conv => whnf)
      split
      case' h_1 =>
        rename_i h2
        (conv => whnf)
        refine callV_pure (ref_rise_ok fr p.ns) ⟨.free (encW_free _ _), trivial⟩ ?_
        (conv => whnf)
        split
        · rename_i h3
          (conv => whnf)
          exact fin (by simp at h3; simp [legOk, h2, h3])
        rename_i h3
        have hr : (!p.set || rises p.ns) = true := by simp at h3; simp [h3]
        (conv => whnf)
      case' h_2 =>
        rename_i h2
        have hr : (!p.set || rises p.ns) = true := by simp [h2]
        (conv => whnf)
      all_goals
        refine vcg_loop tab_ok mixed (fun i : {i : Nat // i ≤ p.ns.length ∧ (p.ns.take i).all (· != 0) = true} => ⟨[(1, .ptr 0 0), (3, cI i.1)], [(0, some (.var true 65 (encLeg fr p)))], 1⟩) (fun i => p.ns.length - i.1) ⟨0, by omega, rfl⟩ (Wk.of id [] ⟨?_, ?_, trivial⟩ (LeH.same ⟨⟨rfl, encLeg_free _ _, by omega⟩, trivial⟩ (by omega))) (fun i => ?_)
        · exact .ptr rfl (by omega)
        · exact .int_of rfl
        obtain ⟨i, hi, hz⟩ := i
        (conv => whnf)
        intro _
        (conv => whnf)
        split
        · rename_i hc
          have hc : i < p.ns.length := by simpa using hc
          (conv => whnf)
          refine ⟨rfl, _, ⟨by simp only; omega, idxW hc⟩, ?_⟩
          (conv => whnf)
          split
          · rename_i h4
            (conv => whnf)
            refine fin ?_
            have := all_false (p := (· != 0)) hc (by
              simp at h4
              simp only [bne_eq_false_iff_eq]
              exact UInt32.toNat_inj.1 (by simp; omega))
            simp [legOk, this]
          · rename_i h4
            (conv => whnf)
            refine ⟨⟨i + 1, by omega, ?_⟩, Wk.of id [] ⟨?_, ?_, trivial⟩ (LeH.same ⟨⟨rfl, encLeg_free _ _, by omega⟩, trivial⟩ (by omega)), by simp only; omega⟩
            · rw [all_take_succ hc, hz]
              simp at h4
              simp only [Bool.true_and, bne_iff_ne, ne_eq]
              intro e
              rw [e] at h4
              simp at h4
            · exact .ptr rfl (by omega)
            · exact .int_of (wrap64_succ hc hl)
        · rename_i hc
          have hc : i = p.ns.length := by simp at hc; omega
          subst hc
          (conv => whnf)
          refine Ends.pure [] (.bool_of ?_) (by simp)
          rw [List.take_length] at hz
          simp only [legOk, hr, hz, Bool.and_true]
          simp [h0, h1]
end Go.Proofs.YtjpfofmkgdjelaaGreat
/- Contracts: paths, and what may be said. -/
set_option linter.unusedVariables false
set_option linter.unusedSimpArgs false
namespace Go.Proofs.YtjpfofmkgdjelaaGreat
open Go.RowKit
open Go.Proofs.Tryz (prog)
attribute [local irreducible] CallV RoundV

set_option maxRecDepth 100000 in
theorem ref_path_ok (fr : Bool) (l : List Leg) : PCon prog 57 [encLegs fr l] (.bool (pathOk l)) := by
  refine callV_of (fn := Go.Proofs.Tryz.f57) (body := _) tab_ok mixed rfl rfl (by decide) (by simp [Go.Proofs.Tryz.f57]) ?_
  (conv => whnf)
  intro hl
  have hl : l.length ≤ maxLen := by simpa [gd] using hl
  (conv => whnf)
  split
  · rename_i h0
    (conv => whnf)
    exact Ends.pure [] (.bool_of (by simp at h0; simp [pathOk]; omega)) (by simp)
  rename_i h0
  have h0 : l.length ≤ 8 := by simp at h0; omega
  (conv => whnf)
  refine vcg_loop tab_ok mixed (fun i : {i : Nat // i ≤ l.length ∧ (l.take i).all legOk = true} => ⟨[(0, encLegs fr l), (3, cI i.1)], [], 0⟩) (fun i => l.length - i.1) ⟨0, by omega, rfl⟩ (Wk.of id [] ⟨?_, ?_, trivial⟩ (LeH.nil (Nat.le_refl _) (fun b h => by omega) (by simp))) (fun i => ?_)
  · exact .free (encLegs_free _ _)
  · exact .int_of rfl
  obtain ⟨i, hi, hz⟩ := i
  (conv => whnf)
  intro _
  (conv => whnf)
  split
  · rename_i hc
    have hc : i < l.length := by simpa using hc
    (conv => whnf)
    refine ⟨rfl, _, ⟨by simp only; omega, idxL hc⟩, ?_⟩
    (conv => whnf)
    refine callV_pure (ref_part_ok fr l[i]) ⟨.free (.agg (encLeg_free _ _)), trivial⟩ ?_
    (conv => whnf)
    split
    · rename_i h1
      (conv => whnf)
      refine Ends.pure [] (.bool_of ?_) (by simp)
      have := all_false (p := legOk) hc (by simpa using h1)
      simp [pathOk, this]
    · rename_i h1
      (conv => whnf)
      refine ⟨⟨i + 1, by omega, ?_⟩, Wk.of id [] ⟨?_, ?_, trivial⟩ (LeH.nil (Nat.le_refl _) (fun b h => by omega) (by simp)), by simp only; omega⟩
      · rw [all_take_succ hc, hz]; simpa using h1
      · exact .free (encLegs_free _ _)
      · exact .int_of (wrap64_succ hc hl)
  · rename_i hc
    have hc : i = l.length := by simp at hc; omega
    subst hc
    (conv => whnf)
    refine Ends.pure [] (.bool_of ?_) (by simp)
    rw [List.take_length] at hz
    simp [pathOk, hz, h0]

set_option maxRecDepth 100000 in
theorem index_ok (fr : Bool) (l : List UInt32) (x : UInt32) : PCon prog 102 [encW fr l, cW x] (.int .i64 (if l.all (· != x) then -1 else (l.findIdx (· == x) : Nat))) := by
  refine callV_of (fn := Go.Proofs.Tryz.f102) (body := _) tab_ok mixed rfl rfl (by decide) (by simp [Go.Proofs.Tryz.f102]) ?_
  (conv => whnf)
  intro hl
  have hl : l.length ≤ maxLen := by simpa [gd] using hl
  (conv => whnf)
  refine vcg_loop tab_ok mixed (fun i : {i : Nat // i ≤ l.length ∧ (l.take i).all (· != x) = true} => ⟨[(0, encW fr l), (1, cW x), (7, cI l.length), (8, cI i.1)], [], 0⟩) (fun i => l.length - i.1) ⟨0, by omega, rfl⟩ (Wk.of id [] ⟨?_, ?_, ?_, ?_, trivial⟩ (LeH.nil (Nat.le_refl _) (fun b h => by omega) (by simp))) (fun i => ?_)
  · exact .free (encW_free _ _)
  · exact .int_of rfl
  · exact .int_of (by simp)
  · exact .int_of rfl
  obtain ⟨i, hi, hz⟩ := i
  (conv => whnf)
  split
  · rename_i hc
    have hc : i < l.length := by simpa using hc
    (conv => whnf)
    refine ⟨rfl, _, ⟨by simp only; omega, idxW hc⟩, ?_⟩
    (conv => whnf)
    split
    · rename_i h1
      have h1 : l[i] = x := by simp at h1; exact UInt32.toNat_inj.1 (by omega)
      (conv => whnf)
      refine Ends.pure [] (.int_of ?_) (by simp)
      have := all_false (p := (· != x)) hc (by simp [h1])
      rw [if_neg (by rw [this]; simp)]
      congr 1
      symm
      rw [List.findIdx_eq hc]
      refine ⟨by simp [h1], fun j hj => ?_⟩
      rw [List.all_eq_true] at hz
      have := hz (l[j]'(by omega)) (by rw [List.mem_take_iff_getElem]; exact ⟨j, by omega, rfl⟩)
      simpa using this
    · rename_i h1
      (conv => whnf)
      refine ⟨⟨i + 1, by omega, ?_⟩, Wk.of id [] ⟨?_, ?_, ?_, ?_, trivial⟩ (LeH.nil (Nat.le_refl _) (fun b h => by omega) (by simp)), by simp only; omega⟩
      · rw [all_take_succ hc, hz]
        simp at h1
        simp only [Bool.true_and, bne_iff_ne, ne_eq]
        intro e
        rw [e] at h1
        simp at h1
      · exact .free (encW_free _ _)
      · exact .int_of rfl
      · exact .int_of rfl
      · exact .int_of (wrap64_succ hc hl)
  · rename_i hc
    have hc : i = l.length := by simp at hc; omega
    subst hc
    (conv => whnf)
    refine Ends.pure [] (.int_of ?_) (by simp)
    rw [List.take_length] at hz
    rw [if_pos hz]
set_option maxRecDepth 100000 in
theorem contains_ok (fr : Bool) (l : List UInt32) (x : UInt32) : PCon prog 66 [encW fr l, cW x] (.bool (!l.all (· != x))) := by
  refine callV_of (fn := Go.Proofs.Tryz.f66) (body := _) tab_ok mixed rfl rfl (by decide) (by simp [Go.Proofs.Tryz.f66]) ?_
  (conv => whnf)
  refine callV_pure (index_ok fr l x) ⟨.free (encW_free _ _), .free .int, trivial⟩ ?_
  (conv => whnf)
  refine Ends.pure [] (.bool_of ?_) (by simp)
  split
  · rename_i h; simp [h]
  · rename_i h; simp at h; simp [h]

set_option maxRecDepth 100000 in
theorem path1_ok (fr : Bool) (p : Leg) : PCon prog 104 [.agg (encLeg fr p)] (.bool (!legOk p)) := by
  refine callV_of (fn := Go.Proofs.Tryz.f104) (body := _) tab_ok mixed rfl rfl (by decide) (by simp [Go.Proofs.Tryz.f104]) ?_
  (conv => whnf)
  intro hl
  have hl : p.ns.length ≤ maxLen := by simpa [gd] using hl
  have fin : ∀ {s : St} {b : Bool}, legOk p = !b → ∃ v1 h' nx', Ends 0 s (.bool b) v1 h' nx' ∧ (v1 = .bool (!legOk p) ∧ h' = [] ∧ nx' = 0) := fun h => Ends.pure [] (.bool_of (by rw [h]; simp)) (by simp)
  (conv => whnf)
  split
  · rename_i h0
    (conv => whnf)
    exact fin (by simp at h0; simp [legOk]; omega)
  rename_i h0
  have h0 : 1 ≤ p.ns.length := by simp at h0; omega
  (conv => whnf)
  intro _
  (conv => whnf)
  split
  · rename_i h1
    (conv => whnf)
    exact fin (by simp at h1; simp [legOk]; omega)
  rename_i h1
  have h1 : p.ns.length ≤ 32 := by simp at h1; omega
  (conv => whnf)
  refine callV_pure (contains_ok fr p.ns 0) ⟨.free (encW_free _ _), .free .int, trivial⟩ ?_
  (conv => whnf)
  split
  · rename_i h2
    (conv => whnf)
    exact fin (by simp at h2; simp [legOk]; intros; assumption)
  rename_i h2
  (conv => whnf)
  split
  · rename_i h3
    (conv => whnf)
    refine callV_pure (rise_ok fr p.ns) ⟨.free (encW_free _ _), trivial⟩ ?_
    (conv => whnf)
    refine fin ?_
    simp at h2
    simp [legOk, h0, h1, h3]
    exact fun _ => h2
  · rename_i h3
    (conv => whnf)
    refine fin ?_
    simp at h2
    simp [legOk, h0, h1, h3]
    exact h2
end Go.Proofs.YtjpfofmkgdjelaaGreat
/- Contracts: what may be said (Check, Right). -/
set_option linter.unusedVariables false
set_option linter.unusedSimpArgs false
namespace Go.Proofs.YtjpfofmkgdjelaaGreat
open Go.RowKit
open Go.Proofs.Tryz (prog)
attribute [local irreducible] CallV RoundV

set_option maxRecDepth 100000 in
theorem indexFunc_ok (fr : Bool) (l : List Leg) : ∃ n : Int, PCon prog 121 [encLegs fr l, .fn (.func 104) [] []] (.int .i64 n) ∧ (0 ≤ n ↔ l.all legOk = false) := by
  refine ⟨if l.all legOk then -1 else (l.findIdx (!legOk ·) : Nat), ?_, by split <;> rename_i h <;> simp [h]⟩
  refine callV_of (fn := Go.Proofs.Tryz.f121) (body := _) tab_ok mixed rfl rfl (by decide) (by simp [Go.Proofs.Tryz.f121]) ?_
  (conv => whnf)
  intro hl
  have hl : l.length ≤ maxLen := by simpa [gd] using hl
  (conv => whnf)
  refine vcg_loop tab_ok mixed (fun i : {i : Nat // i ≤ l.length ∧ (l.take i).all legOk = true} => ⟨[(0, encLegs fr l), (1, .fn (.func 104) [] []), (7, cI l.length), (8, cI i.1)], [], 0⟩) (fun i => l.length - i.1) ⟨0, by omega, rfl⟩ (Wk.of id [] ⟨?_, ?_, ?_, ?_, trivial⟩ (LeH.nil (Nat.le_refl _) (fun b h => by omega) (by simp))) (fun i => ?_)
  · exact .free (encLegs_free _ _)
  · exact .free (.fn (by simp) (by simp))
  · exact .int_of (by simp)
  · exact .int_of rfl
  obtain ⟨i, hi, hz⟩ := i
  (conv => whnf)
  split
  · rename_i hc
    have hc : i < l.length := by simpa using hc
    (conv => whnf)
    refine ⟨rfl, _, ⟨by simp only; omega, idxL hc⟩, ?_⟩
    (conv => whnf)
    refine callV_pure (path1_ok fr l[i]) ⟨.free (.agg (encLeg_free _ _)), trivial⟩ ?_
    (conv => whnf)
    split
    · rename_i h1
      (conv => whnf)
      refine Ends.pure [] (.int_of ?_) (by simp)
      have h1 : legOk l[i] = false := by simpa using h1
      have := all_false (p := legOk) hc h1
      rw [if_neg (by rw [this]; simp)]
      congr 1
      symm
      rw [List.findIdx_eq hc]
      refine ⟨by simp [h1], fun j hj => ?_⟩
      rw [List.all_eq_true] at hz
      have := hz (l[j]'(by omega)) (by rw [List.mem_take_iff_getElem]; exact ⟨j, by omega, rfl⟩)
      simpa using this
    · rename_i h1
      (conv => whnf)
      refine ⟨⟨i + 1, by omega, ?_⟩, Wk.of id [] ⟨?_, ?_, ?_, ?_, trivial⟩ (LeH.nil (Nat.le_refl _) (fun b h => by omega) (by simp)), by simp only; omega⟩
      · rw [all_take_succ hc, hz]; simpa using h1
      · exact .free (encLegs_free _ _)
      · exact .free (.fn (by simp) (by simp))
      · exact .int_of rfl
      · exact .int_of (wrap64_succ hc hl)
  · rename_i hc
    have hc : i = l.length := by simp at hc; omega
    subst hc
    (conv => whnf)
    refine Ends.pure [] (.int_of ?_) (by simp)
    rw [List.take_length] at hz
    rw [if_pos hz]
set_option maxRecDepth 100000 in
theorem containsFunc_ok (fr : Bool) (l : List Leg) : PCon prog 105 [encLegs fr l, .fn (.func 104) [] []] (.bool (!l.all legOk)) := by
  obtain ⟨n, hn, hiff⟩ := indexFunc_ok fr l
  refine callV_of (fn := Go.Proofs.Tryz.f105) (body := _) tab_ok mixed rfl rfl (by decide) (by simp [Go.Proofs.Tryz.f105]) ?_
  (conv => whnf)
  refine callV_pure hn ⟨.free (encLegs_free _ _), .free (.fn (by simp) (by simp)), trivial⟩ ?_
  (conv => whnf)
  refine Ends.pure [] (.bool_of ?_) (by simp)
  cases hb : l.all legOk with
  | true => rw [hb] at hiff; simp at hiff; simp; omega
  | false => have := hiff.2 hb; simp; omega
set_option maxRecDepth 100000 in
theorem path_ok (fr : Bool) (l : List Leg) : PCon prog 74 [encLegs fr l] (.bool (pathOk l)) := by
  refine callV_of (fn := Go.Proofs.Tryz.f74) (body := _) tab_ok mixed rfl rfl (by decide) (by simp [Go.Proofs.Tryz.f74]) ?_
  (conv => whnf)
  intro hl
  (conv => whnf)
  split
  · rename_i h0
    (conv => whnf)
    refine callV_pure (containsFunc_ok fr l) ⟨.free (encLegs_free _ _), .free (.fn (by simp) (by simp)), trivial⟩ ?_
    (conv => whnf)
    refine Ends.pure [] (.bool_of ?_) (by simp)
    simp at h0
    simp [pathOk]
    omega
  · rename_i h0
    (conv => whnf)
    refine Ends.pure [] (.bool_of ?_) (by simp)
    simp at h0
    simp [pathOk]
    omega

def rightA (a : Attrs) : Bool := decide ((a.origin.toNat : Int) ≤ 2) && pathOk a.path && a.next != 0 && (a.hasMed || a.med == 0) && (a.hasPref || a.pref == 0) && decide ((a.tags.length : Int) ≤ 16) && rises a.tags
theorem u32_ne {x : UInt32} : ((x.toNat : Int) != 0) = (x != 0) := by
  cases h : x != 0 with
  | true => simp only [bne_iff_ne, ne_eq] at h ⊢; intro e; exact h (UInt32.toNat_inj.1 (by simp; omega))
  | false => simp only [bne_eq_false_iff_eq] at h ⊢; subst h; rfl
theorem u32_eq {x : UInt32} : ((x.toNat : Int) == 0) = (x == 0) := by
  have := congrArg (!·) (u32_ne (x := x))
  simpa [bne] using this

set_option maxRecDepth 100000 in
set_option maxHeartbeats 4000000 in
theorem right_ok (fr : Bool) (a : Attrs) : PCon prog 28 [encA fr a] (.bool (rightA a)) := by
  refine callV_of (fn := Go.Proofs.Tryz.f28) (body := _) tab_ok mixed rfl rfl (by decide) (by simp [Go.Proofs.Tryz.f28]) ?_
  have fin : ∀ {s : St} {b : Bool}, rightA a = b → ∃ v1 h' nx', Ends 0 s (.bool b) v1 h' nx' ∧ (v1 = .bool (rightA a) ∧ h' = [] ∧ nx' = 0) := fun h => Ends.pure [] (.bool_of h.symm) (by simp)
  (conv => whnf)
  split
  case' h_1 =>
    (conv => whnf)
    refine callV_pure (ref_path_ok fr a.path) ⟨.free (encLegs_free _ _), trivial⟩ ?_
    (conv => whnf)
  repeat' first
    | refine fin ?_
    | (split <;> (conv => whnf))
    | (intro _; (conv => whnf))
    | (refine callV_pure (ref_rise_ok fr a.tags) ⟨.free (encW_free _ _), trivial⟩ ?_; (conv => whnf))
  all_goals (clear fin; try simp only [u32_ne, u32_eq] at *)
  all_goals (try simp_all [rightA])
  all_goals (intros; exfalso; omega)

def checkA (a : Attrs) : Int := if rightA a then 0 else 2
theorem checkA_no {a : Attrs} (h : rightA a = false) : checkA a = 2 := by simp [checkA, h]
theorem checkA_yes {a : Attrs} (h : rightA a = true) : checkA a = 0 := by simp [checkA, h]
set_option maxRecDepth 100000 in
set_option maxHeartbeats 8000000 in
theorem check_ok (fr : Bool) (a : Attrs) : PCon prog 40 [encA fr a] (.int .i64 (checkA a)) := by
  refine callV_of (fn := Go.Proofs.Tryz.f40) (body := _) tab_ok mixed rfl rfl (by decide) (by simp [Go.Proofs.Tryz.f40]) ?_
  have fin0 : ∀ {s : St}, rightA a = true → ∃ v1 h' nx', Ends 0 s (.int .i64 0) v1 h' nx' ∧ (v1 = .int .i64 (checkA a) ∧ h' = [] ∧ nx' = 0) := fun h => Ends.pure [] (.int_of (checkA_yes h).symm) (by simp)
  have fin2 : ∀ {s : St}, rightA a = false → ∃ v1 h' nx', Ends 0 s (.int .i64 2) v1 h' nx' ∧ (v1 = .int .i64 (checkA a) ∧ h' = [] ∧ nx' = 0) := fun h => Ends.pure [] (.int_of (checkA_no h).symm) (by simp)
  (conv => whnf)
  repeat' first
    | refine fin0 ?_
    | refine fin2 ?_
    | (split <;> (conv => whnf))
    | (intro _; (conv => whnf))
    | (refine ⟨by kernel_rfl, ?_⟩; (conv => whnf))
    | (refine callV_pure (path_ok fr a.path) ⟨.free (encLegs_free _ _), trivial⟩ ?_; (conv => whnf))
    | (refine callV_pure (rise_ok fr a.tags) ⟨.free (encW_free _ _), trivial⟩ ?_; (conv => whnf))
  all_goals (clear fin0 fin2; try simp only [u32_ne, u32_eq] at *)
  all_goals (try simp_all [rightA])
  all_goals (try (intros; exfalso; omega))
end Go.Proofs.YtjpfofmkgdjelaaGreat
/- Contracts: which are the same; how much there is. -/
set_option linter.unusedVariables false
set_option linter.unusedSimpArgs false
namespace Go.Proofs.YtjpfofmkgdjelaaGreat
open Go.RowKit
open Go.Proofs.Tryz (prog)
attribute [local irreducible] CallV RoundV

theorem u32_neq {x y : UInt32} : ((x.toNat : Int) != (y.toNat : Int)) = (x != y) := by
  cases h : x != y with
  | true => simp only [bne_iff_ne, ne_eq] at h ⊢; intro e; exact h (UInt32.toNat_inj.1 (by omega))
  | false => simp only [bne_eq_false_iff_eq] at h ⊢; subst h; rfl
theorem u8_neq {x y : UInt8} : ((x.toNat : Int) != (y.toNat : Int)) = (x != y) := by
  cases h : x != y with
  | true => simp only [bne_iff_ne, ne_eq] at h ⊢; intro e; exact h (UInt8.toNat_inj.1 (by omega))
  | false => simp only [bne_eq_false_iff_eq] at h ⊢; subst h; rfl
def sameA (a b : Attrs) : Bool := decide (a = b)

set_option maxRecDepth 100000 in
set_option maxHeartbeats 4000000 in
theorem ref_same_ok (fr fr' : Bool) (a b : Attrs) : PCon prog 21 [encA fr a, encA fr' b] (.bool (sameA a b)) := by
  refine callV_of (fn := Go.Proofs.Tryz.f21) (body := _) tab_ok mixed rfl rfl (by decide) (by simp [Go.Proofs.Tryz.f21]) ?_
  have fin : ∀ {s : St} {r : Bool}, sameA a b = r → ∃ v1 h' nx', Ends 0 s (.bool r) v1 h' nx' ∧ (v1 = .bool (sameA a b) ∧ h' = [] ∧ nx' = 0) := fun h => Ends.pure [] (.bool_of h.symm) (by simp)
  (conv => whnf)
  repeat' first
    | refine fin ?_
    | (split <;> (conv => whnf))
    | (refine fun (_ : gd none _) => ?_; (conv => whnf))
    | (refine callV_pure (words_ok fr fr' a.tags b.tags) ⟨.free (encW_free _ _), .free (encW_free _ _), trivial⟩ ?_; (conv => whnf))
  any_goals (simp only [sameA, decide_eq_false_iff_not]; rintro rfl; simp_all; done)
  have hlen : a.path.length = b.path.length := by
    have := ‹((((a.path.map (encLeg fr)).length : Nat) : Int) != (((b.path.map (encLeg fr')).length : Nat) : Int)) = false›
    simp at this
    omega
  have hall : a.origin = b.origin ∧ a.next = b.next ∧ a.hasMed = b.hasMed ∧ a.med = b.med ∧ a.hasPref = b.hasPref ∧ a.pref = b.pref ∧ a.tags = b.tags := by
    clear fin
    simp_all [u32_neq, u8_neq]
  have hl : a.path.length ≤ maxLen := by
    have := ‹gd none ((a.path.map (encLeg fr)).length ≤ maxLen)›
    simpa [gd] using this
  have cell : ∀ {fr0 : Bool} {x : Attrs}, FreeB (.var true 33 (cellsA fr0 x)) := fun {fr0 x} => cellsA_free fr0 x
  refine vcg_loop tab_ok mixed (fun i : {i : Nat // i ≤ a.path.length ∧ a.path.take i = b.path.take i} => ⟨[(2, .ptr 0 0), (3, .ptr 1 0), (5, cI i.1)], [(0, some (.var true 33 (cellsA fr a))), (1, some (.var true 33 (cellsA fr' b)))], 2⟩) (fun i => a.path.length - i.1) ⟨0, by omega, rfl⟩ (Wk.of id [] ⟨?_, ?_, ?_, trivial⟩ (LeH.same ⟨⟨rfl, cell, by omega⟩, ⟨rfl, cell, by omega⟩, trivial⟩ (by omega))) (fun i => ?_)
  · exact .ptr rfl (by omega)
  · exact .ptr rfl (by omega)
  · exact .int_of rfl
  obtain ⟨i, hi, hr⟩ := i
  (conv => whnf)
  refine fun (_ : gd none _) => ?_
  (conv => whnf)
  split
  · rename_i hc
    have hc : i < a.path.length := by simpa using hc
    have hc' : i < b.path.length := by omega
    have hdif : a.path[i] ≠ b.path[i] → sameA a b = false := by
      intro h
      simp only [sameA, decide_eq_false_iff_not]
      rintro rfl
      exact h rfl
    (conv => whnf)
    refine ⟨rfl, _, ⟨by simp only; omega, idxL hc⟩, ?_⟩
    (conv => whnf)
    refine ⟨rfl, _, ⟨by simp only; omega, idxL hc'⟩, ?_⟩
    (conv => whnf)
    split
    · rename_i h1
      (conv => whnf)
      refine ⟨by kernel_rfl, ?_⟩
      (conv => whnf)
      refine fin (hdif fun e => ?_)
      simp [e] at h1
    · rename_i h1
      (conv => whnf)
      refine ⟨rfl, _, ⟨by simp only; omega, idxL hc⟩, ?_⟩
      (conv => whnf)
      refine ⟨rfl, _, ⟨by simp only; omega, idxL hc'⟩, ?_⟩
      (conv => whnf)
      refine ⟨.bool (decide (a.path[i].ns = b.path[i].ns)), [], fun h nx _ => ?_, by simp, ?_⟩
      · refine pureV_pure (words_ok fr fr' a.path[i].ns b.path[i].ns) ?_
        exact ⟨.free (encW_free _ _), .free (encW_free _ _), trivial⟩
      (conv => whnf)
      refine ⟨by kernel_rfl, ?_⟩
      (conv => whnf)
      split
      · rename_i h2
        (conv => whnf)
        refine fin (hdif fun e => ?_)
        simp [e] at h2
      · rename_i h2
        (conv => whnf)
        refine ⟨⟨i + 1, by omega, ?_⟩, Wk.of id [] ⟨?_, ?_, ?_, trivial⟩ (LeH.same ⟨⟨rfl, cell, by omega⟩, ⟨rfl, cell, by omega⟩, trivial⟩ (by omega)), by simp only; omega⟩
        · rw [List.take_succ_eq_append_getElem hc, List.take_succ_eq_append_getElem hc', hr]
          have e1 : a.path[i].set = b.path[i].set := by simpa using h1
          have e2 : a.path[i].ns = b.path[i].ns := by simpa using h2
          have : a.path[i] = b.path[i] := by
            cases ha : a.path[i]; cases hb : b.path[i]
            simp_all
          rw [this]
        · exact .ptr rfl (by omega)
        · exact .ptr rfl (by omega)
        · exact .int_of (wrap64_succ hc hl)
  · rename_i hc
    have hc : i = a.path.length := by simp at hc; omega
    subst hc
    (conv => whnf)
    refine fin ?_
    rw [List.take_length, hlen, List.take_length] at hr
    obtain ⟨q1, q2, q3, q4, q5, q6, q7⟩ := hall
    simp only [sameA, decide_eq_true_eq]
    cases a; cases b
    simp_all
end Go.Proofs.YtjpfofmkgdjelaaGreat
/- Contracts of the law's own helpers. -/
set_option linter.unusedVariables false
set_option linter.unusedSimpArgs false
namespace Go.Proofs.YtjpfofmkgdjelaaGreat
open Go.RowKit
open Go.Proofs.Tryz (prog)
attribute [local irreducible] CallV RoundV

def fewA (a : Attrs) : Bool := a.path.all (fun p => decide (p.ns.length ≤ 60)) && decide (a.path.length ≤ 20) && decide (a.tags.length ≤ 60)
/-- The cells of what says nothing. -/
def zeroA : List V := [.int .u8 0, .snil, .int .u32 0, .bool false, .int .u32 0, .bool false, .int .u32 0, .snil]
theorem zeroA_free : ∀ v ∈ zeroA, Free v := by
  intro v hv
  simp [zeroA] at hv
  rcases hv with rfl | rfl | rfl | rfl | rfl | rfl | rfl | rfl <;> first | exact .int | exact .bool | exact .snil

def rowsAt (fr : Bool) (l : List Leg) (i : Nat) : List (List V) := (l.take i).map (encLeg true) ++ (l.drop i).map (encLeg fr)
theorem rowsAt_len (fr : Bool) (l : List Leg) (i : Nat) : (rowsAt fr l i).length = l.length := by simp [rowsAt]; omega
theorem rowsAt_free (fr : Bool) (l : List Leg) (i : Nat) : ∀ x ∈ rowsAt fr l i, ∀ v ∈ x, Free v := by
  intro x hx v hv
  rcases List.mem_append.1 hx with hx | hx
  · exact rowsLegs_free true _ x hx v hv
  · exact rowsLegs_free fr _ x hx v hv
theorem rowsAt_get {fr : Bool} {l : List Leg} {i : Nat} (h : i < l.length) : (rowsAt fr l i)[i]? = some (encLeg fr l[i]) := by
  unfold rowsAt
  rw [List.getElem?_append_right (by simp; omega)]
  simp [List.length_take, Nat.min_eq_left (Nat.le_of_lt h), h]
theorem rowsAt_succ {fr : Bool} {l : List Leg} {i : Nat} (h : i < l.length) : rowsAt fr l (i + 1) = (rowsAt fr l i).set i (encLeg true l[i]) := by
  unfold rowsAt
  rw [List.take_succ_eq_append_getElem h, List.drop_eq_getElem_cons h, List.map_append, List.set_append_right _ _ (by simp; omega)]
  have e : (List.map (encLeg true) (List.take i l)).length = i := by simp; omega
  rw [e, Nat.sub_self]
  simp only [List.map_cons, List.map_nil, List.set_cons_zero, List.append_assoc, List.cons_append, List.nil_append]
theorem rowsAt_all (fr : Bool) (l : List Leg) : rowsAt fr l l.length = l.map (encLeg true) := by simp [rowsAt]

theorem fewA_out {a : Attrs} (h : fewA a = true) : (∀ p ∈ a.path, p.ns.length ≤ 60) ∧ a.path.length ≤ 20 ∧ a.tags.length ≤ 60 := by
  simp only [fewA, Bool.and_eq_true, List.all_eq_true, decide_eq_true_eq] at h
  exact ⟨h.1.1, h.1.2, h.2⟩
end Go.Proofs.YtjpfofmkgdjelaaGreat
/- Contracts: numbers written. -/
set_option linter.unusedVariables false
set_option linter.unusedSimpArgs false
namespace Go.Proofs.YtjpfofmkgdjelaaGreat
open Go.RowKit
open Go.Proofs.Tryz (prog)
attribute [local irreducible] CallV RoundV

/-- A number's four bytes, the higher ahead. -/
def fourB (x : UInt32) : List UInt8 := [(x >>> 24).toUInt8, (x >>> 16).toUInt8, (x >>> 8).toUInt8, x.toUInt8]
/-- What is written behind k rounds. -/
def highRows (x : UInt32) : Nat → List (List V)
  | 0 => [[.int .u8 0], [.int .u8 0], [.int .u8 0], [.int .u8 0]]
  | 1 => [[.int .u8 0], [.int .u8 0], [.int .u8 0], [cB x.toUInt8]]
  | 2 => [[.int .u8 0], [.int .u8 0], [cB (x >>> 8).toUInt8], [cB x.toUInt8]]
  | 3 => [[.int .u8 0], [cB (x >>> 16).toUInt8], [cB (x >>> 8).toUInt8], [cB x.toUInt8]]
  | _ => [[cB (x >>> 24).toUInt8], [cB (x >>> 16).toUInt8], [cB (x >>> 8).toUInt8], [cB x.toUInt8]]
def shr8 (x : UInt32) : Nat → Int
  | 0 => x.toNat
  | 1 => (x >>> 8).toNat
  | 2 => (x >>> 16).toNat
  | 3 => (x >>> 24).toNat
  | _ => ((0 : UInt32).toNat : Int)

theorem highRows_free (x : UInt32) (k : Nat) : ∀ r ∈ highRows x k, ∀ v ∈ r, Free v := by
  intro r hr v hv
  unfold highRows at hr
  split at hr <;> (simp at hr; rcases hr with rfl | rfl | rfl | rfl <;> (simp at hv; subst hv; exact .int))
theorem LeB.eq_of {h : Heap} {nx nx' : Nat} {ρ : Nat → Nat} {Z : List Nat} {b b' : Blk} (e : b = b') (hf : FreeB b') : LeB h nx ρ nx' Z b b' := by subst e; exact LeB.free hf
theorem sh_step {x y : UInt32} (h : y.toNat = x.toNat / 256) : IntKind.u32.wrap ((IntKind.u64.wrap (x.toNat : Int)).fdiv (2 ^ (min (Int.toNat 8) IntKind.u64.bits))) = (y.toNat : Int) := by
  have h1 : IntKind.u64.wrap (x.toNat : Int) = x.toNat := by
    rw [wrapu64]
    have := x.toNat_lt
    omega
  rw [h1, wrap32, h]
  have e : (2 : Int) ^ (min (Int.toNat 8) IntKind.u64.bits) = 256 := by decide
  rw [e, Int.fdiv_eq_ediv_of_nonneg _ (by decide)]
  have := x.toNat_lt
  omega
theorem u8_of {x : UInt32} : IntKind.u8.wrap (x.toNat : Int) = (x.toUInt8.toNat : Int) := by
  rw [wrap8]
  simp
end Go.Proofs.YtjpfofmkgdjelaaGreat
/- Contracts: lists of numbers written; paths written. -/
set_option linter.unusedVariables false
set_option linter.unusedSimpArgs false
namespace Go.Proofs.YtjpfofmkgdjelaaGreat
open Go.RowKit
open Go.Proofs.Tryz (prog)
attribute [local irreducible] CallV RoundV

abbrev rowsB (b : List UInt8) : List (List V) := b.map fun x => [V.int .u8 x.toNat]
theorem LeV.freezeB {h : Heap} {nx nx' : Nat} {ρ : Nat → Nat} {Z : List Nat} {b n : Nat} {fr ex : Bool} {ty : TypeId} {rows : List (List V)} {bs : List UInt8} (hz : b ∈ Z) (hb : hget h b = some (.arr fr ex ty 1 rows)) (e : rows = rowsB bs) (hn : n = bs.length) :
    LeV h nx ρ nx' Z (.osl b 1 0 n) (encB fr bs) := by
  subst e
  exact LeV.freeze_of hz hb (by simp [hn]) (rowsB_free _) (by simp only [List.drop_zero]; exact List.take_of_length_le (by simp [hn]))
theorem one_none {h : Heap} {b : Nat} {x : Blk} (hb : hget h b = some x) : ∀ z ∈ [b], hget h z ≠ none := fun z hz => by
  obtain rfl := List.mem_singleton.1 hz
  exact ne_none_of hb
theorem u8_int (x : UInt8) : IntKind.u8.wrap (x.toNat : Int) = x.toNat := by
  have := x.toNat_lt
  rw [wrap8]; omega
theorem u8_nat (n : Nat) : IntKind.u8.wrap (n : Int) = (UInt8.ofNat n).toNat := by
  rw [wrap8]; simp
def allB (l : List UInt32) : List UInt8 := l.flatMap fourB
theorem allB_len (l : List UInt32) : (allB l).length = 4 * l.length := by
  induction l with
  | nil => rfl
  | cons x l ih =>
    have e : allB (x :: l) = fourB x ++ allB l := by unfold allB; rw [List.flatMap_cons]
    have e4 : (fourB x).length = 4 := rfl
    rw [e, List.length_append, e4, ih, List.length_cons]
    omega
theorem allB_succ {l : List UInt32} {i : Nat} (h : i < l.length) : allB (l.take (i + 1)) = allB (l.take i) ++ fourB l[i] := by
  unfold allB
  rw [List.take_succ_eq_append_getElem h, List.flatMap_append, List.flatMap_cons, List.flatMap_nil, List.append_nil]

end Go.Proofs.YtjpfofmkgdjelaaGreat
/- Contracts: the reference's bytes. -/
set_option linter.unusedVariables false
set_option linter.unusedSimpArgs false
namespace Go.Proofs.YtjpfofmkgdjelaaGreat
open Go.RowKit
open Go.Proofs.Tryz (prog)
attribute [local irreducible] CallV RoundV

theorem own1 {s : St} {b n : Nat} {fr ex : Bool} {ty : TypeId} {rows : List (List V)} {bs : List UInt8} (hb : hget s.h b = some (.arr fr ex ty 1 rows)) (hr : rows = rowsB bs) (hn : n = bs.length) :
    ∃ v1 h' nx', Ends 0 s (.osl b 1 0 n) v1 h' nx' ∧ (v1 = .osl 0 1 0 bs.length ∧ h' = [(0, some (.arr fr ex ty 1 (rowsB bs)))] ∧ nx' = 1) := by
  subst hr
  exact Ends.own hb (rowsB_free _) hn rfl
/-- An attribute's bytes. -/
def attrB (f c : UInt8) (v : List UInt8) : List UInt8 :=
  if 255 < v.length then [f + 16, c, UInt8.ofNat (v.length / 256), UInt8.ofNat (v.length % 256)] ++ v else [f, c, UInt8.ofNat v.length] ++ v
end Go.Proofs.YtjpfofmkgdjelaaGreat
/- Contract: the reference's Raw. -/
set_option linter.unusedVariables false
set_option linter.unusedSimpArgs false
namespace Go.Proofs.YtjpfofmkgdjelaaGreat
open Go.RowKit
open Go.Proofs.Tryz (prog)
attribute [local irreducible] CallV RoundV

def kindB (p : Leg) : UInt8 := if p.set then 1 else 2
def legB (p : Leg) : List UInt8 := [kindB p, UInt8.ofNat p.ns.length] ++ allB p.ns
def pathB (l : List Leg) : List UInt8 := l.flatMap legB
theorem pathB_succ {l : List Leg} {i : Nat} (h : i < l.length) : pathB (l.take (i + 1)) = pathB (l.take i) ++ legB l[i] := by
  unfold pathB
  rw [List.take_succ_eq_append_getElem h, List.flatMap_append, List.flatMap_cons, List.flatMap_nil, List.append_nil]
theorem legB_len (p : Leg) : (legB p).length = 2 + 4 * p.ns.length := by simp [legB, allB_len]; omega
theorem pathB_len {l : List Leg} (h : ∀ p ∈ l, p.ns.length ≤ 60) : (pathB l).length ≤ 242 * l.length := by
  induction l with
  | nil => simp [pathB]
  | cons p l ih =>
    have e : pathB (p :: l) = legB p ++ pathB l := by unfold pathB; rw [List.flatMap_cons]
    have := ih (fun q hq => h q (by simp [hq]))
    have := h p (by simp)
    rw [e, List.length_append, legB_len, List.length_cons]
    omega
theorem rowsB_ff (b : List UInt8) : ∀ x ∈ rowsB b, ∀ v ∈ x, Free v ∧ Fresh v := by
  intro x hx v hv
  obtain ⟨y, _, rfl⟩ := List.mem_map.1 hx
  simp at hv; subst hv; exact ⟨.int, .int⟩
theorem attr_cold {f c : Int} {v : List UInt8} : ∀ x ∈ [V.int .i64 f, V.int .i64 c, encB false v], Cold x := by
  intro x hx
  simp at hx
  rcases hx with rfl | rfl | rfl
  · exact .int
  · exact .int
  · exact encB_cold _

def rawO (a : Attrs) : List UInt8 := attrB 64 1 [a.origin] ++ attrB 64 2 (pathB a.path) ++ attrB 64 3 (fourB a.next) ++ (if a.hasMed then attrB 128 4 (fourB a.med) else []) ++ (if a.hasPref then attrB 64 5 (fourB a.pref) else [])
def rawA (a : Attrs) : List UInt8 := rawO a ++ (if 0 < a.tags.length then attrB 192 8 (allB a.tags) else [])

end Go.Proofs.YtjpfofmkgdjelaaGreat
/- Contracts: the attributes' values. -/
set_option linter.unusedVariables false
set_option linter.unusedSimpArgs false
namespace Go.Proofs.YtjpfofmkgdjelaaGreat
open Go.RowKit
open Go.Proofs.Tryz (prog)
attribute [local irreducible] CallV RoundV

end Go.Proofs.YtjpfofmkgdjelaaGreat
/- Contracts: the row of attributes. -/
set_option linter.unusedVariables false
set_option linter.unusedSimpArgs false
namespace Go.Proofs.YtjpfofmkgdjelaaGreat
open Go.RowKit
open Go.Proofs.Tryz (prog)
attribute [local irreducible] CallV RoundV

theorem LeV.fnL {h : Heap} {nx nx' : Nat} {ρ : Nat → Nat} {Z : List Nat} {f : Fn} {fs fs' cs cs' : List V} (h1 : LeL h nx ρ nx' Z fs fs') (h2 : LeL h nx ρ nx' Z cs cs') : LeV h nx ρ nx' Z (.fn f fs cs) (.fn f fs' cs') := fun G w u hr hv => by
  cases hv with
  | fn _ _ _ us ws q1 q2 q3 q4 =>
    have v1 := h1.vrs hr (us := us) ⟨q1, q3⟩
    have v2 := h2.vrs hr (us := ws) ⟨q2, q4⟩
    exact .fn _ _ _ us ws v1.1 v2.1 v1.2 v2.2
theorem LeV.freezePL {h : Heap} {nx nx' : Nat} {ρ : Nat → Nat} {Z : List Nat} {b : Nat} {fr : Bool} {ty : TypeId} {cells cells' : List V} (hz : b ∈ Z) (hb : hget h b = some (.var fr ty cells)) (hl : LeL h nx ρ nx' Z cells cells') :
    LeV h nx ρ nx' Z (.ptr b 0) (.iptr fr cells') := fun G w u hr hv => by
  have hown : Holds G w b fr true ty cells := hr.own b _ hb
  obtain ⟨c', cs, e1, hh, hle, hex, hfr, hcell, _⟩ := hown
  obtain ⟨l1, l2⟩ := hl.out
  cases hv with
  | ptr _ _ c hc =>
    rw [hc] at e1
    obtain rfl : c = c' := Option.some.inj e1
    have at' : ∀ (j : Nat) (v' : V), cells'[j]? = some v' → ∃ v u, cells[j]? = some v ∧ cs[j]? = some u ∧ u.oneCell' = true ∧ vr G w v u := by
      intro j v' hj
      have hlt : j < cells.length := by rw [l1]; exact (List.getElem?_eq_some_iff.1 hj).1
      obtain ⟨u, hu, h1, hv⟩ := hcell j _ (List.getElem?_eq_getElem hlt)
      exact ⟨_, u, List.getElem?_eq_getElem hlt, hu, h1, hv⟩
    refine .iptr fr cells' ⟨c, 0, none⟩ (fun j => cs[j]?.getD undef) rfl (fun j v' hj => ?_) (fun j v' hj => ?_)
    · obtain ⟨v, u, _, hu, h1, _⟩ := at' j v' hj
      exact ⟨by simp [World.cell?, hh, hu], .inr ⟨b, hz, hc⟩, fun hf => ⟨hfr hf, by simp [World.frozen?, hh]⟩, by simp [hu, h1]⟩
    · obtain ⟨v, u, hv, hu, h1, hvr⟩ := at' j v' hj
      simp only [hu, Option.getD_some]
      exact l2 j v v' hv hj G w u hr hvr

abbrev fnV (n : Nat) : V := .fn (.func n) [] []
theorem fnV_free (n : Nat) : Free (fnV n) := .fn (by simp) (by simp)
end Go.Proofs.YtjpfofmkgdjelaaGreat
/- Contract: a number of two bytes. -/
set_option linter.unusedVariables false
set_option linter.unusedSimpArgs false
namespace Go.Proofs.YtjpfofmkgdjelaaGreat
open Go.RowKit
open Go.Proofs.Tryz (prog)
attribute [local irreducible] CallV RoundV

def twoB (n : Nat) : List UInt8 := [UInt8.ofNat (n / 256), UInt8.ofNat n]
def twoRows (n : Nat) : Nat → List (List V)
  | 0 => [[.int .u8 0], [.int .u8 0]]
  | 1 => [[.int .u8 0], [cB (UInt8.ofNat n)]]
  | _ => [[cB (UInt8.ofNat (n / 256))], [cB (UInt8.ofNat n)]]
def shrI (n : Nat) : Nat → Int
  | 0 => n
  | 1 => (n / 256 : Nat)
  | _ => (n / 65536 : Nat)
theorem twoRows_free (n : Nat) (k : Nat) : ∀ r ∈ twoRows n k, ∀ v ∈ r, Free v := by
  intro r hr v hv
  unfold twoRows at hr
  split at hr <;> (simp at hr; rcases hr with rfl | rfl <;> (simp at hv; subst hv; exact .int))
theorem shI_step (n : Nat) {m : Nat} (h : m = n / 256) (hn : n < 65536) : IntKind.i64.wrap ((IntKind.u64.wrap (n : Int)).fdiv (2 ^ (min (Int.toNat 8) IntKind.u64.bits))) = (m : Int) := by
  have h1 : IntKind.u64.wrap (n : Int) = n := by rw [wrapu64]; omega
  have e : (2 : Int) ^ (min (Int.toNat 8) IntKind.u64.bits) = 256 := by decide
  rw [h1, e, h, Int.fdiv_eq_ediv_of_nonneg _ (by decide), wrap64 (by omega) (by omega)]
  omega
end Go.Proofs.YtjpfofmkgdjelaaGreat
/- Contract: attrs.Raw. -/
set_option linter.unusedVariables false
set_option linter.unusedSimpArgs false
namespace Go.Proofs.YtjpfofmkgdjelaaGreat
open Go.RowKit
open Go.Proofs.Tryz (prog)
attribute [local irreducible] CallV RoundV

theorem LeV.snil_sl {h : Heap} {nx nx' : Nat} {ρ : Nat → Nat} {Z : List Nat} {fr : Bool} {sz : Nat} : LeV h nx ρ nx' Z .snil (.sl fr sz []) := fun G w u hr hv => by
  cases hv with
  | snil A => exact .sl fr sz [] A 0 (fun _ => undef) (Nat.le_refl _) (Nat.zero_le _) (fun h => absurd rfl h) (by simp) (by simp) (by simp)
/-- An attribute's bytes, as attrs writes them. -/
def attrX (f c : UInt8) (v : List UInt8) : List UInt8 := (if 255 < v.length then [f + 16, c] ++ twoB v.length else [f, c, UInt8.ofNat v.length]) ++ v
/-- The k-th attribute, if there is one. -/
def part (a : Attrs) : Nat → List UInt8
  | 0 => attrX 64 1 [a.origin]
  | 1 => attrX 64 2 (pathB a.path)
  | 2 => attrX 64 3 (fourB a.next)
  | 3 => if a.hasMed then attrX 128 4 (fourB a.med) else []
  | 4 => if a.hasPref then attrX 64 5 (fourB a.pref) else []
  | _ => if 0 < a.tags.length then attrX 192 8 (allB a.tags) else []
/-- What is written behind k attributes. -/
def rawP (a : Attrs) : Nat → List UInt8
  | 0 => []
  | k + 1 => rawP a k ++ part a k
def rawE (a : Attrs) : V := .tup [encB true (if rightA a then rawP a 6 else []), .int .i64 (checkA a)]
theorem rawE_no {a : Attrs} (h : rightA a = false) : rawE a = .tup [encB true [], .int .i64 2] := by simp [rawE, h, checkA]
theorem rawE_yes {a : Attrs} (h : rightA a = true) : rawE a = .tup [encB true (rawP a 6), .int .i64 0] := by simp [rawE, h, checkA]

end Go.Proofs.YtjpfofmkgdjelaaGreat
/- Plain laws: the two ways to write are one. -/
set_option linter.unusedVariables false
namespace Go.Proofs.YtjpfofmkgdjelaaGreat

theorem attrX_eq (f c : UInt8) (v : List UInt8) : attrX f c v = attrB f c v := by
  unfold attrX attrB twoB
  split
  · have : UInt8.ofNat (v.length % 256) = UInt8.ofNat v.length := by
      apply UInt8.toNat_inj.1
      simp
    rw [this]
    rfl
  · rfl
theorem rawP_eq (a : Attrs) : rawP a 6 = rawA a := by
  simp only [rawP, part, rawA, rawO, attrX_eq, List.nil_append, List.append_assoc]
end Go.Proofs.YtjpfofmkgdjelaaGreat
/- Contracts: numbers read; lengths. -/
set_option linter.unusedVariables false
set_option linter.unusedSimpArgs false
namespace Go.Proofs.YtjpfofmkgdjelaaGreat
open Go.RowKit
open Go.Proofs.Tryz (prog)
attribute [local irreducible] CallV RoundV

theorem shl_or (n : UInt32) (c : UInt8) : bits .or .u32 (IntKind.u32.wrap ((n.toNat : Int) * 2 ^ (min (Int.toNat 8) IntKind.u32.bits))) (IntKind.u32.wrap (c.toNat : Int)) = ((n * 256 + c.toUInt32).toNat : Int) := by
  have hn := n.toNat_lt
  have hc := c.toNat_lt
  have e : (2 : Int) ^ (min (Int.toNat 8) IntKind.u32.bits) = 256 := by decide
  have e1 : IntKind.u32.wrap (c.toNat : Int) = c.toNat := by rw [wrap32]; omega
  rw [e, e1, wrap32]
  rw [bits_join .u32 32 (by decide) (fun n h0 h1 => by rw [wrap32]; omega) 8 _ _ (by omega) (by omega) (by omega) (by omega) (by omega) (by omega)]
  simp [UInt32.toNat_add, UInt32.toNat_mul]
  omega
end Go.Proofs.YtjpfofmkgdjelaaGreat
/- Contracts: a path's first system. -/
set_option linter.unusedVariables false
set_option linter.unusedSimpArgs false
namespace Go.Proofs.YtjpfofmkgdjelaaGreat
open Go.RowKit
open Go.Proofs.Tryz (prog)
attribute [local irreducible] CallV RoundV

def firstOf (a : Attrs) : UInt32 := match a.path with
  | p :: _ => if p.set then 0 else p.ns.headD 0
  | [] => 0
end Go.Proofs.YtjpfofmkgdjelaaGreat
/- Contracts: a path's length. -/
set_option linter.unusedVariables false
set_option linter.unusedSimpArgs false
namespace Go.Proofs.YtjpfofmkgdjelaaGreat
open Go.RowKit
open Go.Proofs.Tryz (prog)
attribute [local irreducible] CallV RoundV

def lenOf (p : Leg) : Nat := if p.set then 1 else p.ns.length
def lengthOf (l : List Leg) : Nat := (l.map lenOf).sum
theorem lengthOf_succ {l : List Leg} {i : Nat} (h : i < l.length) : lengthOf (l.take (i + 1)) = lengthOf (l.take i) + lenOf l[i] := by
  unfold lengthOf
  rw [List.take_succ_eq_append_getElem h, List.map_append, List.sum_append]
  simp only [List.map_cons, List.map_nil, List.sum_cons, List.sum_nil, Nat.add_zero]
theorem lengthOf_le {l : List Leg} (h : ∀ p ∈ l, p.ns.length ≤ 60) : lengthOf l ≤ 61 * l.length := by
  induction l with
  | nil => simp [lengthOf]
  | cons p l ih =>
    have := ih (fun q hq => h q (by simp [hq]))
    have h1 := h p (by simp)
    have h2 : lenOf p ≤ 61 := by unfold lenOf; split <;> omega
    have e : lengthOf (p :: l) = lenOf p + lengthOf l := by simp [lengthOf]
    rw [e, List.length_cons]
    omega
end Go.Proofs.YtjpfofmkgdjelaaGreat
/- Contracts: numbers read off bytes. -/
set_option linter.unusedVariables false
set_option linter.unusedSimpArgs false
namespace Go.Proofs.YtjpfofmkgdjelaaGreat
open Go.RowKit
open Go.Proofs.Tryz (prog)
attribute [local irreducible] CallV RoundV

abbrev rowsW (b : List UInt32) : List (List V) := b.map fun x => [V.int .u32 x.toNat]
/-- The first k numbers of four bytes. -/
def numsK (b : List UInt8) (k : Nat) : List UInt32 := (List.range k).map fun j => wordOf ((b.drop (4 * j)).take 4)
theorem numsK_succ (b : List UInt8) (k : Nat) : numsK b (k + 1) = numsK b k ++ [wordOf ((b.drop (4 * k)).take 4)] := by
  simp [numsK, List.range_succ]
theorem numsK_len (b : List UInt8) (k : Nat) : (numsK b k).length = k := by simp [numsK]
end Go.Proofs.YtjpfofmkgdjelaaGreat
/- Contracts: a number many times; lists one behind the other. -/
set_option linter.unusedVariables false
set_option linter.unusedSimpArgs false
namespace Go.Proofs.YtjpfofmkgdjelaaGreat
open Go.RowKit
open Go.Proofs.Tryz (prog)
attribute [local irreducible] CallV RoundV

theorem int2_free (a b : V) (h1 : Free a) (h2 : Free b) : Free (.tup [a, b]) := .tup (by intro v hv; simp at hv; rcases hv with rfl | rfl <;> assumption)
set_option maxRecDepth 100000 in
theorem mul_ok (n : Nat) (hn : n ≤ 8) : PCon prog 113 [.int .u64 1, .int .u64 n] (.tup [.int .u64 0, .int .u64 n]) := by
  have hn' : n = 0 ∨ n = 1 ∨ n = 2 ∨ n = 3 ∨ n = 4 ∨ n = 5 ∨ n = 6 ∨ n = 7 ∨ n = 8 := by omega
  rcases hn' with rfl | rfl | rfl | rfl | rfl | rfl | rfl | rfl | rfl
  · refine callV_of (fn := Go.Proofs.Tryz.f113) (body := _) tab_ok mixed rfl rfl (by decide) (by simp [Go.Proofs.Tryz.f113]) ?_
    (conv => whnf)
    refine callV_of (fn := Go.Proofs.Tryz.f126) (body := _) tab_ok mixed rfl rfl (by decide) (by simp [Go.Proofs.Tryz.f126]) ?_
    (conv => whnf)
    iterate 5
      refine ⟨by decide, ?_⟩
      (conv => whnf)
    refine ⟨_, _, _, Ends.here, ?_⟩
    (conv => whnf)
    exact Ends.pure [] (.eq_of (by kernel_rfl) (int2_free _ _ .int .int)) (by simp)
  · refine callV_of (fn := Go.Proofs.Tryz.f113) (body := _) tab_ok mixed rfl rfl (by decide) (by simp [Go.Proofs.Tryz.f113]) ?_
    (conv => whnf)
    refine callV_of (fn := Go.Proofs.Tryz.f126) (body := _) tab_ok mixed rfl rfl (by decide) (by simp [Go.Proofs.Tryz.f126]) ?_
    (conv => whnf)
    iterate 5
      refine ⟨by decide, ?_⟩
      (conv => whnf)
    refine ⟨_, _, _, Ends.here, ?_⟩
    (conv => whnf)
    exact Ends.pure [] (.eq_of (by kernel_rfl) (int2_free _ _ .int .int)) (by simp)
  · refine callV_of (fn := Go.Proofs.Tryz.f113) (body := _) tab_ok mixed rfl rfl (by decide) (by simp [Go.Proofs.Tryz.f113]) ?_
    (conv => whnf)
    refine callV_of (fn := Go.Proofs.Tryz.f126) (body := _) tab_ok mixed rfl rfl (by decide) (by simp [Go.Proofs.Tryz.f126]) ?_
    (conv => whnf)
    iterate 5
      refine ⟨by decide, ?_⟩
      (conv => whnf)
    refine ⟨_, _, _, Ends.here, ?_⟩
    (conv => whnf)
    exact Ends.pure [] (.eq_of (by kernel_rfl) (int2_free _ _ .int .int)) (by simp)
  · refine callV_of (fn := Go.Proofs.Tryz.f113) (body := _) tab_ok mixed rfl rfl (by decide) (by simp [Go.Proofs.Tryz.f113]) ?_
    (conv => whnf)
    refine callV_of (fn := Go.Proofs.Tryz.f126) (body := _) tab_ok mixed rfl rfl (by decide) (by simp [Go.Proofs.Tryz.f126]) ?_
    (conv => whnf)
    iterate 5
      refine ⟨by decide, ?_⟩
      (conv => whnf)
    refine ⟨_, _, _, Ends.here, ?_⟩
    (conv => whnf)
    exact Ends.pure [] (.eq_of (by kernel_rfl) (int2_free _ _ .int .int)) (by simp)
  · refine callV_of (fn := Go.Proofs.Tryz.f113) (body := _) tab_ok mixed rfl rfl (by decide) (by simp [Go.Proofs.Tryz.f113]) ?_
    (conv => whnf)
    refine callV_of (fn := Go.Proofs.Tryz.f126) (body := _) tab_ok mixed rfl rfl (by decide) (by simp [Go.Proofs.Tryz.f126]) ?_
    (conv => whnf)
    iterate 5
      refine ⟨by decide, ?_⟩
      (conv => whnf)
    refine ⟨_, _, _, Ends.here, ?_⟩
    (conv => whnf)
    exact Ends.pure [] (.eq_of (by kernel_rfl) (int2_free _ _ .int .int)) (by simp)
  · refine callV_of (fn := Go.Proofs.Tryz.f113) (body := _) tab_ok mixed rfl rfl (by decide) (by simp [Go.Proofs.Tryz.f113]) ?_
    (conv => whnf)
    refine callV_of (fn := Go.Proofs.Tryz.f126) (body := _) tab_ok mixed rfl rfl (by decide) (by simp [Go.Proofs.Tryz.f126]) ?_
    (conv => whnf)
    iterate 5
      refine ⟨by decide, ?_⟩
      (conv => whnf)
    refine ⟨_, _, _, Ends.here, ?_⟩
    (conv => whnf)
    exact Ends.pure [] (.eq_of (by kernel_rfl) (int2_free _ _ .int .int)) (by simp)
  · refine callV_of (fn := Go.Proofs.Tryz.f113) (body := _) tab_ok mixed rfl rfl (by decide) (by simp [Go.Proofs.Tryz.f113]) ?_
    (conv => whnf)
    refine callV_of (fn := Go.Proofs.Tryz.f126) (body := _) tab_ok mixed rfl rfl (by decide) (by simp [Go.Proofs.Tryz.f126]) ?_
    (conv => whnf)
    iterate 5
      refine ⟨by decide, ?_⟩
      (conv => whnf)
    refine ⟨_, _, _, Ends.here, ?_⟩
    (conv => whnf)
    exact Ends.pure [] (.eq_of (by kernel_rfl) (int2_free _ _ .int .int)) (by simp)
  · refine callV_of (fn := Go.Proofs.Tryz.f113) (body := _) tab_ok mixed rfl rfl (by decide) (by simp [Go.Proofs.Tryz.f113]) ?_
    (conv => whnf)
    refine callV_of (fn := Go.Proofs.Tryz.f126) (body := _) tab_ok mixed rfl rfl (by decide) (by simp [Go.Proofs.Tryz.f126]) ?_
    (conv => whnf)
    iterate 5
      refine ⟨by decide, ?_⟩
      (conv => whnf)
    refine ⟨_, _, _, Ends.here, ?_⟩
    (conv => whnf)
    exact Ends.pure [] (.eq_of (by kernel_rfl) (int2_free _ _ .int .int)) (by simp)
  · refine callV_of (fn := Go.Proofs.Tryz.f113) (body := _) tab_ok mixed rfl rfl (by decide) (by simp [Go.Proofs.Tryz.f113]) ?_
    (conv => whnf)
    refine callV_of (fn := Go.Proofs.Tryz.f126) (body := _) tab_ok mixed rfl rfl (by decide) (by simp [Go.Proofs.Tryz.f126]) ?_
    (conv => whnf)
    iterate 5
      refine ⟨by decide, ?_⟩
      (conv => whnf)
    refine ⟨_, _, _, Ends.here, ?_⟩
    (conv => whnf)
    exact Ends.pure [] (.eq_of (by kernel_rfl) (int2_free _ _ .int .int)) (by simp)

def repRows (x : UInt32) (m n : Nat) : List (List V) := List.replicate m [cW x] ++ List.replicate (n - m) [.int .u32 0]
theorem repRows_free (x : UInt32) (m n : Nat) : ∀ r ∈ repRows x m n, ∀ v ∈ r, Free v := by
  intro r hr v hv
  rcases List.mem_append.1 hr with h | h
  · rw [List.eq_of_mem_replicate h] at hv; simp at hv; subst hv; exact .int
  · rw [List.eq_of_mem_replicate h] at hv; simp at hv; subst hv; exact .int
theorem repRows_len (x : UInt32) (m n : Nat) (h : m ≤ n) : (repRows x m n).length = n := by simp [repRows]; omega
theorem repRows_step (x : UInt32) (m n : Nat) (h : m ≤ n) : (repRows x m n).take m ++ ((repRows x m n).take m).take (n - m) ++ (repRows x m n).drop (m + min m (n - m)) = repRows x (m + min m (n - m)) n := by
  have h1 : (repRows x m n).take m = List.replicate m [cW x] := by
    rw [repRows, List.take_append_of_le_length (by simp), List.take_of_length_le (by simp)]
  rw [h1]
  have h2 : (repRows x m n).drop (m + min m (n - m)) = List.replicate (n - m - min m (n - m)) [.int .u32 0] := by
    rw [repRows, List.drop_append, List.drop_eq_nil_of_le (by simp), List.nil_append, List.length_replicate, List.drop_replicate]
    congr 1
    omega
  rw [h2, repRows, List.take_replicate]
  rw [show List.replicate m [cW x] ++ List.replicate (min (n - m) m) [cW x] = List.replicate (m + min m (n - m)) [cW x] by rw [List.replicate_append_replicate, Nat.min_comm]]
  congr 2
  omega
set_option maxRecDepth 100000 in
theorem repeat_ok (fr : Bool) (x : UInt32) (n : Nat) (hn : n ≤ 8) : PCon prog 82 [encW fr [x], cI n] (encW true (List.replicate n x)) := by
  refine callV_of (fn := Go.Proofs.Tryz.f82) (body := _) tab_ok mixed rfl rfl (by decide) (by simp [Go.Proofs.Tryz.f82]) ?_
  (conv => whnf)
  intro _
  (conv => whnf)
  refine callV_pure (mul_ok n hn) ⟨.int_of ?_, .int_of ?_, trivial⟩ ?_
  · simp [wrapu64]
  · rw [wrapu64]; omega
  (conv => whnf)
  rw [show decide (((9223372036854775807 : Int)) < (n : Int)) = false by simp; omega]
  (conv => whnf)
  have hw : IntKind.i64.wrap (n : Int) = n := by rw [wrap64] <;> omega
  rw [hw]
  refine ⟨⟨by omega, by omega, by simp [tab, tabOf, nth]; omega, by omega⟩, ?_⟩
  (conv => whnf)
  refine ⟨⟨rfl, rfl, rfl⟩, by simp, ?_⟩
  (conv => whnf)
  refine vcg_loop tab_ok mixed (fun m : {m : Nat // m ≤ n ∧ (m = 0 → n = 0)} => ⟨[(7, .osl 0 1 0 n), (8, cI m.1)], [(0, some (.arr true true 22 1 (repRows x m.1 n)))], 1⟩) (fun m => n - m.1) ⟨min 1 n, by omega, by omega⟩ ?_ (fun m => ?_)
  · refine Wk.of id [] ⟨.osl_of rfl (by omega) (by simp), .int_of (by simp), trivial⟩ (LeH.of ⟨⟨by omega, .inl ⟨by simp, _, rfl, LeB.eq_of ?_ (repRows_free _ _ _)⟩⟩, trivial⟩ (fun _ _ _ _ h => h) (fun _ _ => rfl) (by omega) (by simp))
    rw [Int.toNat_natCast]
    simp only [List.length_map, List.length_cons, List.length_nil, Nat.zero_add, List.take_zero, List.nil_append, List.drop_replicate, repRows]
    congr 1
    rcases n with _ | n
    · rfl
    · simp [Nat.min_eq_left (show 1 ≤ n + 1 by omega)]
  obtain ⟨m, hm, hm0⟩ := m
  (conv => whnf)
  intro _
  (conv => whnf)
  split
  · rename_i hc
    have hc : m < n := by simpa using hc
    (conv => whnf)
    refine ⟨rfl, ⟨by simp, by simp; try omega⟩, ?_⟩
    (conv => whnf)
    refine ⟨rfl, .own, ⟨by simp, by simp, by simp, by simp; try omega⟩, ?_⟩
    (conv => whnf)
    refine ⟨rfl, by simp [repRows_len x m n hm]; try omega, ⟨rfl, rfl, rfl⟩, by simp [repRows_len x m n hm]; try omega, ?_⟩
    (conv => whnf)
    refine ⟨by kernel_rfl, ?_⟩
    (conv => whnf)
    have hlen : min (List.take ((m : Int).toNat - 0) (List.drop (0 + 0) (repRows x m n))).length (n - (m : Int).toNat) = min m (n - m) := by
      simp [repRows_len x m n hm]
    refine ⟨⟨m + min m (n - m), by omega, by omega⟩, Wk.of id [] ⟨.osl_of rfl (by omega) rfl, .int_of ?_, trivial⟩ (LeH.of ⟨⟨by omega, .inl ⟨by simp, _, rfl, LeB.eq_of ?_ (repRows_free _ _ _)⟩⟩, trivial⟩ (fun _ _ _ _ h => h) (fun _ _ => rfl) (by omega) (by simp)), by simp only; omega⟩
    · simp only [hlen]
      rw [wrap64] <;> omega
    · simp only [hlen]
      have := repRows_step x m n hm
      simpa using this
  · rename_i hc
    have hc : m = n := by simp at hc; omega
    subst hc
    (conv => whnf)
    refine Ends.pure [0] (LeV.freeze_of (by simp) rfl (by simp [repRows_len]) (repRows_free _ _ _) ?_) (one_none rfl)
    simp [repRows]

/-- A list of numbers, or nil. -/
def IsW (fr : Bool) (v : V) (l : List UInt32) : Prop := v = encW fr l ∨ (v = .snil ∧ l = [])
theorem IsW.free {fr : Bool} {v : V} {l : List UInt32} (h : IsW fr v l) : Free v := by
  rcases h with rfl | ⟨rfl, _⟩
  · exact encW_free _ _
  · exact .snil
theorem IsW.cold {v : V} {l : List UInt32} (h : IsW false v l) : Cold v := by
  rcases h with rfl | ⟨rfl, _⟩
  · exact encW_cold _
  · exact .snil
def pairV (fr : Bool) (l1 : List UInt32) (v2 : V) : V := .sl fr 1 [[encW fr l1], [v2]]
theorem pairV_free {fr : Bool} {l1 l2 : List UInt32} {v2 : V} (h : IsW fr v2 l2) : Free (pairV fr l1 v2) := .sl (by
  intro x hx v hv
  simp at hx
  rcases hx with rfl | rfl
  · simp at hv; subst hv; exact encW_free _ _
  · simp at hv; subst hv; exact h.free)
def catRows (l1 l2 : List UInt32) : Nat → List (List V)
  | 0 => []
  | 1 => rowsW l1
  | _ => rowsW (l1 ++ l2)
def catLen (l1 l2 : List UInt32) : Nat → Nat
  | 0 => 0
  | 1 => l1.length
  | _ => l1.length + l2.length
theorem zeros_free (n : Nat) : ∀ r ∈ List.replicate n [V.int .u32 0], ∀ v ∈ r, Free v := by
  intro r hr v hv
  rw [List.eq_of_mem_replicate hr] at hv; simp at hv; subst hv; exact .int
def catR (r0 : List (List V)) (l1 l2 : List UInt32) : Nat → List (List V)
  | 0 => r0
  | 1 => rowsW l1
  | _ => rowsW (l1 ++ l2)
set_option maxRecDepth 100000 in
theorem concat_ok (fr : Bool) (l1 l2 : List UInt32) (v2 : V) (h2 : IsW fr v2 l2) (n1 : l1.length ≤ 1000) (n2 : l2.length ≤ 1000) : PCon prog 81 [pairV fr l1 v2] (encW true (l1 ++ l2)) := by
  refine callV_of (fn := Go.Proofs.Tryz.f81) (body := _) tab_ok mixed rfl rfl (by decide) (by simp [Go.Proofs.Tryz.f81]) ?_
  (conv => whnf)
  intro _
  (conv => whnf)
  refine vcg_loop tab_ok mixed (fun i : {i : Nat // i ≤ 2} => ⟨[(0, pairV fr l1 v2), (3, cI (catLen l1 l2 i.1)), (9, pairV fr l1 v2), (10, .int .i64 2), (11, cI i.1)], [], 0⟩) (fun i => 2 - i.1) ⟨0, by omega⟩ (Wk.of id [] ⟨.free (pairV_free h2), .int_of rfl, .free (pairV_free h2), .int_of rfl, .int_of rfl, trivial⟩ (LeH.nil (Nat.le_refl _) (fun b h => by omega) (by simp))) (fun i => ?_)
  obtain ⟨i, hi⟩ := i
  rcases i with _ | _ | _ | i
  case succ.succ.succ => omega
  case zero =>
    (conv => whnf)
    refine ⟨rfl, _, ⟨by simp, rfl⟩, ?_⟩
    (conv => whnf)
    intro _
    (conv => whnf)
    have hw : IntKind.i64.wrap (((catLen l1 l2 (⟨0, hi⟩ : {i : Nat // i ≤ 2}).val : Nat) : Int) + ((List.map (fun x => [V.int .u32 x.toNat]) l1).length : Nat)) = (catLen l1 l2 1 : Nat) := by
      simp only [catLen, List.length_map]; rw [wrap64] <;> omega
    split
    · rename_i h; rw [hw] at h; simp at h; omega
    (conv => whnf)
    exact ⟨⟨1, by omega⟩, Wk.of id [] ⟨.free (pairV_free h2), .int_of hw, .free (pairV_free h2), .int_of rfl, .int_of rfl, trivial⟩ (LeH.nil (Nat.le_refl _) (fun b h => by omega) (by simp)), by simp only; omega⟩
  case succ.zero =>
    (conv => whnf)
    refine ⟨rfl, _, ⟨by simp, rfl⟩, ?_⟩
    (conv => whnf)
    have hw : ∀ n : Nat, n = l2.length → IntKind.i64.wrap (((catLen l1 l2 (⟨0 + 1, hi⟩ : {i : Nat // i ≤ 2}).val : Nat) : Int) + (n : Nat)) = (catLen l1 l2 2 : Nat) := by
      intro n hn
      simp only [catLen]; rw [wrap64] <;> omega
    have h2' := h2
    rcases h2' with h | ⟨h, h0⟩
    · rw [h]
      (conv => whnf)
      intro _
      (conv => whnf)
      have hw := hw ((List.map (fun x => [V.int .u32 x.toNat]) l2).length) (by simp)
      split
      · rename_i h; rw [hw] at h; simp at h; omega
      (conv => whnf)
      exact ⟨⟨2, by omega⟩, Wk.of id [] ⟨h ▸ .free (pairV_free h2), .int_of hw, h ▸ .free (pairV_free h2), .int_of rfl, .int_of rfl, trivial⟩ (LeH.nil (Nat.le_refl _) (fun b h => by omega) (by simp)), by simp only; omega⟩
    · rw [h]
      (conv => whnf)
      have hw : IntKind.i64.wrap (((catLen l1 l2 (⟨0 + 1, hi⟩ : {i : Nat // i ≤ 2}).val : Nat) : Int) + 0) = (catLen l1 l2 2 : Nat) := hw 0 (by simp [h0])
      split
      · rename_i h; rw [hw] at h; simp at h; omega
      (conv => whnf)
      exact ⟨⟨2, by omega⟩, Wk.of id [] ⟨h ▸ .free (pairV_free h2), .int_of hw, h ▸ .free (pairV_free h2), .int_of rfl, .int_of rfl, trivial⟩ (LeH.nil (Nat.le_refl _) (fun b h => by omega) (by simp)), by simp only; omega⟩
  case succ.succ.zero =>
    (conv => whnf)
    refine callV_of (fn := Go.Proofs.Tryz.f112) (body := _) tab_ok mixed rfl rfl (by decide) (by simp [Go.Proofs.Tryz.f112]) ?_
    (conv => whnf)
    have hn : IntKind.i64.wrap (((catLen l1 l2 (⟨0 + 1 + 1, hi⟩ : {i : Nat // i ≤ 2}).val : Nat) : Int) - IntKind.i64.wrap (0 - 0)) = (l1.length + l2.length : Nat) := by
      rw [show IntKind.i64.wrap (0 - 0) = 0 by decide]
      simp only [catLen]; rw [wrap64] <;> omega
    split
    · rename_i hc
      (conv => whnf)
      refine ⟨⟨trivial, by simp, rfl, rfl⟩, ?_⟩
      (conv => whnf)
      refine ⟨by rw [hn]; exact ⟨by decide, by omega, by simp [tab, tabOf, nth]; omega, by omega⟩, ?_⟩
      (conv => whnf)
      refine ⟨rfl, .own, ⟨trivial, by simp, by simp, by simp⟩, ?_⟩
      (conv => whnf)
      refine ⟨_, _, _, Ends.here, ?_⟩
      (conv => whnf)
      intro _
      (conv => whnf)
      refine vcg_loop tab_ok mixed (fun i : {i : Nat // i ≤ 2} => ⟨[(6, .osl 0 1 0 (catLen l1 l2 i.1)), (25, pairV fr l1 v2), (26, .int .i64 2), (27, cI i.1)], [(0, some (.arr true false 22 1 (catR (List.replicate (l1.length + l2.length) [.int .u32 0]) l1 l2 i.1)))], 1⟩) (fun i => 2 - i.1) ⟨0, by omega⟩ (Wk.of id [] ⟨.osl_of rfl (by omega) rfl, .free (pairV_free h2), .int_of rfl, .int_of rfl, trivial⟩ (LeH.of ⟨⟨by omega, .inl ⟨by simp, _, rfl, (LeB.eq_of (by simp only [hn, Int.toNat_natCast]; rfl) (by exact zeros_free _))⟩⟩, trivial⟩ (fun _ _ _ _ h => h) (fun _ _ => rfl) (by omega) (by simp))) (fun i => ?_)
      obtain ⟨i, hi⟩ := i
      rcases i with _ | _ | _ | i
      case succ.succ.succ => omega
      case zero =>
        (conv => whnf)
        refine ⟨rfl, _, ⟨by simp, rfl⟩, ?_⟩
        (conv => whnf)
        refine ⟨⟨rfl, rfl, rfl, rfl, by decide⟩, by simp [catLen], ⟨by simp [tab, tabOf, nth, catLen]; omega, by simp [catLen]; omega⟩, ?_⟩
        (conv => whnf)
        refine ⟨⟨1, by omega⟩, Wk.of (renOf [(0, 1)]) [] ⟨.osl_of rfl (by omega) (by simp [catLen]), .free (pairV_free h2), .int_of rfl, .int_of rfl, trivial⟩ (LeH.of ⟨⟨by omega, .inl ⟨by simp, _, rfl, LeB.eq_of ?_ (by exact rowsW_free l1)⟩⟩, trivial⟩ (show ∀ b ∈ [0], ∀ b' ∈ [0], renOf [(0, 1)] b = renOf [(0, 1)] b' → b = b' by decide) (show ∀ b, b < 0 → renOf [(0, 1)] b = b by decide) (by omega) (by simp)), by simp only; omega⟩
        simp [catR, catLen]
      case succ.zero =>
        (conv => whnf)
        refine ⟨rfl, _, ⟨by simp, rfl⟩, ?_⟩
        (conv => whnf)
        have h2' := h2
        rcases h2' with h | ⟨h, h0⟩
        · rw [h]
          (conv => whnf)
          refine ⟨⟨rfl, rfl, rfl, rfl, by decide⟩, by simp [catLen, catR], ⟨by simp [tab, tabOf, nth, catLen]; omega, by simp [catLen]; omega⟩, ?_⟩
          (conv => whnf)
          refine ⟨⟨2, by omega⟩, Wk.of (renOf [(0, 1)]) [] ⟨.osl_of rfl (by omega) (by simp [catLen]), h ▸ .free (pairV_free h2), .int_of rfl, .int_of rfl, trivial⟩ (LeH.of ⟨⟨by omega, .inl ⟨by simp, _, rfl, LeB.eq_of ?_ (rowsW_free (l1 ++ l2))⟩⟩, trivial⟩ (show ∀ b ∈ [0], ∀ b' ∈ [0], renOf [(0, 1)] b = renOf [(0, 1)] b' → b = b' by decide) (show ∀ b, b < 0 → renOf [(0, 1)] b = b by decide) (by omega) (by simp)), by simp only; omega⟩
          simp [catR, catLen]
          exact List.take_of_length_le (by simp)
        · rw [h]
          (conv => whnf)
          refine ⟨_, ⟨rfl, rfl, rfl, rfl, by decide⟩, by simp [catLen, catR], ⟨by simp [tab, tabOf, nth, catLen]; omega, by simp [catLen]; omega⟩, ?_⟩
          (conv => whnf)
          refine ⟨⟨2, by omega⟩, Wk.of (renOf [(0, 1)]) [] ⟨.osl_of rfl (by omega) (by simp [catLen, h0]), h ▸ .free (pairV_free h2), .int_of rfl, .int_of rfl, trivial⟩ (LeH.of ⟨⟨by omega, .inl ⟨by simp, _, rfl, LeB.eq_of ?_ (rowsW_free (l1 ++ l2))⟩⟩, trivial⟩ (show ∀ b ∈ [0], ∀ b' ∈ [0], renOf [(0, 1)] b = renOf [(0, 1)] b' → b = b' by decide) (show ∀ b, b < 0 → renOf [(0, 1)] b = b by decide) (by omega) (by simp)), by simp only; omega⟩
          simp [catR, catLen, h0]
          exact List.take_of_length_le (by simp)
      case succ.succ.zero =>
        (conv => whnf)
        refine Ends.pure [0] (LeV.freeze_of (by simp) rfl (by simp [catLen, catR]) (rowsW_free (l1 ++ l2)) ?_) (one_none rfl)
        simp [catLen, catR]
        exact List.take_of_length_le (by simp)
    · rename_i hc
      have h0 : l1.length + l2.length = 0 := by rw [hn] at hc; simp at hc; omega
      (conv => whnf)
      refine ⟨_, _, _, Ends.here, ?_⟩
      (conv => whnf)
      intro _
      (conv => whnf)
      refine vcg_loop tab_ok mixed (fun i : {i : Nat // i ≤ 2} => ⟨[(6, .osl 0 1 0 0), (25, pairV fr l1 v2), (26, .int .i64 2), (27, cI i.1)], [(0, some (.arr true false 22 1 []))], 1⟩) (fun i => 2 - i.1) ⟨0, by omega⟩ (Wk.of id [] ⟨.osl0, .free (pairV_free h2), .int_of rfl, .int_of rfl, trivial⟩ (LeH.of ⟨⟨by omega, .inr ⟨by simp, _, _, _, _, rfl⟩⟩, trivial⟩ (fun _ _ _ _ h => h) (fun _ _ => rfl) (by omega) (by simp))) (fun i => ?_)
      obtain rfl : l1 = [] := List.eq_nil_of_length_eq_zero (by omega)
      obtain rfl : l2 = [] := List.eq_nil_of_length_eq_zero (by omega)
      obtain ⟨i, hi⟩ := i
      rcases i with _ | _ | _ | i
      case succ.succ.succ => omega
      case zero =>
        (conv => whnf)
        refine ⟨rfl, _, ⟨by simp, rfl⟩, ?_⟩
        (conv => whnf)
        refine ⟨⟨rfl, rfl, rfl, rfl, by decide⟩, by simp, ⟨by simp [tab, tabOf, nth], by simp⟩, ?_⟩
        (conv => whnf)
        refine ⟨⟨1, by omega⟩, Wk.of (renOf [(0, 1)]) [] ⟨.osl_of rfl (by omega) (by simp), .free (pairV_free h2), .int_of rfl, .int_of rfl, trivial⟩ (LeH.of ⟨⟨by omega, .inl ⟨by simp, _, rfl, LeB.eq_of rfl (by intro x hx; simp at hx)⟩⟩, trivial⟩ (show ∀ b ∈ [0], ∀ b' ∈ [0], renOf [(0, 1)] b = renOf [(0, 1)] b' → b = b' by decide) (show ∀ b, b < 0 → renOf [(0, 1)] b = b by decide) (by omega) (by simp)), by simp only; omega⟩
      case succ.zero =>
        (conv => whnf)
        refine ⟨rfl, _, ⟨by simp, rfl⟩, ?_⟩
        (conv => whnf)
        have h2' := h2
        rcases h2' with h | ⟨h, h0⟩
        · rw [h]
          (conv => whnf)
          refine ⟨⟨rfl, rfl, rfl, rfl, by decide⟩, by simp, ⟨by simp [tab, tabOf, nth], by simp⟩, ?_⟩
          (conv => whnf)
          refine ⟨⟨2, by omega⟩, Wk.of (renOf [(0, 1)]) [] ⟨.osl_of rfl (by omega) (by simp), h ▸ .free (pairV_free h2), .int_of rfl, .int_of rfl, trivial⟩ (LeH.of ⟨⟨by omega, .inl ⟨by simp, _, rfl, LeB.eq_of rfl (by intro x hx; simp at hx)⟩⟩, trivial⟩ (show ∀ b ∈ [0], ∀ b' ∈ [0], renOf [(0, 1)] b = renOf [(0, 1)] b' → b = b' by decide) (show ∀ b, b < 0 → renOf [(0, 1)] b = b by decide) (by omega) (by simp)), by simp only; omega⟩
        · rw [h]
          (conv => whnf)
          refine ⟨_, ⟨rfl, rfl, rfl, rfl, by decide⟩, by simp, ⟨by simp [tab, tabOf, nth], by simp⟩, ?_⟩
          (conv => whnf)
          refine ⟨⟨2, by omega⟩, Wk.of (renOf [(0, 1)]) [] ⟨.osl_of rfl (by omega) (by simp), h ▸ .free (pairV_free h2), .int_of rfl, .int_of rfl, trivial⟩ (LeH.of ⟨⟨by omega, .inl ⟨by simp, _, rfl, LeB.eq_of rfl (by intro x hx; simp at hx)⟩⟩, trivial⟩ (show ∀ b ∈ [0], ∀ b' ∈ [0], renOf [(0, 1)] b = renOf [(0, 1)] b' → b = b' by decide) (show ∀ b, b < 0 → renOf [(0, 1)] b = b by decide) (by omega) (by simp)), by simp only; omega⟩
      case succ.succ.zero =>
        (conv => whnf)
        exact Ends.pure [0] (LeV.freeze_of (by simp) rfl (by simp) (by intro x hx; simp at hx) rfl) (one_none rfl)
end Go.Proofs.YtjpfofmkgdjelaaGreat
/- Contracts: two parses. -/
set_option linter.unusedVariables false
set_option linter.unusedSimpArgs false
namespace Go.Proofs.YtjpfofmkgdjelaaGreat
open Go.RowKit
open Go.Proofs.Tryz (prog)
attribute [local irreducible] CallV RoundV

def noA : Attrs := ⟨0, [], 0, false, 0, false, 0, []⟩
theorem LeV.noA {h : Heap} {nx nx' : Nat} {ρ : Nat → Nat} {Z : List Nat} {fr : Bool} : LeV h nx ρ nx' Z (.agg zeroA) (encA fr noA) :=
  .aggL ⟨.free .int, .snil_sl, .free .int, .free .bool, .free .int, .free .bool, .free .int, .snil_sl, trivial⟩
def parseE (fr : Bool) (a : Attrs) (e : Int) : V := .tup [encA fr a, .int .i64 e]
def badB : List UInt8 := [64, 1, 1, 3]
end Go.Proofs.YtjpfofmkgdjelaaGreat
/- Contract: one system laid ahead of no path. -/
set_option linter.unusedVariables false
set_option linter.unusedSimpArgs false
namespace Go.Proofs.YtjpfofmkgdjelaaGreat
open Go.RowKit
open Go.Proofs.Tryz (prog)
attribute [local irreducible] CallV RoundV

def nineA : Attrs := ⟨0, [], 9, false, 0, false, 0, []⟩
def nineV : V := .agg [.int .u8 0, .snil, .int .u32 9, .bool false, .int .u32 0, .bool false, .int .u32 0, .snil]
theorem LeV.nineA {h : Heap} {nx nx' : Nat} {ρ : Nat → Nat} {Z : List Nat} {fr : Bool} : LeV h nx ρ nx' Z nineV (encA fr nineA) :=
  .aggL ⟨.free .int, .snil_sl, .int_of rfl, .free .bool, .free .int, .free .bool, .free .int, .snil_sl, trivial⟩
def sevenA : Attrs := ⟨0, [⟨false, [7, 7]⟩], 9, false, 0, false, 0, []⟩
theorem Ends.ownNil {s : St} {sz : Nat} {fr ex : Bool} {ty : TypeId} : ∃ v1 h' nx', Ends 0 s .snil v1 h' nx' ∧ (v1 = .osl 0 sz 0 0 ∧ h' = [(0, some (.arr fr ex ty sz []))] ∧ nx' = 1) :=
  ⟨.osl 0 sz 0 0, [(0, some (.arr fr ex ty sz []))], 1, Ends.of (fun _ => s.nx) [] .osl0 (LeH.of ⟨⟨by omega, .inr ⟨by simp, _, _, _, _, rfl⟩⟩, trivial⟩ (by simp) (fun b hb => by omega) (by omega) (by simp)), rfl, rfl, rfl⟩
set_option maxRecDepth 100000 in
theorem cloneW_ok (fr : Bool) (v : V) (l : List UInt32) (h : IsW fr v l) (hl : l.length ≤ 1000000) : OCon prog 77 [v] true false 22 1 l.length (rowsW l) := by
  rcases h with rfl | ⟨rfl, rfl⟩
  · rcases l with _ | ⟨x, l⟩
    · refine callV_of (fn := Go.Proofs.Tryz.f77) (body := _) tab_ok mixed rfl rfl (by decide) (by simp [Go.Proofs.Tryz.f77]) ?_
      (conv => whnf)
      refine ⟨?_, ?_⟩
      · (conv => whnf)
        exact Ends.ownNil
      · (conv => whnf)
        refine ⟨⟨rfl, rfl, rfl, rfl, by decide⟩, by simp, ⟨by simp [tab, tabOf, nth], by simp⟩, ?_⟩
        (conv => whnf)
        exact Ends.own rfl (rowsW_free []) rfl rfl
    · refine callV_of (fn := Go.Proofs.Tryz.f77) (body := _) tab_ok mixed rfl rfl (by decide) (by simp [Go.Proofs.Tryz.f77]) ?_
      (conv => whnf)
      refine ⟨⟨rfl, rfl, rfl, rfl, by decide⟩, by simp, ⟨by simp [tab, tabOf, nth] at *; omega, by simp at *; omega⟩, ?_⟩
      (conv => whnf)
      exact Ends.own rfl (rowsW_free (x :: l)) (by simp) rfl
  · refine callV_of (fn := Go.Proofs.Tryz.f77) (body := _) tab_ok mixed rfl rfl (by decide) (by simp [Go.Proofs.Tryz.f77]) ?_
    (conv => whnf)
    refine ⟨?_, ?_⟩
    · (conv => whnf)
      exact Ends.ownNil
    · (conv => whnf)
      refine ⟨_, ⟨rfl, rfl, rfl, rfl, by decide⟩, by simp, ⟨by simp [tab, tabOf, nth], by simp⟩, ?_⟩
      (conv => whnf)
      exact Ends.own rfl (rowsW_free []) rfl rfl
set_option maxRecDepth 100000 in
theorem cloneL_nil : OCon prog 76 [.snil] true false 65 2 0 [] := by
  refine callV_of (fn := Go.Proofs.Tryz.f76) (body := _) tab_ok mixed rfl rfl (by decide) (by simp [Go.Proofs.Tryz.f76]) ?_
  (conv => whnf)
  refine ⟨?_, ?_⟩
  · (conv => whnf)
    exact Ends.ownNil
  · (conv => whnf)
    refine ⟨_, ⟨rfl, rfl, rfl, rfl, by decide⟩, by simp, ⟨by simp [tab, tabOf, nth], by simp⟩, ?_⟩
    (conv => whnf)
    exact Ends.own rfl (by simp) rfl rfl
theorem Less.encW {l : List UInt32} : Less (encW true l) (encW false l) := .sl (by simp) rfl fun j v v' h1 h2 => by rw [h1] at h2; cases h2; exact Less.refl _
theorem Less.pair {l1 : List UInt32} {v2 v2' : V} (h : Less v2 v2') : Less (pairV true l1 v2) (pairV false l1 v2') := .sl (by simp) rfl fun j v v' h1 h2 => by
  rcases j with _ | _ | j
  · simp at h1 h2; subst h1; subst h2; exact .encW
  · simp at h1 h2; subst h1; subst h2; exact h
  · simp at h1
theorem legs_less : ∀ (l : List Leg) (j : Nat) (v v' : V), (l.map (encLeg true)).flatten[j]? = some v → (l.map (encLeg false)).flatten[j]? = some v' → Less v v'
  | [], j, v, v', h1, h2 => by simp at h1
  | p :: l, j, v, v', h1, h2 => by
    rcases j with _ | _ | j
    · simp [encLeg] at h1 h2; subst h1; subst h2; exact Less.refl _
    · simp [encLeg] at h1 h2; subst h1; subst h2; exact .encW
    · simp [encLeg] at h1 h2
      exact legs_less l j v v' (by simpa [encLeg] using h1) (by simpa [encLeg] using h2)
theorem Less.legs {l : List Leg} : Less (encLegs true l) (encLegs false l) := .sl (by simp) (by rw [List.map_map, List.map_map]; rfl) (legs_less l)
theorem pairV_cold {l1 l2 : List UInt32} {v2 : V} (h : IsW false v2 l2) : Cold (pairV false l1 v2) := .sl (by
  intro x hx v hv
  simp at hx
  rcases hx with rfl | rfl
  · simp at hv; subst hv; exact encW_cold _
  · simp at hv; subst hv; exact h.cold)
theorem encW_rows_free {vs : List V} (h : ∀ v ∈ vs, Free v) : ∀ x ∈ vs.map (fun v => [v]), ∀ v ∈ x, Free v := by
  intro x hx v hv
  obtain ⟨y, hy, rfl⟩ := List.mem_map.1 hx
  simp at hv; subst hv; exact h _ hy
set_option maxRecDepth 100000 in
theorem prepend_seven : PCon prog 47 [nineV, cW 7, cI 2] (parseE true sevenA 0) := by
  refine callV_of (fn := Go.Proofs.Tryz.f47) (body := _) tab_ok mixed rfl rfl (by decide) (by simp [Go.Proofs.Tryz.f47]) ?_
  (conv => whnf)
  refine callV_pure (check_ok true nineA) ⟨.nineA, trivial⟩ ?_
  have hc : checkA nineA = 0 := by decide
  rw [hc]
  (conv => whnf)
  refine callV_of (fn := Go.Proofs.Tryz.f41) (body := _) tab_ok mixed rfl rfl (by decide) (by simp [Go.Proofs.Tryz.f41]) ?_
  (conv => whnf)
  refine callV_own [] cloneL_nil ⟨.free .snil, trivial⟩ (by simp; exact .snil) (by simp) (by simp) ?_
  (conv => whnf)
  intro _
  (conv => whnf)
  refine vcg_once tab_ok mixed ?_
  (conv => whnf)
  refine callV_own [] (cloneW_ok false .snil [] (.inr ⟨rfl, rfl⟩) (by simp)) ⟨.free .snil, trivial⟩ (by simp; exact .snil) (by simp) (by simp) ?_
  (conv => whnf)
  refine ⟨_, _, _, Ends.here, ?_⟩
  (conv => whnf)
  intro _
  (conv => whnf)
  refine callV_of (fn := Go.Proofs.Tryz.f80) (body := _) tab_ok mixed rfl rfl (by decide) (by simp [Go.Proofs.Tryz.f80]) ?_
  (conv => whnf)
  refine ⟨rfl, ⟨by simp, by simp⟩, ?_⟩
  (conv => whnf)
  intro _
  (conv => whnf)
  intro _
  (conv => whnf)
  refine ⟨rfl, by simp, ⟨rfl, rfl, rfl, rfl, by decide⟩, by simp, ⟨by simp [tab, tabOf, nth], by simp⟩, ?_⟩
  (conv => whnf)
  refine ⟨_, _, _, Ends.here, ?_⟩
  (conv => whnf)
  refine ⟨encW true (List.replicate 2 7), [(8, some (.arr true true 22 1 (rowsW [7])))], fun h nx hrd => ?_, ?_, ?_⟩
  · have h8 := hrd 8 _ (List.mem_singleton.2 rfl)
    refine pureV_lend [8] (repeat_ok false 7 2 (by omega)) ⟨LeV.fresh_off (LeV.freeze_of (by simp) h8 (by simp) (rowsW_free [7]) rfl), .free .int, trivial⟩ ?_ (one_none h8) (encW_fresh _)
    intro v hv
    simp at hv
    rcases hv with rfl | rfl
    · exact encW_cold _
    · exact .int
  · intro b ob hm
    obtain ⟨rfl, rfl⟩ : b = 8 ∧ ob = _ := by simpa using hm
    rfl
  (conv => whnf)
  refine ⟨rfl, ⟨by decide, by decide⟩, ?_⟩
  (conv => whnf)
  refine ⟨rfl, _, rfl, ?_⟩
  (conv => whnf)
  refine ⟨encW true [7, 7], [(9, some (.arr true true 31 1 [[encW true [7, 7]], [.snil]]))], fun h nx hrd => ?_, ?_, ?_⟩
  · have h9 := hrd 9 _ (List.mem_singleton.2 rfl)
    refine pureV_lend [9] (concat_ok false [7, 7] [] .snil (.inr ⟨rfl, rfl⟩) (by simp) (by simp)) ⟨.less (v1 := pairV true [7, 7] .snil) (LeV.freeze_of (by simp) h9 (by simp) (encW_rows_free (vs := [encW true [7, 7], .snil]) (by intro v hv; simp at hv; rcases hv with rfl | rfl; exact encW_free _ _; exact .snil)) rfl) (.pair (Less.refl _)), trivial⟩ ?_ (one_none h9) (encW_fresh _)
    intro v hv
    simp at hv
    subst hv
    exact pairV_cold (.inr ⟨rfl, rfl⟩)
  · intro b ob hm
    obtain ⟨rfl, rfl⟩ : b = 9 ∧ ob = _ := by simpa using hm
    rfl
  (conv => whnf)
  refine ⟨rfl, ⟨by decide, by decide⟩, ?_⟩
  (conv => whnf)
  refine ⟨rfl, _, rfl, ?_⟩
  (conv => whnf)
  refine ⟨by kernel_rfl, ?_⟩
  (conv => whnf)
  refine callV_lend [7] (path_ok false [⟨false, [7, 7]⟩]) ⟨.less (v1 := encLegs true [⟨false, [7, 7]⟩]) (LeV.freeze_of (by simp) rfl (by decide) (rowsLegs_free true [⟨false, [7, 7]⟩]) rfl) .legs, trivial⟩ (by intro v hv; simp at hv; subst hv; exact encLegs_cold _) (one_none rfl) .bool ?_
  have hp : pathOk [⟨false, [7, 7]⟩] = true := by decide
  rw [hp]
  (conv => whnf)
  refine Ends.pure [7, 5] (.tupL ⟨.aggL ⟨.free .int, LeV.freeze_of (by simp) rfl (by decide) (rowsLegs_free true [⟨false, [7, 7]⟩]) rfl, .int_of rfl, .free .bool, .free .int, .free .bool, .free .int, LeV.freeze_of (by simp) rfl (by decide) (by simp) rfl, trivial⟩, .int_of rfl, trivial⟩) ?_
  intro z hz
  simp at hz
  rcases hz with rfl | rfl
  · exact ne_none_of rfl
  · exact ne_none_of rfl
end Go.Proofs.YtjpfofmkgdjelaaGreat
/- Contract: the chapter's rows. -/
set_option linter.unusedVariables false
set_option linter.unusedSimpArgs false
namespace Go.Proofs.YtjpfofmkgdjelaaGreat
open Go.RowKit
open Go.Proofs.Tryz (prog)
attribute [local irreducible] CallV RoundV

def rowB : List UInt8 := [64, 1, 1, 0, 64, 2, 0, 64, 3, 4, 0, 0, 0, 9]
theorem raw_nine : rawE nineA = .tup [encB true rowB, .int .i64 0] := by
  rw [rawE_yes (by decide)]
  rfl
theorem parseE_fresh (a : Attrs) (e : Int) : Fresh (parseE true a e) := .tup (by intro v hv; simp at hv; rcases hv with rfl | rfl; exact encA_fresh _; exact .int)
def legA : Leg := ⟨false, [1, 2]⟩
def legB' : Leg := ⟨true, [3, 4]⟩
def oneA : Attrs := ⟨0, [legB'], 0, false, 0, false, 0, []⟩
theorem cons_free {a b : V} (h1 : Free a) (h2 : Free b) : ∀ v ∈ [a, b], Free v := by intro v hv; simp at hv; rcases hv with rfl | rfl <;> assumption
end Go.Proofs.YtjpfofmkgdjelaaGreat
/- Contract: the law AttrsRaws. -/
set_option linter.unusedVariables false
set_option linter.unusedSimpArgs false
namespace Go.Proofs.YtjpfofmkgdjelaaGreat
open Go.RowKit
open Go.Proofs.Tryz (prog)
attribute [local irreducible] CallV RoundV

theorem sameA_refl (a : Attrs) : sameA a a = true := by
  simp [sameA]
end Go.Proofs.YtjpfofmkgdjelaaGreat
/- The law of reading: what bytes say. -/
set_option linter.unusedVariables false
set_option linter.unusedSimpArgs false
namespace Go.Proofs.YtjpfofmkgdjelaaGreat
open Go.RowKit

theorem numsK_take (r : List UInt8) (m n : Nat) (h : 4 * m ≤ n) : numsK (r.take n) m = numsK r m := by
  unfold numsK
  refine List.map_congr_left fun j hj => ?_
  have hj : j < m := by simpa using hj
  congr 1
  rw [List.drop_take, List.take_take]
  congr 1
  omega
/-- A path's parts, each with its kind. -/
def legs (v : List UInt8) : Option (List (UInt8 × List UInt32)) :=
  match v with
  | [] => some []
  | [_] => none
  | x :: n :: r => if r.length < 4 * n.toNat then none else (legs (r.drop (4 * n.toNat))).map ((x, numsK r n.toNat) :: ·)
termination_by v.length
decreasing_by simp; omega
theorem legs_nil : legs [] = some [] := by rw [legs]
theorem legs_one (x : UInt8) : legs [x] = none := by rw [legs]
theorem legs_no {x n : UInt8} {r : List UInt8} (h : r.length < 4 * n.toNat) : legs (x :: n :: r) = none := by rw [legs, if_pos h]
theorem legs_go {x n : UInt8} {r : List UInt8} (h : ¬ r.length < 4 * n.toNat) : legs (x :: n :: r) = (legs (r.drop (4 * n.toNat))).map ((x, numsK r n.toNat) :: ·) := by rw [legs, if_neg h]
def kindOk (x : UInt8) : Bool := x == 1 || x == 2
def legOf (p : UInt8 × List UInt32) : Leg := ⟨p.1 == 1, p.2⟩
def pathE (v : List UInt8) : Int := match legs v with
  | none => 294
  | some l => if l.all (fun p => kindOk p.1) && pathOk (l.map legOf) then 0 else 296
def pathA (v : List UInt8) : List Leg := match legs v with
  | none => []
  | some l => l.map legOf
/-- Whether a value is one of a code. -/
def lowE (c : Nat) (v : List UInt8) : Int :=
  if c = 1 then (if v.length ≠ 1 then 294 else if 2 < (v.getD 0 0).toNat then 295 else 0)
  else if c = 2 then pathE v
  else if c = 3 then (if v.length ≠ 4 then 294 else if wordOf v = 0 then 297 else 0)
  else if c = 4 then (if v.length ≠ 4 then 294 else 0)
  else if c = 5 then (if v.length ≠ 4 then 294 else 0)
  else (if v.length = 0 ∨ v.length % 4 ≠ 0 then 294 else if 16 < v.length / 4 ∨ rises (numsK v (v.length / 4)) = false then 298 else 0)
def lowA (c : Nat) (a : Attrs) (v : List UInt8) : Attrs :=
  if c = 1 then { a with origin := v.getD 0 0 }
  else if c = 2 then { a with path := pathA v }
  else if c = 3 then { a with next := wordOf v }
  else if c = 4 then { a with hasMed := true, med := wordOf v }
  else if c = 5 then { a with hasPref := true, pref := wordOf v }
  else { a with tags := numsK v (v.length / 4) }
def flagsI (c : Nat) : Int := if c = 1 then 64 else if c = 2 then 64 else if c = 3 then 64 else if c = 5 then 64 else if c = 4 then 128 else if c = 8 then 192 else -1
def byteN (b : List UInt8) (i : Nat) : Nat := (b.getD i 0).toNat
theorem byteN_lt (b : List UInt8) (i : Nat) : byteN b i < 256 := (b.getD i 0).toNat_lt
def lngB (b : List UInt8) : Bool := byteN b 0 / 16 % 2 == 1
def numB (b : List UInt8) : Nat := if lngB b then 256 * byteN b 2 + byteN b 3 else byteN b 2
def atB (b : List UInt8) : Nat := if lngB b then 4 else 3
def headE (b : List UInt8) (last : Nat) : Int :=
  if b.length < 3 then 290
  else if lngB b = true ∧ b.length < 4 then 290
  else if b.length < atB b + numB b then 290
  else if flagsI (byteN b 1) < 0 then 291
  else if (byteN b 0 : Int) - (if lngB b then 16 else 0) ≠ flagsI (byteN b 1) ∨ lngB b ≠ decide (255 < numB b) then 292
  else if byteN b 1 ≤ last then 293 else 0
def valB (b : List UInt8) : List UInt8 := (b.drop (atB b)).take (numB b)
def restB (b : List UInt8) : List UInt8 := b.drop (atB b + numB b)
theorem restB_lt {b : List UInt8} (h : b ≠ []) : (restB b).length < b.length := by
  have h0 := List.length_pos_iff.2 h
  have : 3 ≤ atB b := by unfold atB; split <;> omega
  simp only [restB, List.length_drop]
  omega
/-- What bytes say, or why nothing. -/
def parseA (b : List UInt8) (last seen : Nat) (a : Attrs) : Attrs × Int :=
  if hb : b = [] then (if seen = 3 then (a, 0) else (noA, 299))
  else if headE b last ≠ 0 then (noA, headE b last)
  else if lowE (byteN b 1) (valB b) ≠ 0 then (noA, lowE (byteN b 1) (valB b))
  else parseA (restB b) (byteN b 1) (if byteN b 1 ≤ 3 then seen + 1 else seen) (lowA (byteN b 1) a (valB b))
termination_by b.length
decreasing_by exact restB_lt hb
theorem parseA_nil (last seen : Nat) (a : Attrs) : parseA [] last seen a = if seen = 3 then (a, 0) else (noA, 299) := by rw [parseA]; simp
theorem parseA_head {b : List UInt8} {last seen : Nat} {a : Attrs} (hb : b ≠ []) (h : headE b last ≠ 0) : parseA b last seen a = (noA, headE b last) := by rw [parseA, dif_neg hb, if_pos h]
theorem parseA_low {b : List UInt8} {last seen : Nat} {a : Attrs} (hb : b ≠ []) (h : headE b last = 0) (h2 : lowE (byteN b 1) (valB b) ≠ 0) : parseA b last seen a = (noA, lowE (byteN b 1) (valB b)) := by
  rw [parseA, dif_neg hb, if_neg (by simp [h]), if_pos h2]
theorem parseA_go {b : List UInt8} {last seen : Nat} {a : Attrs} (hb : b ≠ []) (h : headE b last = 0) (h2 : lowE (byteN b 1) (valB b) = 0) :
    parseA b last seen a = parseA (restB b) (byteN b 1) (if byteN b 1 ≤ 3 then seen + 1 else seen) (lowA (byteN b 1) a (valB b)) := by
  rw [parseA, dif_neg hb, if_neg (by simp [h]), if_neg (by simp [h2])]
end Go.Proofs.YtjpfofmkgdjelaaGreat
/- Contracts by reference: values read. -/
set_option linter.unusedVariables false
set_option linter.unusedSimpArgs false
namespace Go.Proofs.YtjpfofmkgdjelaaGreat
open Go.RowKit
open Go.Proofs.Tryz (prog)
attribute [local irreducible] CallV RoundV

/-- A reader's attributes: the path's cell is nil until one is read. -/
def pathV (q : Bool) (a : Attrs) : V := if q then encLegs true a.path else .snil
theorem pathV_free (q : Bool) (a : Attrs) : Free (pathV q a) := by
  unfold pathV
  split
  · exact encLegs_free _ _
  · exact .snil
def cellsR (q : Bool) (a : Attrs) : List V := [cB a.origin, pathV q a, cW a.next, .bool a.hasMed, cW a.med, .bool a.hasPref, cW a.pref, encW true a.tags]
theorem cellsR_free (q : Bool) (a : Attrs) : ∀ v ∈ cellsR q a, Free v := by
  intro v hv
  simp only [cellsR, List.mem_cons, List.not_mem_nil, or_false] at hv
  rcases hv with rfl | rfl | rfl | rfl | rfl | rfl | rfl | rfl <;> first | exact .int | exact .bool | exact pathV_free _ _ | exact encW_free _ _
theorem LeL.anys {h : Heap} {nx : Nat} {ρ : Nat → Nat} {nx' : Nat} {Z : List Nat} : ∀ {cs : List V} {n : Nat}, cs.length = n → LeL h nx ρ nx' Z cs (List.replicate n .any)
  | [], 0, _ => trivial
  | [], n + 1, h => by simp at h
  | c :: cs, 0, h => by simp at h
  | c :: cs, n + 1, h => ⟨.to_any, LeL.anys (cs := cs) (by simpa using h)⟩
end Go.Proofs.YtjpfofmkgdjelaaGreat
/- Contracts by reference: values of four bytes. -/
set_option linter.unusedVariables false
set_option linter.unusedSimpArgs false
namespace Go.Proofs.YtjpfofmkgdjelaaGreat
open Go.RowKit
open Go.Proofs.Tryz (prog)
attribute [local irreducible] CallV RoundV

end Go.Proofs.YtjpfofmkgdjelaaGreat
/- Contract by reference: tags. -/
set_option linter.unusedVariables false
set_option linter.unusedSimpArgs false
namespace Go.Proofs.YtjpfofmkgdjelaaGreat
open Go.RowKit
open Go.Proofs.Tryz (prog)
attribute [local irreducible] CallV RoundV

theorem tmod4 (n : Nat) : (n : Int).tmod 4 = (n % 4 : Nat) := by rw [Int.tmod_eq_emod_of_nonneg (by omega)]; omega
end Go.Proofs.YtjpfofmkgdjelaaGreat
/- Contract by reference: a path. -/
set_option linter.unusedVariables false
set_option linter.unusedSimpArgs false
namespace Go.Proofs.YtjpfofmkgdjelaaGreat
open Go.RowKit
open Go.Proofs.Tryz (prog)
attribute [local irreducible] CallV RoundV

abbrev rowsL (l : List Leg) : List (List V) := l.map (encLeg true)
/-- A path's value, read so far: what is left, what was told, and the law's word on the whole. -/
structure Way (v : List UInt8) where
  left : List UInt8
  told : List (UInt8 × List UInt32)
  law : legs v = (legs left).map (told ++ ·)
  len : left.length ≤ v.length
  few : 2 * told.length + left.length ≤ v.length
def wayA (told : List (UInt8 × List UInt32)) : List Leg := told.map legOf
/-- The cells ahead of and behind the path. -/
def cellsW (a : Attrs) (p : V) : List V := [cB a.origin, p, cW a.next, .bool a.hasMed, cW a.med, .bool a.hasPref, cW a.pref, encW true a.tags]
theorem u8_is (x : UInt8) (k : Nat) (hk : k < 256) : ((x.toNat : Int) == (k : Int)) = (x == UInt8.ofNat k) := by
  cases h : x == UInt8.ofNat k with
  | true =>
    have h := eq_of_beq h
    subst h
    simp [UInt8.toNat_ofNat']
    omega
  | false =>
    have h : x ≠ UInt8.ofNat k := by simpa using h
    simp only [beq_eq_false_iff_ne, ne_eq]
    intro e
    exact h (UInt8.toNat_inj.1 (by simp [UInt8.toNat_ofNat']; omega))
theorem u8_is1 (x : UInt8) : ((x.toNat : Int) == 1) = (x == 1) := u8_is x 1 (by decide)
theorem u8_is2 (x : UInt8) : ((x.toNat : Int) == 2) = (x == 2) := u8_is x 2 (by decide)
end Go.Proofs.YtjpfofmkgdjelaaGreat
/- Contract by reference: one attribute read. -/
set_option linter.unusedVariables false
set_option linter.unusedSimpArgs false
namespace Go.Proofs.YtjpfofmkgdjelaaGreat
open Go.RowKit
open Go.Proofs.Tryz (prog)
attribute [local irreducible] CallV RoundV

theorem and16 : ∀ n : Nat, n < 256 → decide (0 < bits .and .u8 (n : Int) 16) = (n / 16 % 2 == 1) := by decide +kernel
theorem andNot16 : ∀ n : Nat, n < 256 → bits .andNot .u8 (n : Int) 16 = (n : Int) - (if (n / 16 % 2 == 1) = true then 16 else 0) := by decide +kernel
theorem or_len (x y : UInt8) : bits .or .i64 (IntKind.i64.wrap (IntKind.i64.wrap (x.toNat : Int) * 2 ^ (min (Int.toNat 8) IntKind.i64.bits))) (IntKind.i64.wrap (y.toNat : Int)) = (256 * x.toNat + y.toNat : Nat) := by
  have hx := x.toNat_lt
  have hy := y.toNat_lt
  have e : (2 : Int) ^ (min (Int.toNat 8) IntKind.i64.bits) = 256 := by decide
  rw [e, wrap64 (n := (x.toNat : Int)) (by omega) (by omega), wrap64 (n := (y.toNat : Int)) (by omega) (by omega), wrap64 (by omega) (by omega)]
  rw [bits_join .i64 63 (by decide) (fun n h0 h1 => by rw [wrap64] <;> omega) 8 _ _ (by omega) (by omega) (by omega) (by omega) (by omega) (by omega)]
  omega
def oneE (b : List UInt8) (last : Nat) : Int := if headE b last ≠ 0 then headE b last else lowE (byteN b 1) (valB b)
def readerV (fr : Bool) (b : List UInt8) (last seen : Nat) (q : Bool) (a : Attrs) : List V := encB fr b :: .int .u8 last :: cI seen :: cellsR q a
theorem readerV_free (fr : Bool) (b : List UInt8) (last seen : Nat) (q : Bool) (a : Attrs) : ∀ x ∈ readerV fr b last seen q a, Free x := by
  intro x hx
  simp only [readerV, List.mem_cons] at hx
  rcases hx with rfl | rfl | rfl | hx
  · exact encB_free _ _
  · exact .int
  · exact .int
  · exact cellsR_free _ _ x hx
theorem headE_short {b : List UInt8} {last : Nat} (h : b.length < 3) : oneE b last = 290 := by simp [oneE, headE, h]
def codesL : List Nat := [1, 2, 3, 4, 5, 8]
theorem head_is {b : List UInt8} {last : Nat} (h3 : 3 ≤ b.length) (h4 : lngB b = true → 4 ≤ b.length) (hl : atB b + numB b ≤ b.length) (hf : 0 ≤ flagsI (byteN b 1)) :
    headE b last = if (byteN b 0 : Int) - (if lngB b then 16 else 0) ≠ flagsI (byteN b 1) ∨ lngB b ≠ decide (255 < numB b) then 292 else if byteN b 1 ≤ last then 293 else 0 := by
  unfold headE
  rw [if_neg (by omega), if_neg (by rintro ⟨h1, h2⟩; have := h4 h1; omega), if_neg (by omega), if_neg (by omega)]
theorem rest8_free {fr : Bool} {b : List UInt8} {x : UInt8} {seen : Nat} {c8 : List V} (h : ∀ x ∈ c8, Free x) {n : Nat} : ∀ v ∈ (V.sl fr 1 (List.drop n (b.map fun x => [V.int .u8 x.toNat])) :: cB x :: cI seen :: c8), Free v := by
  intro v hv
  simp only [List.mem_cons] at hv
  rcases hv with rfl | rfl | rfl | hv
  · rw [← List.map_drop]; exact encB_free _ _
  · exact .int
  · exact .int
  · exact h v hv
theorem eight {c8 : List V} (h : c8.length = 8) : ∃ a0 a1 a2 a3 a4 a5 a6 a7, c8 = [a0, a1, a2, a3, a4, a5, a6, a7] := by
  rcases c8 with _ | ⟨a0, _ | ⟨a1, _ | ⟨a2, _ | ⟨a3, _ | ⟨a4, _ | ⟨a5, _ | ⟨a6, _ | ⟨a7, _ | ⟨a8, l⟩⟩⟩⟩⟩⟩⟩⟩⟩
  all_goals first | (exact ⟨a0, a1, a2, a3, a4, a5, a6, a7, rfl⟩) | (simp at h)
theorem LeL.of_eq {h : Heap} {nx : Nat} {ρ : Nat → Nat} {nx' : Nat} {Z : List Nat} {cs cs' : List V} (e : cs = cs') (hf : ∀ v ∈ cs', Free v) : LeL h nx ρ nx' Z cs cs' := by subst e; exact LeL.free hf
theorem rest_free (fr : Bool) (b : List UInt8) (x : UInt8) (seen : Nat) (q : Bool) (a : Attrs) {n : Nat} : ∀ v ∈ (V.sl fr 1 (List.drop n (b.map fun x => [V.int .u8 x.toNat])) :: cB x :: cI seen :: cellsR q a), Free v := by
  intro v hv
  simp only [List.mem_cons] at hv
  rcases hv with rfl | rfl | rfl | hv
  · rw [← List.map_drop]; exact encB_free _ _
  · exact .int
  · exact .int
  · exact cellsR_free _ _ v hv
theorem iptr_fn_free (n : Nat) : Free (.iptr true [fnV n]) := .iptr (by intro v hv; simp at hv; subst hv; exact fnV_free _)
theorem flags_none {n : Nat} (h : ∀ j, j < 6 → codesL.getD j 0 ≠ n) : flagsI n = -1 := by
  have h0 := h 0 (by omega)
  have h1 := h 1 (by omega)
  have h2 := h 2 (by omega)
  have h3 := h 3 (by omega)
  have h4 := h 4 (by omega)
  have h5 := h 5 (by omega)
  simp [codesL] at h0 h1 h2 h3 h4 h5
  unfold flagsI
  rw [if_neg (by omega), if_neg (by omega), if_neg (by omega), if_neg (by omega), if_neg (by omega), if_neg (by omega)]
end Go.Proofs.YtjpfofmkgdjelaaGreat
/- Contract: all attributes read. -/
set_option linter.unusedVariables false
set_option linter.unusedSimpArgs false
namespace Go.Proofs.YtjpfofmkgdjelaaGreat
open Go.RowKit
open Go.Proofs.Tryz (prog)
attribute [local irreducible] CallV RoundV

/-- Where a reading stands. -/
structure At (b : List UInt8) where
  rest : List UInt8
  last : Nat
  seen : Nat
  q : Bool
  a : Attrs
  law : parseA b 0 0 noA = parseA rest last seen a
  lim : last < 256
  cnt : seen + rest.length ≤ b.length
  nop : last < 2 → q = false
  nil : q = false → a.path = []
theorem oneE_zero {b : List UInt8} {last : Nat} (h : oneE b last = 0) : headE b last = 0 ∧ lowE (byteN b 1) (valB b) = 0 := by
  unfold oneE at h
  split at h
  · rename_i h1; exact absurd h h1
  · rename_i h1; exact ⟨by simpa using h1, h⟩
theorem parseA_err {b : List UInt8} {last seen : Nat} {a : Attrs} (hb : b ≠ []) (h : oneE b last ≠ 0) : parseA b last seen a = (noA, oneE b last) := by
  by_cases h1 : headE b last = 0
  · have : oneE b last = lowE (byteN b 1) (valB b) := by simp [oneE, h1]
    rw [this] at h ⊢
    exact parseA_low hb h1 h
  · have : oneE b last = headE b last := by simp [oneE, h1]
    rw [this]
    exact parseA_head hb h1
def At.next {b : List UInt8} (k : At b) (hb : k.rest ≠ []) (h : oneE k.rest k.last = 0) : At b where
  rest := restB k.rest
  last := byteN k.rest 1
  seen := if byteN k.rest 1 ≤ 3 then k.seen + 1 else k.seen
  q := k.q || byteN k.rest 1 == 2
  a := lowA (byteN k.rest 1) k.a (valB k.rest)
  law := k.law.trans (parseA_go hb (oneE_zero h).1 (oneE_zero h).2)
  lim := byteN_lt _ _
  cnt := by
    have := restB_lt hb
    have := k.cnt
    split <;> omega
  nop := fun hl => by
    have h1 : ¬ byteN k.rest 1 ≤ k.last := by
      have := (oneE_zero h).1
      unfold headE at this
      intro hle
      rw [if_pos hle] at this
      revert this
      repeat' split
      all_goals decide
    have h2 : k.q = false := k.nop (by omega)
    have h3 : (byteN k.rest 1 == 2) = false := by simp; omega
    rw [h2, h3]; rfl
  nil := fun hq => by
    have h1 : k.q = false := by cases hk : k.q with | false => rfl | true => rw [hk] at hq; cases hq
    have h2 : byteN k.rest 1 ≠ 2 := by intro e; rw [h1, e] at hq; cases hq
    have h3 := k.nil h1
    unfold lowA
    repeat' split
    all_goals first | exact h3 | contradiction
end Go.Proofs.YtjpfofmkgdjelaaGreat
/- Contracts of the document's answer: flags, a path. -/
set_option linter.unusedVariables false
set_option linter.unusedSimpArgs false
namespace Go.Proofs.YtjpfofmkgdjelaaGreat
open Go.RowKit
open Go.Proofs.Tryz (prog)
attribute [local irreducible] CallV RoundV

theorem eqI (c : Nat) (k : Nat) : ((c : Int) == (k : Int)) = (c == k) := by
  cases h : c == k with
  | true => have h := eq_of_beq h; subst h; simp
  | false => have h : c ≠ k := by simpa using h
             simp; omega
/-- Where a path's reading stands, by places. -/
structure Road (v : List UInt8) where
  i : Nat
  told : List (UInt8 × List UInt32)
  law : legs v = (legs (v.drop i)).map (told ++ ·)
  le : i ≤ v.length
  few : 2 * told.length ≤ i
theorem LeB.snoc {h : Heap} {nx nx' : Nat} {ρ : Nat → Nat} {Z : List Nat} {fr ex : Bool} {ty sz : Nat} {rows r0 r1 : List (List V)} {x x' : List V} (hf : ∀ x ∈ rows, ∀ v ∈ x, Free v) (e0 : r0 = rows ++ [x]) (e1 : r1 = rows ++ [x']) (hx : LeL h nx ρ nx' Z x x') :
    LeB h nx ρ nx' Z (.arr fr ex ty sz r0) (.arr fr ex ty sz r1) := by
  subst e0; subst e1
  refine LeB.rows (by simp) fun j y y' h1 h2 => ?_
  rcases Nat.lt_or_ge j rows.length with hj | hj
  · rw [List.getElem?_append_left hj] at h1 h2
    rw [h1] at h2; cases h2
    exact LeL.free (hf _ (List.mem_of_getElem? h1))
  · rw [List.getElem?_append_right hj] at h1 h2
    have : j - rows.length = 0 := by
      have := (List.getElem?_eq_some_iff.1 h1).1
      simp at this; omega
    rw [this] at h1 h2
    simp at h1 h2
    subst h1; subst h2
    exact hx
def partsV (v : List UInt8) : V := .tup [encLegs true (if pathE v = 0 then pathA v else []), .int .i64 (pathE v)]
end Go.Proofs.YtjpfofmkgdjelaaGreat
/- Contracts of the document's answer: a value. -/
set_option linter.unusedVariables false
set_option linter.unusedSimpArgs false
namespace Go.Proofs.YtjpfofmkgdjelaaGreat
open Go.RowKit
open Go.Proofs.Tryz (prog)
attribute [local irreducible] CallV RoundV

/-- What is handed back with an error, too. -/
def retA (c : Nat) (a : Attrs) (v : List UInt8) : Attrs := if lowE c v = 0 then lowA c a v else if lowE c v = 294 ∧ c ≠ 2 then a else if c = 2 then { a with path := [] } else lowA c a v
def valueV (c : Nat) (a : Attrs) (v : List UInt8) : V := .tup [encA true (retA c a v), .int .i64 (lowE c v)]
theorem Ends.valE {s : St} {c : Nat} {a : Attrs} {v : List UInt8} {w : V} {e : Int} {a' : Attrs} (Z : List Nat) (he : lowE c v = e) (ha : retA c a v = a') (hw : LeV s.h s.nx id 0 Z w (encA true a')) (hz : ∀ z ∈ Z, hget s.h z ≠ none) : ∃ v1 h' nx', Ends 0 s (.tup [w, .int .i64 e]) v1 h' nx' ∧ (v1 = valueV c a v ∧ h' = [] ∧ nx' = 0) := by
  subst he; subst ha
  exact Ends.pure Z (.tupL ⟨hw, .int_of rfl, trivial⟩) hz
theorem Ends.valK {s : St} {c : Nat} {a : Attrs} {v : List UInt8} {w : V} (he : lowE c v = 0) (Z : List Nat) (hw : LeV s.h s.nx id 0 Z w (encA true (lowA c a v))) (hz : ∀ z ∈ Z, hget s.h z ≠ none) : ∃ v1 h' nx', Ends 0 s (.tup [w, .int .i64 0]) v1 h' nx' ∧ (v1 = valueV c a v ∧ h' = [] ∧ nx' = 0) := by
  exact Ends.valE Z he (by simp [retA, he]) hw hz
end Go.Proofs.YtjpfofmkgdjelaaGreat
/- Contract of the document's answer: tags. -/
set_option linter.unusedVariables false
set_option linter.unusedSimpArgs false
namespace Go.Proofs.YtjpfofmkgdjelaaGreat
open Go.RowKit
open Go.Proofs.Tryz (prog)
attribute [local irreducible] CallV RoundV

def cellsG (a : Attrs) (t : V) : List V := [cB a.origin, encLegs true a.path, cW a.next, .bool a.hasMed, cW a.med, .bool a.hasPref, cW a.pref, t]
theorem e298 {a : Attrs} {v : List UInt8} (h : lowE 8 v = 298) : lowE 8 v = 298 ∧ retA 8 a v = lowA 8 a v := ⟨h, by simp [retA, h]⟩
end Go.Proofs.YtjpfofmkgdjelaaGreat
/- Contract of the document's answer: what bytes say. -/
set_option linter.unusedVariables false
set_option linter.unusedSimpArgs false
namespace Go.Proofs.YtjpfofmkgdjelaaGreat
open Go.RowKit
open Go.Proofs.Tryz (prog)
attribute [local irreducible] CallV RoundV

theorem lng_ref : ∀ n : Nat, n < 256 → ((IntKind.i64.wrap ((IntKind.i64.wrap (n : Int)).tdiv 16)).tmod 2 == 1) = (n / 16 % 2 == 1) := by decide +kernel
/-- Where the document's reading stands. -/
structure Pl (b : List UInt8) where
  i : Nat
  last : Nat
  seen : Nat
  a : Attrs
  law : parseA b 0 0 noA = parseA (b.drop i) last seen a
  le : i ≤ b.length
  lim : last < 256
  cnt : seen ≤ i
theorem idxD {b : List UInt8} {i j : Nat} {n : Int} {x : UInt8} (hn : n = (i + j : Nat)) (h : (b.drop i)[j]? = some x) : (List.map (fun x => [V.int .u8 x.toNat]) b)[n.toNat]? = some [cB x] := by
  subst hn
  rw [List.getElem?_drop] at h
  rw [Int.toNat_natCast, List.getElem?_map, h]; rfl
theorem numB_lt (b : List UInt8) : numB b < 65536 := by
  have h2 := byteN_lt b 2
  have h3 := byteN_lt b 3
  unfold numB
  split <;> omega
theorem atB_le (b : List UInt8) : 3 ≤ atB b ∧ atB b ≤ 4 := by
  unfold atB
  split <;> omega
end Go.Proofs.YtjpfofmkgdjelaaGreat
/- Contract: the law AttrsParses. -/
set_option linter.unusedVariables false
set_option linter.unusedSimpArgs false
namespace Go.Proofs.YtjpfofmkgdjelaaGreat
open Go.RowKit
open Go.Proofs.Tryz (prog)
attribute [local irreducible] CallV RoundV

theorem rowB_get {r : List UInt8} {i : Nat} (h : i < r.length) : (List.map (fun x : UInt8 => [V.int .u8 x.toNat]) r)[0 + (i : Int).toNat]? = some [cB r[i]] := by simp [List.getElem?_eq_getElem h]
theorem wrap8_succ (x : UInt8) : IntKind.u8.wrap ((x.toNat : Int) + 1) = ((x + 1).toNat : Int) := by rw [wrap8, UInt8.toNat_add]; simp
structure Bump (n : Nat) where
  i : Nat
  r : List UInt8
  hi : i ≤ n
  hr : r.length = n + 1
end Go.Proofs.YtjpfofmkgdjelaaGreat
/- Contract: the law AttrsBent. -/
set_option linter.unusedVariables false
set_option linter.unusedSimpArgs false
namespace Go.Proofs.YtjpfofmkgdjelaaGreat
open Go.RowKit
open Go.Proofs.Tryz (prog)
attribute [local irreducible] CallV RoundV

theorem rawA_len {a : Attrs} (hf : fewA a = true) : (rawA a).length ≤ 20000 := by
  obtain ⟨hp, hpl, htl⟩ := fewA_out hf
  have hpb := pathB_len hp
  have al : ∀ {f c : UInt8} {v : List UInt8}, (attrB f c v).length ≤ 4 + v.length := fun {f c v} => by unfold attrB; split <;> simp <;> omega
  have h1 := al (f := 64) (c := 1) (v := [a.origin])
  have h2 := al (f := 64) (c := 2) (v := pathB a.path)
  have h3 := al (f := 64) (c := 3) (v := fourB a.next)
  have h4 : (if a.hasMed then attrB 128 4 (fourB a.med) else []).length ≤ 8 := by
    split
    · exact al
    · simp
  have h5 : (if a.hasPref then attrB 64 5 (fourB a.pref) else []).length ≤ 8 := by
    split
    · exact al
    · simp
  have h6 : (if 0 < a.tags.length then attrB 192 8 (allB a.tags) else []).length ≤ 244 := by
    split
    · have := al (f := 192) (c := 8) (v := allB a.tags)
      rw [allB_len] at this
      omega
    · simp
  have e3 : (fourB a.next).length = 4 := rfl
  have e1 : ([a.origin] : List UInt8).length = 1 := rfl
  simp only [rawA, rawO, List.length_append]
  omega
end Go.Proofs.YtjpfofmkgdjelaaGreat
/- Contracts: the reference's length; a copy, of which the path is the caller's own. -/
set_option linter.unusedVariables false
set_option linter.unusedSimpArgs false
namespace Go.Proofs.YtjpfofmkgdjelaaGreat
open Go.RowKit
open Go.Proofs.Tryz (prog)
attribute [local irreducible] CallV RoundV

theorem less_encW (fr : Bool) {l : List UInt32} : Less (encW fr l) (encW false l) := by
  cases fr with
  | true => exact .encW
  | false => exact .refl _
theorem rowsW_ff (b : List UInt32) : ∀ x ∈ rowsW b, ∀ v ∈ x, Free v ∧ Fresh v := by
  intro x hx v hv
  obtain ⟨y, _, rfl⟩ := List.mem_map.1 hx
  simp at hv; subst hv; exact ⟨.int, .int⟩
/-- What is said, its path the caller's own. -/
def ownA (a : Attrs) (b : Nat) : V := .agg [cB a.origin, .osl b 2 0 a.path.length, cW a.next, .bool a.hasMed, cW a.med, .bool a.hasPref, cW a.pref, encW true a.tags]
/-- The tags the caller's own. -/
def ownT (a : Attrs) (b : Nat) : V := .agg [cB a.origin, encLegs true a.path, cW a.next, .bool a.hasMed, cW a.med, .bool a.hasPref, cW a.pref, .osl b 1 0 a.tags.length]
/-- Both. -/
def rawC (a : Attrs) : V := .agg [cB a.origin, .osl 0 2 0 a.path.length, cW a.next, .bool a.hasMed, cW a.med, .bool a.hasPref, cW a.pref, .osl 1 1 0 a.tags.length]
theorem ownT_mov (a : Attrs) : Mov (ownT a) := by
  refine Mov.agg (cs := [fun _ => cB a.origin, fun _ => encLegs true a.path, fun _ => cW a.next, fun _ => .bool a.hasMed, fun _ => cW a.med, fun _ => .bool a.hasPref, fun _ => cW a.pref, fun b => .osl b 1 0 a.tags.length]) ?_
  intro c hc
  simp only [List.mem_cons, List.not_mem_nil, or_false] at hc
  rcases hc with rfl | rfl | rfl | rfl | rfl | rfl | rfl | rfl
  · exact .const .int .int
  · exact .const (encLegs_free _ _) (encLegs_fresh _)
  · exact .const .int .int
  · exact .const .bool .bool
  · exact .const .int .int
  · exact .const .bool .bool
  · exact .const .int .int
  · exact .osl
theorem ownA_mov (a : Attrs) : Mov (ownA a) := by
  refine Mov.agg (cs := [fun _ => cB a.origin, fun b => .osl b 2 0 a.path.length, fun _ => cW a.next, fun _ => .bool a.hasMed, fun _ => cW a.med, fun _ => .bool a.hasPref, fun _ => cW a.pref, fun _ => encW true a.tags]) ?_
  intro c hc
  simp only [List.mem_cons, List.not_mem_nil, or_false] at hc
  rcases hc with rfl | rfl | rfl | rfl | rfl | rfl | rfl | rfl
  · exact .const .int .int
  · exact .osl
  · exact .const .int .int
  · exact .const .bool .bool
  · exact .const .int .int
  · exact .const .bool .bool
  · exact .const .int .int
  · exact .const (encW_free _ _) (encW_fresh _)
set_option maxRecDepth 100000 in
theorem cloneL_ok (fr : Bool) (l : List Leg) (hl : l.length ≤ 1000) : OCon prog 76 [encLegs fr l] true false 65 2 l.length (l.map (encLeg fr)) := by
  rcases l with _ | ⟨x, l⟩
  · refine callV_of (fn := Go.Proofs.Tryz.f76) (body := _) tab_ok mixed rfl rfl (by decide) (by simp [Go.Proofs.Tryz.f76]) ?_
    (conv => whnf)
    refine ⟨?_, ?_⟩
    · (conv => whnf)
      exact Ends.ownNil
    · (conv => whnf)
      refine ⟨⟨rfl, rfl, rfl, rfl, by decide⟩, by simp, ⟨by simp [tab, tabOf, nth], by simp⟩, ?_⟩
      (conv => whnf)
      exact Ends.own rfl (by simp) rfl rfl
  · refine callV_of (fn := Go.Proofs.Tryz.f76) (body := _) tab_ok mixed rfl rfl (by decide) (by simp [Go.Proofs.Tryz.f76]) ?_
    (conv => whnf)
    refine ⟨⟨rfl, rfl, rfl, rfl, by decide⟩, by simp, ⟨by simp [tab, tabOf, nth] at *; omega, by simp at *; omega⟩, ?_⟩
    (conv => whnf)
    exact Ends.own rfl (rowsLegs_free fr (x :: l)) (by simp) rfl
set_option maxRecDepth 100000 in
theorem copy_raw (fr : Bool) (a : Attrs) (hpl : a.path.length ≤ 1000) (hp : ∀ p ∈ a.path, p.ns.length ≤ 1000) (htl : a.tags.length ≤ 1000) : CallV prog 41 [encA fr a] [] 0 (fun v h' nx' => v = rawC a ∧ h' = [(0, some (.arr true false 65 2 (a.path.map (encLeg true)))), (1, some (.arr true false 22 1 (rowsW a.tags)))] ∧ nx' = 2) := by
  have cell : ∀ {fr0 : Bool} {x : Attrs}, FreeB (.var true 33 (cellsA fr0 x)) := fun {fr0 x} => cellsA_free fr0 x
  refine callV_of (fn := Go.Proofs.Tryz.f41) (body := _) tab_ok mixed rfl rfl (by decide) (by simp [Go.Proofs.Tryz.f41]) ?_
  (conv => whnf)
  refine callV_own0 (nx := 2) (cloneL_ok fr a.path hpl) ⟨.free (encLegs_free _ _), trivial⟩ (rowsLegs_free _ _) ?_
  (conv => whnf)
  intro _
  (conv => whnf)
  refine vcg_loop tab_ok mixed (fun i : {i : Nat // i ≤ a.path.length} => ⟨[(1, .ptr 0 0), (2, .ptr 1 0), (3, .osl 2 2 0 a.path.length), (9, cI a.path.length), (10, cI i.1)], [(0, some (.var true 33 (cellsA fr a))), (1, some (.var true 33 zeroA)), (2, some (.arr true false 65 2 (rowsAt fr a.path i.1)))], 3⟩) (fun i => a.path.length - i.1) ⟨0, by omega⟩ ?_ (fun i => ?_)
  · refine Wk.of id [] ⟨.ptr rfl (by omega), .ptr rfl (by omega), .osl rfl (by omega), .int_of rfl, .int_of rfl, trivial⟩ (LeH.of ⟨⟨by omega, .inl ⟨by simp, _, rfl, LeB.free cell⟩⟩, ⟨by omega, .inl ⟨by simp, _, rfl, LeB.free zeroA_free⟩⟩, ⟨by omega, .inl ⟨by simp, _, rfl, LeB.eq_of (by simp [rowsAt]) (rowsAt_free _ _ _)⟩⟩, trivial⟩ (fun _ _ _ _ h => h) (fun _ _ => rfl) (by omega) (by simp))
  obtain ⟨i, hi⟩ := i
  (conv => whnf)
  split
  · rename_i hc
    have hc : i < a.path.length := by simpa using hc
    have hpi := hp a.path[i] (List.getElem_mem hc)
    have hget : (rowsAt fr a.path i)[0 + (i : Int).toNat]? = some (encLeg fr a.path[i]) := by simpa using rowsAt_get hc
    (conv => whnf)
    refine ⟨rfl, ⟨by simp only; omega, by simp only; omega⟩, ?_⟩
    (conv => whnf)
    refine ⟨rfl, encLeg fr a.path[i], hget, ?_⟩
    (conv => whnf)
    refine callV_own (nx := 3) [] (cloneW_ok false _ a.path[i].ns (.inl rfl) (by omega)) ⟨.less (.free (encW_free fr _)) (less_encW fr), trivial⟩ (by intro v hv; simp at hv; subst hv; exact encW_cold _) (by simp) (rowsW_ff _) ?_
    (conv => whnf)
    refine ⟨rfl, ⟨by simp only; omega, by simp only; omega⟩, ?_⟩
    (conv => whnf)
    refine ⟨rfl, encLeg fr a.path[i], hget, ?_⟩
    (conv => whnf)
    refine ⟨⟨i + 1, by omega⟩, Wk.of id [3] ⟨.ptr rfl (by omega), .ptr rfl (by omega), .osl rfl (by omega), .int_of rfl, .int_of (wrap64_succ hc (show a.path.length ≤ maxLen by unfold maxLen; omega)), trivial⟩ (LeH.of ⟨⟨by omega, .inl ⟨by simp, _, rfl, LeB.free cell⟩⟩, ⟨by omega, .inl ⟨by simp, _, rfl, LeB.free zeroA_free⟩⟩, ⟨by omega, .inl ⟨by simp, _, rfl, ?_⟩⟩, trivial⟩ (fun _ _ _ _ h => h) (fun _ _ => rfl) (by omega) (fun z hz => by obtain rfl := List.mem_singleton.1 hz; exact ne_none_of rfl)), by simp only; omega⟩
    simp only
    rw [rowsAt_succ hc]
    simp only [Nat.zero_add, Int.toNat_natCast]
    refine LeB.set (rowsAt_free _ _ _) ⟨.free .bool, ?_, trivial⟩
    refine LeV.freeze_of (by simp) rfl (by simp) (rowsW_free _) ?_
    exact List.take_of_length_le (by simp)
  · rename_i hc
    have hc : i = a.path.length := by simp at hc; omega
    subst hc
    (conv => whnf)
    refine callV_own (nx := 3) [] (cloneW_ok false _ a.tags (.inl rfl) (by omega)) ⟨.less (.free (encW_free fr _)) (less_encW fr), trivial⟩ (by intro v hv; simp at hv; subst hv; exact encW_cold _) (by simp) (rowsW_ff _) ?_
    (conv => whnf)
    refine ⟨rawC a, _, 2, Ends.of (fun b => b + 2) [] (.aggL ⟨.free .int, .osl rfl (by omega), .free .int, .free .bool, .free .int, .free .bool, .free .int, .osl rfl (by omega), trivial⟩) (LeH.of (h' := [(0, some (.arr true false 65 2 (a.path.map (encLeg true)))), (1, some (.arr true false 22 1 (rowsW a.tags)))]) ⟨⟨by omega, .inl ⟨by simp, _, rfl, LeB.eq_of ?_ (rowsLegs_free _ _)⟩⟩, ⟨by omega, .inl ⟨by simp, _, rfl, LeB.free (rowsW_free _)⟩⟩, trivial⟩ (by simp) (fun b hb => by omega) (by omega) (by simp)), rfl, rfl, rfl⟩
    simp only [rowsAt_all]
theorem copy_ok (fr : Bool) (a : Attrs) (hpl : a.path.length ≤ 1000) (hp : ∀ p ∈ a.path, p.ns.length ≤ 1000) (htl : a.tags.length ≤ 1000) : VCon prog 41 [encA fr a] (ownA a) (.arr true false 65 2 (a.path.map (encLeg true))) :=
  (copy_raw fr a hpl hp htl).ends fun v h' nx' ⟨e1, e2, e3⟩ => by
    subst e1 e2 e3
    exact ⟨ownA a 0, _, 1, Ends.of id [1] (.aggL ⟨.free .int, .osl rfl (by omega), .free .int, .free .bool, .free .int, .free .bool, .free .int, LeV.freeze_of (by simp) rfl (by simp) (rowsW_free _) (List.take_of_length_le (by simp)), trivial⟩) (LeH.of (h' := [(0, some (.arr true false 65 2 (a.path.map (encLeg true))))]) ⟨⟨by omega, .inl ⟨by simp, _, rfl, LeB.free (rowsLegs_free _ _)⟩⟩, trivial⟩ (by simp) (fun b hb => by omega) (by omega) (one_none rfl)), rfl, rfl, rfl⟩
theorem copyT_ok (fr : Bool) (a : Attrs) (hpl : a.path.length ≤ 1000) (hp : ∀ p ∈ a.path, p.ns.length ≤ 1000) (htl : a.tags.length ≤ 1000) : VCon prog 41 [encA fr a] (ownT a) (.arr true false 22 1 (rowsW a.tags)) :=
  (copy_raw fr a hpl hp htl).ends fun v h' nx' ⟨e1, e2, e3⟩ => by
    subst e1 e2 e3
    exact ⟨ownT a 0, _, 1, Ends.of (fun _ => 1) [0] (.aggL ⟨.free .int, LeV.freeze_of (by simp) rfl (by simp) (rowsLegs_free _ _) (List.take_of_length_le (by simp)), .free .int, .free .bool, .free .int, .free .bool, .free .int, .osl rfl (by omega), trivial⟩) (LeH.of (h' := [(0, some (.arr true false 22 1 (rowsW a.tags)))]) ⟨⟨by omega, .inl ⟨by simp, _, rfl, LeB.free (rowsW_free _)⟩⟩, trivial⟩ (by simp) (fun b hb => by omega) (by omega) (one_none rfl)), rfl, rfl, rfl⟩
theorem ownA_freeze {h : Heap} {nx nx' b : Nat} {ρ : Nat → Nat} {Z : List Nat} {fr ex : Bool} {a : Attrs} (hz : b ∈ Z) (hb : hget h b = some (.arr true ex 65 2 (a.path.map (encLeg true)))) : LeV h nx ρ nx' Z (ownA a b) (encA true a) :=
  .aggL ⟨.free .int, LeV.freeze_of hz hb (by simp) (rowsLegs_free _ _) (List.take_of_length_le (by simp)), .free .int, .free .bool, .free .int, .free .bool, .free .int, .free (encW_free _ _), trivial⟩
theorem copy_pure (fr : Bool) (a : Attrs) (hpl : a.path.length ≤ 1000) (hp : ∀ p ∈ a.path, p.ns.length ≤ 1000) (htl : a.tags.length ≤ 1000) : PCon prog 41 [encA fr a] (encA true a) :=
  (copy_ok fr a hpl hp htl).ends fun v h' nx' ⟨e1, e2, e3⟩ => by
    subst e1 e2 e3
    exact Ends.pure (s := ⟨[], [(0, some (.arr true false 65 2 (a.path.map (encLeg true))))], 1⟩) [0] (ownA_freeze (fr := true) (by simp) rfl) (by intro z hz; simp at hz; subst hz; simp [hget])
set_option maxRecDepth 100000 in
theorem systems_ok (fr : Bool) (a : Attrs) (hpl : a.path.length ≤ 1000) (hp : ∀ p ∈ a.path, p.ns.length ≤ 1000) (htl : a.tags.length ≤ 1000) : PCon prog 103 [encA fr a] (.fn (.func 120) [] [.iptr true [encLegs true a.path]]) := by
  refine callV_of (fn := Go.Proofs.Tryz.f103) (body := _) tab_ok mixed rfl rfl (by decide) (by simp [Go.Proofs.Tryz.f103]) ?_
  (conv => whnf)
  refine callV_pure (copy_pure fr a hpl hp htl) ⟨.free (encA_free _ _), trivial⟩ ?_
  (conv => whnf)
  refine Ends.pure [1] ?_ (one_none rfl)
  refine LeV.fnL trivial ⟨?_, trivial⟩
  exact LeV.freezeP (cells := [encLegs true a.path]) (by simp) rfl (by intro v hv; simp at hv; subst hv; exact encLegs_free _ _)
end Go.Proofs.YtjpfofmkgdjelaaGreat
/- Contracts: is a system in the path? -/
set_option linter.unusedVariables false
set_option linter.unusedSimpArgs false
namespace Go.Proofs.YtjpfofmkgdjelaaGreat
open Go.RowKit
open Go.Proofs.Tryz (prog)
attribute [local irreducible] CallV RoundV

def hasN (l : List UInt32) (x : UInt32) : Bool := l.any (· == x)
def hasA (l : List Leg) (x : UInt32) : Bool := l.any (fun p => hasN p.ns x)
theorem hasN_succ {l : List UInt32} {x : UInt32} {k : Nat} (hk : k < l.length) (h : hasN (l.take k) x = false) (he : (l[k] == x) = false) : hasN (l.take (k + 1)) x = false := by
  unfold hasN at *
  rw [List.take_succ_eq_append_getElem hk, List.any_append, h]
  simpa using he
theorem hasA_succ {l : List Leg} {x : UInt32} {i : Nat} (hi : i < l.length) (h : hasA (l.take i) x = false) (he : hasN l[i].ns x = false) : hasA (l.take (i + 1)) x = false := by
  unfold hasA at *
  rw [List.take_succ_eq_append_getElem hi, List.any_append, h]
  simpa using he
theorem hasA_yes {l : List Leg} {x : UInt32} {i k : Nat} (hi : i < l.length) (hk : k < l[i].ns.length) (he : l[i].ns[k] = x) : hasA l x = true := by
  unfold hasA hasN
  rw [List.any_eq_true]
  exact ⟨l[i], List.getElem_mem hi, List.any_eq_true.2 ⟨_, List.getElem_mem hk, by simp [he]⟩⟩
set_option maxRecDepth 100000 in
theorem has_ok (fr : Bool) (a : Attrs) (x : UInt32) (hpl : a.path.length ≤ 1000) (hp : ∀ p ∈ a.path, p.ns.length ≤ 1000) (htl : a.tags.length ≤ 1000) : PCon prog 68 [encA fr a, cW x] (.bool (hasA a.path x)) := by
  have fin : ∀ {s : St} {r : Bool}, hasA a.path x = r → ∃ v1 h' nx', Ends 0 s (.bool r) v1 h' nx' ∧ (v1 = .bool (hasA a.path x) ∧ h' = [] ∧ nx' = 0) := fun h => Ends.pure [] (.bool_of h.symm) (by simp)
  refine callV_of (fn := Go.Proofs.Tryz.f68) (body := _) tab_ok mixed rfl rfl (by decide) (by simp [Go.Proofs.Tryz.f68]) ?_
  (conv => whnf)
  refine callV_pure (systems_ok fr a hpl hp htl) ⟨.free (encA_free _ _), trivial⟩ ?_
  (conv => whnf)
  refine callV_loop [(3, .ptr 1 0), (4, .ptr 2 0)] ⟨rfl, rfl, trivial⟩ fun asg' body' hasg hbody => ?_
  refine callV_of (fn := Go.Proofs.Tryz.f120) (body := _) tab_ok mixed rfl rfl (by decide) (by simp [Go.Proofs.Tryz.f120]) ?_
  (conv => whnf)
  intro _
  (conv => whnf)
  refine vcg_loop tab_ok mixed (fun i : {i : Nat // i ≤ a.path.length ∧ hasA (a.path.take i) x = false} => ⟨[(0, .yld 3), (7, encLegs true a.path), (8, cI a.path.length), (9, cI i.1)], [(3, some (.loop 14 [(3, .ptr 1 0), (4, .ptr 2 0)] [9, 10] asg' body' .ready none)), (1, some (.var true 22 [cW x])), (2, some (.var true 4 [.bool false]))], 4⟩) (fun i => a.path.length - i.1) ⟨0, by omega, rfl⟩ ?_ (fun i => ?_)
  · exact Wk.of id [] ⟨.yld rfl (by omega), .free (encLegs_free _ _), .int_of (by simp), .int_of rfl, trivial⟩ (LeH.of ⟨⟨by omega, .inl ⟨by simp, _, rfl, rfl, rfl, rfl, rfl, rfl, rfl, .ptr rfl (by omega), .ptr rfl (by omega), trivial⟩⟩, ⟨by omega, .inl ⟨by simp, _, rfl, id, rfl, .int_of rfl, trivial⟩⟩, ⟨by omega, .inl ⟨by simp, _, rfl, id, rfl, .bool_of rfl, trivial⟩⟩, trivial⟩ (fun _ _ _ _ h => h) (fun _ _ => rfl) (by omega) (by simp))
  obtain ⟨i, hi, hn⟩ := i
  (conv => whnf)
  split
  · rename_i hc
    have hc : i < a.path.length := by simpa using hc
    have hpi := hp a.path[i] (List.getElem_mem hc)
    (conv => whnf)
    refine ⟨rfl, _, ⟨by first | omega | (simp only; omega), idxL hc⟩, ?_⟩
    (conv => whnf)
    intro _
    (conv => whnf)
    refine vcg_loop tab_ok mixed (fun k : {k : Nat // k ≤ a.path[i].ns.length ∧ hasN (a.path[i].ns.take k) x = false} => ⟨[(0, .yld 3), (3, cI i), (7, encLegs true a.path), (8, cI a.path.length), (9, cI i), (15, encW true a.path[i].ns), (16, cI a.path[i].ns.length), (17, cI k.1)], [(3, some (.loop 14 [(3, .ptr 1 0), (4, .ptr 2 0)] [9, 10] asg' body' .ready none)), (1, some (.var true 22 [cW x])), (2, some (.var true 4 [.bool false]))], 5⟩) (fun k => a.path[i].ns.length - k.1) ⟨0, by omega, rfl⟩ ?_ (fun k => ?_)
    · exact Wk.of id [] ⟨.yld rfl (by omega), .int_of rfl, .free (encLegs_free _ _), .int_of rfl, .int_of rfl, .free (encW_free _ _), .int_of (by simp), .int_of rfl, trivial⟩ (LeH.of ⟨⟨by omega, .inl ⟨by simp, _, rfl, rfl, rfl, rfl, rfl, rfl, rfl, .ptr rfl (by omega), .ptr rfl (by omega), trivial⟩⟩, ⟨by omega, .inl ⟨by simp, _, rfl, id, rfl, .int_of rfl, trivial⟩⟩, ⟨by omega, .inl ⟨by simp, _, rfl, id, rfl, .bool_of rfl, trivial⟩⟩, trivial⟩ (fun _ _ _ _ h => h) (fun _ _ => rfl) (by omega) (by simp))
    obtain ⟨k, hk, hnk⟩ := k
    (conv => whnf)
    split
    · rename_i hck
      have hck : k < a.path[i].ns.length := by simpa using hck
      (conv => whnf)
      refine ⟨rfl, _, ⟨by first | omega | (simp only; omega), idxW hck⟩, ?_⟩
      (conv => whnf)
      subst hasg hbody
      refine roundV_of tab_ok mixed rfl (by simp) (show 3 < 5 by omega) ?_
      (conv => whnf)
      refine ⟨rfl, ?_⟩
      (conv => whnf)
      split
      · rename_i he
        (conv => whnf)
        refine ⟨rfl, ?_⟩
        (conv => whnf)
        refine ⟨_, _, _, Ends.here, ?_⟩
        (conv => whnf)
        refine fin (hasA_yes hc hck ?_)
        refine UInt32.toNat_inj.1 ?_
        simp at he
        omega
      · rename_i he
        have he : (a.path[i].ns[k] == x) = false := by
          rw [beq_eq_false_iff_ne]
          intro e
          rw [e] at he
          simp at he
        (conv => whnf)
        refine ⟨rfl, ?_⟩
        (conv => whnf)
        refine ⟨⟨k + 1, by omega, hasN_succ hck hnk he⟩, Wk.of id [] ⟨.yld rfl (by omega), .int_of rfl, .free (encLegs_free _ _), .int_of rfl, .int_of rfl, .free (encW_free _ _), .int_of rfl, .int_of (wrap64_succ hck (show a.path[i].ns.length ≤ maxLen by unfold maxLen; omega)), trivial⟩ (LeH.of ⟨⟨by omega, .inl ⟨by simp, _, rfl, rfl, rfl, rfl, rfl, rfl, rfl, .ptr rfl (by omega), .ptr rfl (by omega), trivial⟩⟩, ⟨by omega, .inl ⟨by simp, _, rfl, id, rfl, .int_of rfl, trivial⟩⟩, ⟨by omega, .inl ⟨by simp, _, rfl, id, rfl, .bool_of rfl, trivial⟩⟩, trivial⟩ (fun _ _ _ _ h => h) (fun _ _ => rfl) (by omega) (by simp)), by simp only; omega⟩
    · rename_i hck
      have hck : k = a.path[i].ns.length := by simp at hck; omega
      (conv => whnf)
      refine ⟨⟨i + 1, by omega, ?_⟩, Wk.of id [] ⟨.yld rfl (by omega), .free (encLegs_free _ _), .int_of rfl, .int_of (wrap64_succ hc (show a.path.length ≤ maxLen by unfold maxLen; omega)), trivial⟩ (LeH.of ⟨⟨by omega, .inl ⟨by simp, _, rfl, rfl, rfl, rfl, rfl, rfl, rfl, .ptr rfl (by omega), .ptr rfl (by omega), trivial⟩⟩, ⟨by omega, .inl ⟨by simp, _, rfl, id, rfl, .int_of rfl, trivial⟩⟩, ⟨by omega, .inl ⟨by simp, _, rfl, id, rfl, .bool_of rfl, trivial⟩⟩, trivial⟩ (fun _ _ _ _ h => h) (fun _ _ => rfl) (by omega) (by simp)), by simp only; omega⟩
      rw [hck, List.take_length] at hnk
      exact hasA_succ hc hn hnk
  · rename_i hc
    have hc : i = a.path.length := by simp at hc; omega
    rw [hc, List.take_length] at hn
    (conv => whnf)
    refine ⟨_, _, _, Ends.here, ?_⟩
    (conv => whnf)
    exact fin hn
set_option maxRecDepth 100000 in
theorem ref_has_ok (fr : Bool) (a : Attrs) (x : UInt32) (hpl : a.path.length ≤ 1000) (hp : ∀ p ∈ a.path, p.ns.length ≤ 1000) : PCon prog 29 [encA fr a, cW x] (.bool (hasA a.path x)) := by
  have fin : ∀ {s : St} {r : Bool}, hasA a.path x = r → ∃ v1 h' nx', Ends 0 s (.bool r) v1 h' nx' ∧ (v1 = .bool (hasA a.path x) ∧ h' = [] ∧ nx' = 0) := fun h => Ends.pure [] (.bool_of h.symm) (by simp)
  have cell : ∀ {fr0 : Bool} {x : Attrs}, FreeB (.var true 33 (cellsA fr0 x)) := fun {fr0 x} => cellsA_free fr0 x
  refine callV_of (fn := Go.Proofs.Tryz.f29) (body := _) tab_ok mixed rfl rfl (by decide) (by simp [Go.Proofs.Tryz.f29]) ?_
  (conv => whnf)
  refine vcg_loop tab_ok mixed (fun i : {i : Nat // i ≤ a.path.length ∧ hasA (a.path.take i) x = false} => ⟨[(1, cW x), (2, .ptr 0 0), (5, cI i.1)], [(0, some (.var true 33 (cellsA fr a)))], 1⟩) (fun i => a.path.length - i.1) ⟨0, by omega, rfl⟩ (Wk.of id [] ⟨.int_of rfl, .ptr rfl (by omega), .int_of rfl, trivial⟩ (LeH.of ⟨⟨by omega, .inl ⟨by simp, _, rfl, LeB.free cell⟩⟩, trivial⟩ (fun _ _ _ _ h => h) (fun _ _ => rfl) (by omega) (by simp))) (fun i => ?_)
  obtain ⟨i, hi, hn⟩ := i
  (conv => whnf)
  intro hl
  have hl : a.path.length ≤ maxLen := by simpa [gd] using hl
  (conv => whnf)
  split
  · rename_i hc
    have hc : i < a.path.length := by simpa using hc
    have hpi := hp a.path[i] (List.getElem_mem hc)
    (conv => whnf)
    refine vcg_loop tab_ok mixed (fun k : {k : Nat // k ≤ a.path[i].ns.length ∧ hasN (a.path[i].ns.take k) x = false} => ⟨[(1, cW x), (2, .ptr 0 0), (5, cI i), (6, cI k.1)], [(0, some (.var true 33 (cellsA fr a)))], 1⟩) (fun k => a.path[i].ns.length - k.1) ⟨0, by omega, rfl⟩ (Wk.of id [] ⟨.int_of rfl, .ptr rfl (by omega), .int_of rfl, .int_of rfl, trivial⟩ (LeH.of ⟨⟨by omega, .inl ⟨by simp, _, rfl, LeB.free cell⟩⟩, trivial⟩ (fun _ _ _ _ h => h) (fun _ _ => rfl) (by omega) (by simp))) (fun k => ?_)
    obtain ⟨k, hk, hnk⟩ := k
    (conv => whnf)
    refine ⟨rfl, _, ⟨by first | omega | (simp only; omega), idxL hc⟩, ?_⟩
    (conv => whnf)
    intro _
    (conv => whnf)
    split
    · rename_i hck
      have hck : k < a.path[i].ns.length := by simpa using hck
      (conv => whnf)
      refine ⟨rfl, _, ⟨by first | omega | (simp only; omega), idxL hc⟩, ?_⟩
      (conv => whnf)
      refine ⟨rfl, _, ⟨by first | omega | (simp only; omega), idxW hck⟩, ?_⟩
      (conv => whnf)
      split
      · rename_i he
        (conv => whnf)
        refine fin (hasA_yes hc hck ?_)
        refine UInt32.toNat_inj.1 ?_
        simp at he
        omega
      · rename_i he
        have he : (a.path[i].ns[k] == x) = false := by
          rw [beq_eq_false_iff_ne]
          intro e
          rw [e] at he
          simp at he
        (conv => whnf)
        exact ⟨⟨k + 1, by omega, hasN_succ hck hnk he⟩, Wk.of id [] ⟨.int_of rfl, .ptr rfl (by omega), .int_of rfl, .int_of (wrap64_succ hck (show a.path[i].ns.length ≤ maxLen by unfold maxLen; omega)), trivial⟩ (LeH.of ⟨⟨by omega, .inl ⟨by simp, _, rfl, LeB.free cell⟩⟩, trivial⟩ (fun _ _ _ _ h => h) (fun _ _ => rfl) (by omega) (by simp)), by simp only; omega⟩
    · rename_i hck
      have hck : k = a.path[i].ns.length := by simp at hck; omega
      (conv => whnf)
      refine ⟨⟨i + 1, by omega, ?_⟩, Wk.of id [] ⟨.int_of rfl, .ptr rfl (by omega), .int_of (wrap64_succ hc (show a.path.length ≤ maxLen by unfold maxLen; omega)), trivial⟩ (LeH.of ⟨⟨by omega, .inl ⟨by simp, _, rfl, LeB.free cell⟩⟩, trivial⟩ (fun _ _ _ _ h => h) (fun _ _ => rfl) (by omega) (by simp)), by simp only; omega⟩
      rw [hck, List.take_length] at hnk
      exact hasA_succ hc hn hnk
  · rename_i hc
    have hc : i = a.path.length := by simp at hc; omega
    rw [hc, List.take_length] at hn
    (conv => whnf)
    exact fin hn
end Go.Proofs.YtjpfofmkgdjelaaGreat
/- Contract: the law AttrsPaths. -/
set_option linter.unusedVariables false
set_option linter.unusedSimpArgs false
namespace Go.Proofs.YtjpfofmkgdjelaaGreat
open Go.RowKit
open Go.Proofs.Tryz (prog)
attribute [local irreducible] CallV RoundV

def rowsI (l : List Nat) : List (List V) := l.map fun n => [cI n]
theorem rowsI_free (l : List Nat) : ∀ x ∈ rowsI l, ∀ v ∈ x, Free v := by
  intro x hx v hv
  obtain ⟨y, _, rfl⟩ := List.mem_map.1 hx
  simp at hv; subst hv; exact .int
def allOf (l : List Leg) : List UInt32 := l.flatMap (·.ns)
def idxOf (l : List Leg) : List Nat := (l.mapIdx fun i p => List.replicate p.ns.length i).flatten
theorem allOf_app (l m : List Leg) : allOf (l ++ m) = allOf l ++ allOf m := by simp [allOf]
theorem allOf_succ {l : List Leg} {i : Nat} (h : i < l.length) : allOf (l.take (i + 1)) = allOf (l.take i) ++ l[i].ns := by
  rw [List.take_succ_eq_append_getElem h, allOf_app]; simp [allOf]
theorem idxOf_succ {l : List Leg} {i : Nat} (h : i < l.length) : idxOf (l.take (i + 1)) = idxOf (l.take i) ++ List.replicate l[i].ns.length i := by
  rw [List.take_succ_eq_append_getElem h]
  unfold idxOf
  rw [List.mapIdx_append]
  simp [List.length_take, Nat.min_eq_left (Nat.le_of_lt h)]
theorem idxOf_pre (l m : List Leg) : ∃ r, idxOf (l ++ m) = idxOf l ++ r := by
  unfold idxOf
  rw [List.mapIdx_append, List.flatten_append]
  exact ⟨_, rfl⟩
theorem idxOf_len : ∀ (l : List Leg) (i : Nat), i ≤ l.length → (idxOf (l.take i)).length = (allOf (l.take i)).length
  | l, 0, _ => by simp [idxOf, allOf]
  | l, i + 1, h => by rw [idxOf_succ h, allOf_succ h, List.length_append, List.length_append, List.length_replicate, idxOf_len l i (by omega)]
theorem idxOf_length (l : List Leg) : (idxOf l).length = (allOf l).length := by
  have := idxOf_len l l.length (Nat.le_refl _)
  rwa [List.take_length] at this
theorem allOf_le {l : List Leg} (h : ∀ p ∈ l, p.ns.length ≤ 60) : (allOf l).length ≤ 60 * l.length := by
  induction l with
  | nil => simp [allOf]
  | cons p l ih =>
    have h1 := ih (fun q hq => h q (by simp [hq]))
    have h2 := h p (by simp)
    have e : allOf (p :: l) = p.ns ++ allOf l := by simp [allOf]
    rw [e, List.length_append, List.length_cons]
    omega
theorem allOf_at {l : List Leg} {i k : Nat} (hi : i < l.length) (hk : k < l[i].ns.length) : (allOf l)[(allOf (l.take i)).length + k]? = some l[i].ns[k] := by
  have e : allOf l = allOf (l.take i) ++ (l[i].ns ++ allOf (l.drop (i + 1))) := by
    rw [← List.append_assoc, ← allOf_succ hi, ← allOf_app, List.take_append_drop]
  rw [e, List.getElem?_append_right (by omega), Nat.add_sub_cancel_left, List.getElem?_append_left hk, List.getElem?_eq_getElem hk]
theorem idxOf_at {l : List Leg} {i k : Nat} (hi : i < l.length) (hk : k < l[i].ns.length) : (idxOf l)[(allOf (l.take i)).length + k]? = some i := by
  obtain ⟨r, hr⟩ := idxOf_pre (l.take (i + 1)) (l.drop (i + 1))
  rw [List.take_append_drop, idxOf_succ hi] at hr
  rw [hr, List.append_assoc, ← idxOf_len l i (by omega), List.getElem?_append_right (by omega), Nat.add_sub_cancel_left, List.getElem?_append_left (by simpa using hk)]
  simp [hk]
theorem stop_eq {n M : Nat} {many : Int} (hlt : n < M) (hgo : n = 0 ∨ (n : Int) < many) (hm : many ≤ (n : Int) + 1) : (if (if 1 < many then many else 1) < (M : Int) then (if 1 < many then many else 1) else (M : Int)) = (n : Int) + 1 := by
  split <;> split at * <;> omega
theorem end_eq {M : Nat} {many : Int} (hgo : M = 0 ∨ (M : Int) < many) : (if (if 1 < many then many else 1) < (M : Int) then (if 1 < many then many else 1) else (M : Int)) = (M : Int) := by
  split <;> split at * <;> omega
theorem rowsI_at {l : List Leg} {i k : Nat} (hi : i < l.length) (hk : k < l[i].ns.length) : (rowsI (idxOf l))[0 + ((((allOf (l.take i)).length + k : Nat) : Int)).toNat]? = some [cI i] := by
  rw [Int.toNat_natCast, Nat.zero_add]
  simp only [rowsI, List.getElem?_map, idxOf_at hi hk, Option.map_some]
theorem rowsW_at {l : List Leg} {i k : Nat} (hi : i < l.length) (hk : k < l[i].ns.length) : (rowsW (allOf l))[0 + ((((allOf (l.take i)).length + k : Nat) : Int)).toNat]? = some [cW l[i].ns[k]] := by
  rw [Int.toNat_natCast, Nat.zero_add]
  simp only [rowsW, List.getElem?_map, allOf_at hi hk, Option.map_some]
/-- The first going over goes on. -/
def Go (tn : Nat) (many : Int) (n : Nat) : Prop := tn = 0 → n = 0 ∨ (n : Int) < many
end Go.Proofs.YtjpfofmkgdjelaaGreat
/- Contracts: which are the same, as the program tells. -/
set_option linter.unusedVariables false
set_option linter.unusedSimpArgs false
namespace Go.Proofs.YtjpfofmkgdjelaaGreat
open Go.RowKit
open Go.Proofs.Tryz (prog)
attribute [local irreducible] CallV RoundV

theorem w_eq {x y : UInt32} : ((x.toNat : Int) == (y.toNat : Int)) = (x == y) := by
  have := u32_neq (x := x) (y := y)
  simpa [bne] using this
theorem b_eq {x y : UInt8} : ((x.toNat : Int) == (y.toNat : Int)) = (x == y) := by
  have := u8_neq (x := x) (y := y)
  simpa [bne] using this
theorem take_step {α : Type} {l m : List α} {i : Nat} (h1 : i < l.length) (h2 : i < m.length) (hr : l.take i = m.take i) (he : l[i] = m[i]) : l.take (i + 1) = m.take (i + 1) := by
  rw [List.take_succ_eq_append_getElem h1, List.take_succ_eq_append_getElem h2, hr, he]
end Go.Proofs.YtjpfofmkgdjelaaGreat
