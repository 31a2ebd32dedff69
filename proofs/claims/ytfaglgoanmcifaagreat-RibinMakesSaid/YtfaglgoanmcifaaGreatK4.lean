/- Joined: VS, Sh2, C0, C1, C2, C3, C4, C5, C6, C7, C8, C9, C10, C11, C12, C13, C14, D1, C16, C17, C18, C19, C20, C21, C23, D2, E5, E6, F2, G1, G2, G3, G4, L0, H1. -/
import Derived.Test.YtfaglgoanmcifaaGreatK3
import Derived.Test.YtfaglgoanmcifaaGreatProg
import Derived.Shelf.Small.Bits
import Derived.Shelf.Strconv.Itoa0
import Derived.Shelf.Bits.Mul64
import Derived.Ground.SlgnProg
import Derived.Shelf.SlicesE.Reverse
import Derived.Shelf.SlicesE.Clone
import Derived.Shelf.SlSortCmp.NoneTotal
import Derived.Shelf.SlGeneric
import Derived.Ground.SlsfProg
import Derived.Shelf.SlMaps.Clone
import Derived.Ground.SlmcProg
import Derived.KernelRfl
import Derived.Laws.BitsLemmas
set_option linter.unusedVariables false
set_option linter.unusedSimpArgs false
namespace Go.Proofs.YtfaglgoanmcifaaGreat
set_option maxRecDepth 100000
def tab : Tab := tabOf
  [{ k := TK.tuple, size := 1, bytes := 0, zero := [Value.tuple #[]] },
    { k := TK.func, size := 1, bytes := 8, zero := [Value.nilFunc] },
    { k := TK.int IntKind.i64, size := 1, bytes := 8, zero := [Value.int IntKind.i64 (0)], key := true,
      mkey := true },
    { k := TK.int IntKind.i64, size := 1, bytes := 8, zero := [Value.int IntKind.i64 (0)], key := true,
      mkey := true },
    { k := TK.bool, size := 1, bytes := 1, zero := [Value.bool false], key := true, mkey := true },
    { k := TK.int IntKind.u8, size := 1, bytes := 1, zero := [Value.int IntKind.u8 (0)], key := true,
      mkey := true },
    { k := TK.int IntKind.u8, size := 1, bytes := 1, zero := [Value.int IntKind.u8 (0)], key := true,
      mkey := true },
    { k := TK.struct [(0, 2), (1, 3), (2, 4), (3, 6)], size := 4, bytes := 24,
      zero :=
        [Value.int IntKind.i64 (0), Value.int IntKind.i64 (0), Value.bool false,
          Value.int IntKind.u8 (0)],
      key := true, mkey := true },
    { k := TK.struct [(0, 2), (1, 3), (2, 4), (3, 6)], size := 4, bytes := 24,
      zero :=
        [Value.int IntKind.i64 (0), Value.int IntKind.i64 (0), Value.bool false,
          Value.int IntKind.u8 (0)] },
    { k := TK.str, size := 1, bytes := 16, zero := [Value.string { data := { toList := [] } }], key := true,
      mkey := true },
    { k := TK.str, size := 1, bytes := 16, zero := [Value.string { data := { toList := [] } }], key := true,
      mkey := true },
    { k := TK.str, size := 1, bytes := 16, zero := [Value.string { data := { toList := [] } }], key := true,
      mkey := true },
    { k := TK.int IntKind.u64, size := 1, bytes := 8, zero := [Value.int IntKind.u64 (0)], key := true,
      mkey := true },
    { k := TK.struct [(0, 9), (1, 12)], size := 2, bytes := 24,
      zero := [Value.string { data := { toList := [] } }, Value.int IntKind.u64 (0)] },
    { k := TK.struct [(0, 9), (1, 12)], size := 2, bytes := 24,
      zero := [Value.string { data := { toList := [] } }, Value.int IntKind.u64 (0)] },
    { k := TK.ptr 281, size := 1, bytes := 8, zero := [Value.pointer none] },
    { k := TK.ptr 284, size := 1, bytes := 8, zero := [Value.pointer none] },
    { k := TK.ptr 292, size := 1, bytes := 8, zero := [Value.pointer none] },
    { k := TK.struct [(0, 17)], size := 1, bytes := 8, zero := [Value.pointer none] },
    { k := TK.struct [(0, 17)], size := 1, bytes := 8, zero := [Value.pointer none] },
    { k := TK.iface, size := 1, bytes := 16, zero := [Value.nilIface] },
    { k := TK.int IntKind.i32, size := 1, bytes := 4, zero := [Value.int IntKind.i32 (0)], key := true,
      mkey := true },
    { k := TK.slice 53, size := 1, bytes := 24, zero := [Value.slice none 0 0] },
    { k := TK.slice 88, size := 1, bytes := 24, zero := [Value.slice none 0 0] },
    { k := TK.int IntKind.u32, size := 1, bytes := 4, zero := [Value.int IntKind.u32 (0)], key := true,
      mkey := true },
    { k := TK.slice 24, size := 1, bytes := 24, zero := [Value.slice none 0 0] },
    { k := TK.struct [(0, 5), (1, 23), (2, 24), (3, 4), (4, 24), (5, 4), (6, 24), (7, 25)], size := 8, bytes := 80,
      zero :=
        [Value.int IntKind.u8 (0), Value.slice none 0 0, Value.int IntKind.u32 (0), Value.bool false,
          Value.int IntKind.u32 (0), Value.bool false, Value.int IntKind.u32 (0),
          Value.slice none 0 0] },
    { k := TK.struct [(0, 5), (1, 23), (2, 24), (3, 4), (4, 24), (5, 4), (6, 24), (7, 25)], size := 8, bytes := 80,
      zero :=
        [Value.int IntKind.u8 (0), Value.slice none 0 0, Value.int IntKind.u32 (0), Value.bool false,
          Value.int IntKind.u32 (0), Value.bool false, Value.int IntKind.u32 (0),
          Value.slice none 0 0] },
    { k := TK.struct [(0, 22), (1, 22), (2, 27)], size := 10, bytes := 128,
      zero :=
        [Value.slice none 0 0, Value.slice none 0 0, Value.int IntKind.u8 (0), Value.slice none 0 0,
          Value.int IntKind.u32 (0), Value.bool false, Value.int IntKind.u32 (0), Value.bool false,
          Value.int IntKind.u32 (0), Value.slice none 0 0] },
    { k := TK.struct [(0, 22), (1, 22), (2, 27)], size := 10, bytes := 128,
      zero :=
        [Value.slice none 0 0, Value.slice none 0 0, Value.int IntKind.u8 (0), Value.slice none 0 0,
          Value.int IntKind.u32 (0), Value.bool false, Value.int IntKind.u32 (0), Value.bool false,
          Value.int IntKind.u32 (0), Value.slice none 0 0] },
    { k := TK.func, size := 1, bytes := 8, zero := [Value.nilFunc] },
    { k := TK.slice 133, size := 1, bytes := 24, zero := [Value.slice none 0 0] },
    { k := TK.struct [(0, 31), (1, 4)], size := 2, bytes := 32, zero := [Value.slice none 0 0, Value.bool false] },
    { k := TK.struct [(0, 31), (1, 4)], size := 2, bytes := 32, zero := [Value.slice none 0 0, Value.bool false] },
    { k := TK.struct [(0, 3), (1, 29), (11, 33)], size := 13, bytes := 168,
      zero :=
        [Value.int IntKind.i64 (0), Value.slice none 0 0, Value.slice none 0 0,
          Value.int IntKind.u8 (0), Value.slice none 0 0, Value.int IntKind.u32 (0), Value.bool false,
          Value.int IntKind.u32 (0), Value.bool false, Value.int IntKind.u32 (0),
          Value.slice none 0 0, Value.slice none 0 0, Value.bool false] },
    { k := TK.struct [(0, 3), (1, 29), (11, 33)], size := 13, bytes := 168,
      zero :=
        [Value.int IntKind.i64 (0), Value.slice none 0 0, Value.slice none 0 0,
          Value.int IntKind.u8 (0), Value.slice none 0 0, Value.int IntKind.u32 (0), Value.bool false,
          Value.int IntKind.u32 (0), Value.bool false, Value.int IntKind.u32 (0),
          Value.slice none 0 0, Value.slice none 0 0, Value.bool false] },
    { k := TK.slice 35, size := 1, bytes := 24, zero := [Value.slice none 0 0] },
    { k := TK.func, size := 1, bytes := 8, zero := [Value.nilFunc] },
    { k := TK.int IntKind.i64, size := 1, bytes := 8, zero := [Value.int IntKind.i64 (0)], key := true,
      mkey := true },
    { k := TK.func, size := 1, bytes := 8, zero := [Value.nilFunc] },
    { k := TK.func, size := 1, bytes := 8, zero := [Value.nilFunc] },
    { k := TK.ptr 99, size := 1, bytes := 8, zero := [Value.pointer none] },
    { k := TK.tuple, size := 1, bytes := 0,
      zero := [Value.tuple { toList := [Value.pointer none, Value.int IntKind.i64 (0)] }] },
    { k := TK.func, size := 1, bytes := 8, zero := [Value.nilFunc] },
    { k := TK.struct [(0, 24), (1, 24), (2, 24), (3, 4)], size := 4, bytes := 16,
      zero :=
        [Value.int IntKind.u32 (0), Value.int IntKind.u32 (0), Value.int IntKind.u32 (0),
          Value.bool false],
      key := true, mkey := true },
    { k := TK.struct [(0, 24), (1, 24), (2, 24), (3, 4)], size := 4, bytes := 16,
      zero :=
        [Value.int IntKind.u32 (0), Value.int IntKind.u32 (0), Value.int IntKind.u32 (0),
          Value.bool false],
      key := true, mkey := true },
    { k := TK.slice 57, size := 1, bytes := 24, zero := [Value.slice none 0 0] },
    { k := TK.tuple, size := 1, bytes := 0,
      zero := [Value.tuple { toList := [Value.slice none 0 0, Value.int IntKind.i64 (0)] }] },
    { k := TK.func, size := 1, bytes := 8, zero := [Value.nilFunc] },
    { k := TK.func, size := 1, bytes := 8, zero := [Value.nilFunc] },
    { k := TK.func, size := 1, bytes := 8, zero := [Value.nilFunc] },
    { k := TK.func, size := 1, bytes := 8, zero := [Value.nilFunc] },
    { k := TK.struct [(0, 24), (1, 5)], size := 2, bytes := 8,
      zero := [Value.int IntKind.u32 (0), Value.int IntKind.u8 (0)], key := true, mkey := true },
    { k := TK.struct [(0, 24), (1, 5)], size := 2, bytes := 8,
      zero := [Value.int IntKind.u32 (0), Value.int IntKind.u8 (0)], key := true, mkey := true },
    { k := TK.func, size := 1, bytes := 8, zero := [Value.nilFunc] },
    { k := TK.func, size := 1, bytes := 8, zero := [Value.nilFunc] },
    { k := TK.struct [(0, 53), (2, 4), (3, 27)], size := 11, bytes := 96,
      zero :=
        [Value.int IntKind.u32 (0), Value.int IntKind.u8 (0), Value.bool false,
          Value.int IntKind.u8 (0), Value.slice none 0 0, Value.int IntKind.u32 (0), Value.bool false,
          Value.int IntKind.u32 (0), Value.bool false, Value.int IntKind.u32 (0),
          Value.slice none 0 0] },
    { k := TK.struct [(0, 53), (2, 4), (3, 27)], size := 11, bytes := 96,
      zero :=
        [Value.int IntKind.u32 (0), Value.int IntKind.u8 (0), Value.bool false,
          Value.int IntKind.u8 (0), Value.slice none 0 0, Value.int IntKind.u32 (0), Value.bool false,
          Value.int IntKind.u32 (0), Value.bool false, Value.int IntKind.u32 (0),
          Value.slice none 0 0] },
    { k := TK.func, size := 1, bytes := 8, zero := [Value.nilFunc] },
    { k := TK.slice 115, size := 1, bytes := 24, zero := [Value.slice none 0 0] },
    { k := TK.struct [(0, 24), (1, 45), (5, 33), (7, 59)], size := 8, bytes := 80,
      zero :=
        [Value.int IntKind.u32 (0), Value.int IntKind.u32 (0), Value.int IntKind.u32 (0),
          Value.int IntKind.u32 (0), Value.bool false, Value.slice none 0 0, Value.bool false,
          Value.slice none 0 0] },
    { k := TK.struct [(0, 24), (1, 45), (5, 33), (7, 59)], size := 8, bytes := 80,
      zero :=
        [Value.int IntKind.u32 (0), Value.int IntKind.u32 (0), Value.int IntKind.u32 (0),
          Value.int IntKind.u32 (0), Value.bool false, Value.slice none 0 0, Value.bool false,
          Value.slice none 0 0] },
    { k := TK.tuple, size := 1, bytes := 0,
      zero :=
        [Value.tuple
            {
              toList :=
                [Value.agg
                    {
                      toList :=
                        [Value.int IntKind.u32 (0), Value.int IntKind.u32 (0),
                          Value.int IntKind.u32 (0), Value.int IntKind.u32 (0), Value.bool false,
                          Value.slice none 0 0, Value.bool false, Value.slice none 0 0] },
                  Value.int IntKind.i64 (0)] }] },
    { k := TK.func, size := 1, bytes := 8, zero := [Value.nilFunc] },
    { k := TK.tuple, size := 1, bytes := 0,
      zero :=
        [Value.tuple
            {
              toList :=
                [Value.agg
                    {
                      toList :=
                        [Value.int IntKind.u32 (0), Value.int IntKind.u32 (0),
                          Value.int IntKind.u32 (0), Value.int IntKind.u32 (0), Value.bool false,
                          Value.slice none 0 0, Value.bool false, Value.slice none 0 0] },
                  Value.bool false] }] },
    { k := TK.func, size := 1, bytes := 8, zero := [Value.nilFunc] },
    { k := TK.func, size := 1, bytes := 8, zero := [Value.nilFunc] },
    { k := TK.func, size := 1, bytes := 8, zero := [Value.nilFunc] },
    { k := TK.func, size := 1, bytes := 8, zero := [Value.nilFunc] },
    { k := TK.func, size := 1, bytes := 8, zero := [Value.nilFunc] },
    { k := TK.func, size := 1, bytes := 8, zero := [Value.nilFunc] },
    { k := TK.slice 29, size := 1, bytes := 24, zero := [Value.slice none 0 0] },
    { k := TK.func, size := 1, bytes := 8, zero := [Value.nilFunc] },
    { k := TK.func, size := 1, bytes := 8, zero := [Value.nilFunc] },
    { k := TK.struct [(0, 53), (2, 27), (10, 45)], size := 14, bytes := 104,
      zero :=
        [Value.int IntKind.u32 (0), Value.int IntKind.u8 (0), Value.int IntKind.u8 (0),
          Value.slice none 0 0, Value.int IntKind.u32 (0), Value.bool false,
          Value.int IntKind.u32 (0), Value.bool false, Value.int IntKind.u32 (0),
          Value.slice none 0 0, Value.int IntKind.u32 (0), Value.int IntKind.u32 (0),
          Value.int IntKind.u32 (0), Value.bool false] },
    { k := TK.struct [(0, 53), (2, 27), (10, 45)], size := 14, bytes := 104,
      zero :=
        [Value.int IntKind.u32 (0), Value.int IntKind.u8 (0), Value.int IntKind.u8 (0),
          Value.slice none 0 0, Value.int IntKind.u32 (0), Value.bool false,
          Value.int IntKind.u32 (0), Value.bool false, Value.int IntKind.u32 (0),
          Value.slice none 0 0, Value.int IntKind.u32 (0), Value.int IntKind.u32 (0),
          Value.int IntKind.u32 (0), Value.bool false] },
    { k := TK.tuple, size := 1, bytes := 0,
      zero :=
        [Value.tuple
            {
              toList :=
                [Value.agg
                    {
                      toList :=
                        [Value.int IntKind.u32 (0), Value.int IntKind.u8 (0),
                          Value.int IntKind.u8 (0), Value.slice none 0 0, Value.int IntKind.u32 (0),
                          Value.bool false, Value.int IntKind.u32 (0), Value.bool false,
                          Value.int IntKind.u32 (0), Value.slice none 0 0, Value.int IntKind.u32 (0),
                          Value.int IntKind.u32 (0), Value.int IntKind.u32 (0), Value.bool false] },
                  Value.bool false] }] },
    { k := TK.func, size := 1, bytes := 8, zero := [Value.nilFunc] },
    { k := TK.func, size := 1, bytes := 8, zero := [Value.nilFunc] },
    { k := TK.func, size := 1, bytes := 8, zero := [Value.nilFunc] },
    { k := TK.func, size := 1, bytes := 8, zero := [Value.nilFunc] },
    { k := TK.tuple, size := 1, bytes := 0,
      zero :=
        [Value.tuple
            {
              toList :=
                [Value.agg
                    {
                      toList :=
                        [Value.int IntKind.u8 (0), Value.slice none 0 0, Value.int IntKind.u32 (0),
                          Value.bool false, Value.int IntKind.u32 (0), Value.bool false,
                          Value.int IntKind.u32 (0), Value.slice none 0 0] },
                  Value.bool false] }] },
    { k := TK.func, size := 1, bytes := 8, zero := [Value.nilFunc] },
    { k := TK.func, size := 1, bytes := 8, zero := [Value.nilFunc] },
    { k := TK.func, size := 1, bytes := 8, zero := [Value.nilFunc] },
    { k := TK.func, size := 1, bytes := 8, zero := [Value.nilFunc] },
    { k := TK.func, size := 1, bytes := 8, zero := [Value.nilFunc] },
    { k := TK.struct [(0, 4), (1, 25)], size := 2, bytes := 32, zero := [Value.bool false, Value.slice none 0 0] },
    { k := TK.struct [(0, 4), (1, 25)], size := 2, bytes := 32, zero := [Value.bool false, Value.slice none 0 0] },
    { k := TK.func, size := 1, bytes := 8, zero := [Value.nilFunc] },
    { k := TK.func, size := 1, bytes := 8, zero := [Value.nilFunc] },
    { k := TK.func, size := 1, bytes := 8, zero := [Value.nilFunc] },
    { k := TK.slice 5, size := 1, bytes := 24, zero := [Value.slice none 0 0] },
    { k := TK.func, size := 1, bytes := 8, zero := [Value.nilFunc] },
    { k := TK.func, size := 1, bytes := 8, zero := [Value.nilFunc] },
    { k := TK.func, size := 1, bytes := 8, zero := [Value.nilFunc] },
    { k := TK.map 53 27, size := 1, bytes := 8, zero := [Value.map none] },
    { k := TK.map 53 27, size := 1, bytes := 8, zero := [Value.map none] },
    { k := TK.struct [(0, 45), (4, 24), (5, 33), (7, 97)], size := 8, bytes := 64,
      zero :=
        [Value.int IntKind.u32 (0), Value.int IntKind.u32 (0), Value.int IntKind.u32 (0),
          Value.bool false, Value.int IntKind.u32 (0), Value.slice none 0 0, Value.bool false,
          Value.map none] },
    { k := TK.struct [(0, 45), (4, 24), (5, 33), (7, 97)], size := 8, bytes := 64,
      zero :=
        [Value.int IntKind.u32 (0), Value.int IntKind.u32 (0), Value.int IntKind.u32 (0),
          Value.bool false, Value.int IntKind.u32 (0), Value.slice none 0 0, Value.bool false,
          Value.map none] },
    { k := TK.func, size := 1, bytes := 8, zero := [Value.nilFunc] },
    { k := TK.func, size := 1, bytes := 8, zero := [Value.nilFunc] },
    { k := TK.func, size := 1, bytes := 8, zero := [Value.nilFunc] },
    { k := TK.func, size := 1, bytes := 8, zero := [Value.nilFunc] },
    { k := TK.func, size := 1, bytes := 8, zero := [Value.nilFunc] },
    { k := TK.func, size := 1, bytes := 8, zero := [Value.nilFunc] },
    { k := TK.func, size := 1, bytes := 8, zero := [Value.nilFunc] },
    { k := TK.func, size := 1, bytes := 8, zero := [Value.nilFunc] },
    { k := TK.tuple, size := 1, bytes := 0,
      zero :=
        [Value.tuple
            {
              toList :=
                [Value.agg
                    {
                      toList :=
                        [Value.int IntKind.u32 (0), Value.int IntKind.u32 (0),
                          Value.int IntKind.u32 (0), Value.int IntKind.u32 (0), Value.bool false,
                          Value.slice none 0 0, Value.bool false, Value.slice none 0 0] },
                  Value.slice none 0 0, Value.int IntKind.i64 (0)] }] },
    { k := TK.func, size := 1, bytes := 8, zero := [Value.nilFunc] },
    { k := TK.func, size := 1, bytes := 8, zero := [Value.nilFunc] },
    { k := TK.func, size := 1, bytes := 8, zero := [Value.nilFunc] },
    { k := TK.tuple, size := 1, bytes := 0,
      zero :=
        [Value.tuple
            {
              toList :=
                [Value.agg
                    {
                      toList :=
                        [Value.int IntKind.u32 (0), Value.int IntKind.u32 (0),
                          Value.int IntKind.u32 (0), Value.int IntKind.u32 (0), Value.bool false,
                          Value.slice none 0 0, Value.bool false, Value.slice none 0 0] },
                  Value.slice none 0 0] }] },
    { k := TK.func, size := 1, bytes := 8, zero := [Value.nilFunc] },
    { k := TK.struct [(0, 53), (2, 27)], size := 10, bytes := 88,
      zero :=
        [Value.int IntKind.u32 (0), Value.int IntKind.u8 (0), Value.int IntKind.u8 (0),
          Value.slice none 0 0, Value.int IntKind.u32 (0), Value.bool false,
          Value.int IntKind.u32 (0), Value.bool false, Value.int IntKind.u32 (0),
          Value.slice none 0 0] },
    { k := TK.struct [(0, 53), (2, 27)], size := 10, bytes := 88,
      zero :=
        [Value.int IntKind.u32 (0), Value.int IntKind.u8 (0), Value.int IntKind.u8 (0),
          Value.slice none 0 0, Value.int IntKind.u32 (0), Value.bool false,
          Value.int IntKind.u32 (0), Value.bool false, Value.int IntKind.u32 (0),
          Value.slice none 0 0] },
    { k := TK.func, size := 1, bytes := 8, zero := [Value.nilFunc] },
    { k := TK.func, size := 1, bytes := 8, zero := [Value.nilFunc] },
    { k := TK.func, size := 1, bytes := 8, zero := [Value.nilFunc] },
    { k := TK.func, size := 1, bytes := 8, zero := [Value.nilFunc] },
    { k := TK.func, size := 1, bytes := 8, zero := [Value.nilFunc] },
    { k := TK.func, size := 1, bytes := 8, zero := [Value.nilFunc] },
    { k := TK.func, size := 1, bytes := 8, zero := [Value.nilFunc] },
    { k := TK.func, size := 1, bytes := 8, zero := [Value.nilFunc] },
    { k := TK.func, size := 1, bytes := 8, zero := [Value.nilFunc] },
    { k := TK.func, size := 1, bytes := 8, zero := [Value.nilFunc] },
    { k := TK.func, size := 1, bytes := 8, zero := [Value.nilFunc] },
    { k := TK.tuple, size := 1, bytes := 0,
      zero := [Value.tuple { toList := [Value.slice none 0 0, Value.int IntKind.i64 (0)] }] },
    { k := TK.func, size := 1, bytes := 8, zero := [Value.nilFunc] },
    { k := TK.func, size := 1, bytes := 8, zero := [Value.nilFunc] },
    { k := TK.func, size := 1, bytes := 8, zero := [Value.nilFunc] },
    { k := TK.func, size := 1, bytes := 8, zero := [Value.nilFunc] },
    {
      k :=
        TK.struct
          [(0, 53), (2, 5), (3, 5), (4, 4), (5, 24), (6, 24), (7, 4), (8, 4), (9, 4), (10, 4), (11, 24), (12, 24),
            (13, 24), (14, 5)],
      size := 15, bytes := 40,
      zero :=
        [Value.int IntKind.u32 (0), Value.int IntKind.u8 (0), Value.int IntKind.u8 (0),
          Value.int IntKind.u8 (0), Value.bool false, Value.int IntKind.u32 (0),
          Value.int IntKind.u32 (0), Value.bool false, Value.bool false, Value.bool false, Value.bool false,
          Value.int IntKind.u32 (0), Value.int IntKind.u32 (0), Value.int IntKind.u32 (0),
          Value.int IntKind.u8 (0)],
      key := true, mkey := true },
    {
      k :=
        TK.struct
          [(0, 53), (2, 5), (3, 5), (4, 4), (5, 24), (6, 24), (7, 4), (8, 4), (9, 4), (10, 4), (11, 24), (12, 24),
            (13, 24), (14, 5)],
      size := 15, bytes := 40,
      zero :=
        [Value.int IntKind.u32 (0), Value.int IntKind.u8 (0), Value.int IntKind.u8 (0),
          Value.int IntKind.u8 (0), Value.bool false, Value.int IntKind.u32 (0),
          Value.int IntKind.u32 (0), Value.bool false, Value.bool false, Value.bool false, Value.bool false,
          Value.int IntKind.u32 (0), Value.int IntKind.u32 (0), Value.int IntKind.u32 (0),
          Value.int IntKind.u8 (0)],
      key := true, mkey := true },
    { k := TK.func, size := 1, bytes := 8, zero := [Value.nilFunc] },
    { k := TK.func, size := 1, bytes := 8, zero := [Value.nilFunc] },
    { k := TK.func, size := 1, bytes := 8, zero := [Value.nilFunc] },
    { k := TK.func, size := 1, bytes := 8, zero := [Value.nilFunc] },
    { k := TK.func, size := 1, bytes := 8, zero := [Value.nilFunc] },
    { k := TK.func, size := 1, bytes := 8, zero := [Value.nilFunc] },
    { k := TK.func, size := 1, bytes := 8, zero := [Value.nilFunc] },
    { k := TK.func, size := 1, bytes := 8, zero := [Value.nilFunc] },
    { k := TK.func, size := 1, bytes := 8, zero := [Value.nilFunc] },
    { k := TK.func, size := 1, bytes := 8, zero := [Value.nilFunc] },
    { k := TK.func, size := 1, bytes := 8, zero := [Value.nilFunc] },
    { k := TK.func, size := 1, bytes := 8, zero := [Value.nilFunc] },
    { k := TK.func, size := 1, bytes := 8, zero := [Value.nilFunc] },
    { k := TK.func, size := 1, bytes := 8, zero := [Value.nilFunc] },
    { k := TK.func, size := 1, bytes := 8, zero := [Value.nilFunc] },
    { k := TK.func, size := 1, bytes := 8, zero := [Value.nilFunc] },
    { k := TK.func, size := 1, bytes := 8, zero := [Value.nilFunc] },
    { k := TK.func, size := 1, bytes := 8, zero := [Value.nilFunc] },
    { k := TK.func, size := 1, bytes := 8, zero := [Value.nilFunc] },
    { k := TK.func, size := 1, bytes := 8, zero := [Value.nilFunc] },
    { k := TK.slice 156, size := 1, bytes := 24, zero := [Value.slice none 0 0] },
    { k := TK.func, size := 1, bytes := 8, zero := [Value.nilFunc] },
    { k := TK.func, size := 1, bytes := 8, zero := [Value.nilFunc] },
    { k := TK.ptr 27, size := 1, bytes := 8, zero := [Value.pointer none] },
    { k := TK.func, size := 1, bytes := 8, zero := [Value.nilFunc] },
    { k := TK.func, size := 1, bytes := 8, zero := [Value.nilFunc] },
    { k := TK.func, size := 1, bytes := 8, zero := [Value.nilFunc] },
    { k := TK.map 53 4, size := 1, bytes := 8, zero := [Value.map none] },
    { k := TK.func, size := 1, bytes := 8, zero := [Value.nilFunc] },
    { k := TK.func, size := 1, bytes := 8, zero := [Value.nilFunc] },
    { k := TK.func, size := 1, bytes := 8, zero := [Value.nilFunc] },
    { k := TK.func, size := 1, bytes := 8, zero := [Value.nilFunc] },
    { k := TK.func, size := 1, bytes := 8, zero := [Value.nilFunc] },
    { k := TK.func, size := 1, bytes := 8, zero := [Value.nilFunc] },
    { k := TK.func, size := 1, bytes := 8, zero := [Value.nilFunc] },
    { k := TK.func, size := 1, bytes := 8, zero := [Value.nilFunc] },
    { k := TK.func, size := 1, bytes := 8, zero := [Value.nilFunc] },
    { k := TK.func, size := 1, bytes := 8, zero := [Value.nilFunc] },
    { k := TK.struct [(0, 5), (1, 5), (2, 169), (3, 170), (4, 171)], size := 5, bytes := 32,
      zero :=
        [Value.int IntKind.u8 (0), Value.int IntKind.u8 (0), Value.nilFunc, Value.nilFunc,
          Value.nilFunc] },
    { k := TK.struct [(0, 5), (1, 5), (2, 169), (3, 170), (4, 171)], size := 5, bytes := 32,
      zero :=
        [Value.int IntKind.u8 (0), Value.int IntKind.u8 (0), Value.nilFunc, Value.nilFunc,
          Value.nilFunc] },
    { k := TK.slice 92, size := 1, bytes := 24, zero := [Value.slice none 0 0] },
    { k := TK.func, size := 1, bytes := 8, zero := [Value.nilFunc] },
    { k := TK.func, size := 1, bytes := 8, zero := [Value.nilFunc] },
    { k := TK.func, size := 1, bytes := 8, zero := [Value.nilFunc] },
    { k := TK.func, size := 1, bytes := 8, zero := [Value.nilFunc] },
    { k := TK.int IntKind.u64, size := 1, bytes := 8, zero := [Value.int IntKind.u64 (0)], key := true,
      mkey := true },
    { k := TK.int IntKind.u64, size := 1, bytes := 8, zero := [Value.int IntKind.u64 (0)], key := true,
      mkey := true },
    { k := TK.func, size := 1, bytes := 8, zero := [Value.nilFunc] },
    { k := TK.func, size := 1, bytes := 8, zero := [Value.nilFunc] },
    { k := TK.func, size := 1, bytes := 8, zero := [Value.nilFunc] },
    { k := TK.func, size := 1, bytes := 8, zero := [Value.nilFunc] },
    { k := TK.func, size := 1, bytes := 8, zero := [Value.nilFunc] },
    { k := TK.func, size := 1, bytes := 8, zero := [Value.nilFunc] },
    { k := TK.func, size := 1, bytes := 8, zero := [Value.nilFunc] },
    { k := TK.func, size := 1, bytes := 8, zero := [Value.nilFunc] },
    { k := TK.func, size := 1, bytes := 8, zero := [Value.nilFunc] },
    { k := TK.func, size := 1, bytes := 8, zero := [Value.nilFunc] },
    { k := TK.tuple, size := 1, bytes := 0,
      zero :=
        [Value.tuple
            {
              toList :=
                [Value.agg
                    {
                      toList :=
                        [Value.int IntKind.u8 (0), Value.slice none 0 0, Value.int IntKind.u32 (0),
                          Value.bool false, Value.int IntKind.u32 (0), Value.bool false,
                          Value.int IntKind.u32 (0), Value.slice none 0 0] },
                  Value.bool false, Value.int IntKind.i64 (0)] }] },
    { k := TK.func, size := 1, bytes := 8, zero := [Value.nilFunc] },
    { k := TK.tuple, size := 1, bytes := 0,
      zero :=
        [Value.tuple
            {
              toList :=
                [Value.agg
                    {
                      toList :=
                        [Value.int IntKind.u8 (0), Value.slice none 0 0, Value.int IntKind.u32 (0),
                          Value.bool false, Value.int IntKind.u32 (0), Value.bool false,
                          Value.int IntKind.u32 (0), Value.slice none 0 0] },
                  Value.bool false, Value.int IntKind.i64 (0)] }] },
    { k := TK.func, size := 1, bytes := 8, zero := [Value.nilFunc] },
    { k := TK.func, size := 1, bytes := 8, zero := [Value.nilFunc] },
    { k := TK.func, size := 1, bytes := 8, zero := [Value.nilFunc] },
    { k := TK.func, size := 1, bytes := 8, zero := [Value.nilFunc] },
    { k := TK.func, size := 1, bytes := 8, zero := [Value.nilFunc] },
    { k := TK.slice 173, size := 1, bytes := 24, zero := [Value.slice none 0 0] },
    { k := TK.func, size := 1, bytes := 8, zero := [Value.nilFunc] },
    { k := TK.func, size := 1, bytes := 8, zero := [Value.nilFunc] },
    { k := TK.func, size := 1, bytes := 8, zero := [Value.nilFunc] },
    { k := TK.func, size := 1, bytes := 8, zero := [Value.nilFunc] },
    { k := TK.func, size := 1, bytes := 8, zero := [Value.nilFunc] },
    { k := TK.func, size := 1, bytes := 8, zero := [Value.nilFunc] },
    { k := TK.func, size := 1, bytes := 8, zero := [Value.nilFunc] },
    { k := TK.func, size := 1, bytes := 8, zero := [Value.nilFunc] },
    { k := TK.slice 3, size := 1, bytes := 24, zero := [Value.slice none 0 0] },
    { k := TK.func, size := 1, bytes := 8, zero := [Value.nilFunc] },
    { k := TK.func, size := 1, bytes := 8, zero := [Value.nilFunc] },
    { k := TK.func, size := 1, bytes := 8, zero := [Value.nilFunc] },
    { k := TK.func, size := 1, bytes := 8, zero := [Value.nilFunc] },
    { k := TK.func, size := 1, bytes := 8, zero := [Value.nilFunc] },
    { k := TK.func, size := 1, bytes := 8, zero := [Value.nilFunc] },
    { k := TK.func, size := 1, bytes := 8, zero := [Value.nilFunc] },
    { k := TK.tuple, size := 1, bytes := 0,
      zero :=
        [Value.tuple
            {
              toList :=
                [Value.agg
                    {
                      toList :=
                        [Value.int IntKind.u8 (0), Value.slice none 0 0, Value.int IntKind.u32 (0),
                          Value.bool false, Value.int IntKind.u32 (0), Value.bool false,
                          Value.int IntKind.u32 (0), Value.slice none 0 0] },
                  Value.int IntKind.i64 (0)] }] },
    { k := TK.func, size := 1, bytes := 8, zero := [Value.nilFunc] },
    { k := TK.func, size := 1, bytes := 8, zero := [Value.nilFunc] },
    { k := TK.func, size := 1, bytes := 8, zero := [Value.nilFunc] },
    { k := TK.func, size := 1, bytes := 8, zero := [Value.nilFunc] },
    { k := TK.func, size := 1, bytes := 8, zero := [Value.nilFunc] },
    { k := TK.tuple, size := 1, bytes := 0,
      zero :=
        [Value.tuple
            {
              toList :=
                [Value.agg
                    {
                      toList :=
                        [Value.int IntKind.u8 (0), Value.slice none 0 0, Value.int IntKind.u32 (0),
                          Value.bool false, Value.int IntKind.u32 (0), Value.bool false,
                          Value.int IntKind.u32 (0), Value.slice none 0 0] },
                  Value.int IntKind.i64 (0)] }] },
    { k := TK.func, size := 1, bytes := 8, zero := [Value.nilFunc] },
    { k := TK.func, size := 1, bytes := 8, zero := [Value.nilFunc] },
    { k := TK.slice 40, size := 1, bytes := 24, zero := [Value.slice none 0 0] },
    { k := TK.func, size := 1, bytes := 8, zero := [Value.nilFunc] },
    { k := TK.func, size := 1, bytes := 8, zero := [Value.nilFunc] },
    { k := TK.func, size := 1, bytes := 8, zero := [Value.nilFunc] },
    { k := TK.func, size := 1, bytes := 8, zero := [Value.nilFunc] },
    { k := TK.func, size := 1, bytes := 8, zero := [Value.nilFunc] },
    { k := TK.func, size := 1, bytes := 8, zero := [Value.nilFunc] },
    { k := TK.int IntKind.i64, size := 1, bytes := 8, zero := [Value.int IntKind.i64 (0)], key := true,
      mkey := true },
    { k := TK.tuple, size := 1, bytes := 0,
      zero := [Value.tuple { toList := [Value.int IntKind.i64 (0), Value.int IntKind.i64 (0)] }] },
    { k := TK.func, size := 1, bytes := 8, zero := [Value.nilFunc] },
    { k := TK.func, size := 1, bytes := 8, zero := [Value.nilFunc] },
    { k := TK.func, size := 1, bytes := 8, zero := [Value.nilFunc] },
    { k := TK.tuple, size := 1, bytes := 0,
      zero := [Value.tuple { toList := [Value.int IntKind.i64 (0), Value.bool false] }] },
    { k := TK.func, size := 1, bytes := 8, zero := [Value.nilFunc] },
    { k := TK.func, size := 1, bytes := 8, zero := [Value.nilFunc] },
    { k := TK.func, size := 1, bytes := 8, zero := [Value.nilFunc] },
    { k := TK.func, size := 1, bytes := 8, zero := [Value.nilFunc] },
    { k := TK.func, size := 1, bytes := 8, zero := [Value.nilFunc] },
    { k := TK.func, size := 1, bytes := 8, zero := [Value.nilFunc] },
    { k := TK.func, size := 1, bytes := 8, zero := [Value.nilFunc] },
    { k := TK.func, size := 1, bytes := 8, zero := [Value.nilFunc] },
    { k := TK.func, size := 1, bytes := 8, zero := [Value.nilFunc] },
    { k := TK.func, size := 1, bytes := 8, zero := [Value.nilFunc] },
    { k := TK.func, size := 1, bytes := 8, zero := [Value.nilFunc] },
    { k := TK.func, size := 1, bytes := 8, zero := [Value.nilFunc] },
    { k := TK.func, size := 1, bytes := 8, zero := [Value.nilFunc] },
    { k := TK.func, size := 1, bytes := 8, zero := [Value.nilFunc] },
    { k := TK.func, size := 1, bytes := 8, zero := [Value.nilFunc] },
    { k := TK.func, size := 1, bytes := 8, zero := [Value.nilFunc] },
    { k := TK.int IntKind.u64, size := 1, bytes := 8, zero := [Value.int IntKind.u64 (0)], key := true,
      mkey := true },
    { k := TK.func, size := 1, bytes := 8, zero := [Value.nilFunc] },
    { k := TK.func, size := 1, bytes := 8, zero := [Value.nilFunc] },
    { k := TK.func, size := 1, bytes := 8, zero := [Value.nilFunc] },
    { k := TK.ptr 3, size := 1, bytes := 8, zero := [Value.pointer none] },
    { k := TK.func, size := 1, bytes := 8, zero := [Value.nilFunc] },
    { k := TK.func, size := 1, bytes := 8, zero := [Value.nilFunc] },
    { k := TK.func, size := 1, bytes := 8, zero := [Value.nilFunc] },
    { k := TK.func, size := 1, bytes := 8, zero := [Value.nilFunc] },
    { k := TK.func, size := 1, bytes := 8, zero := [Value.nilFunc] },
    { k := TK.func, size := 1, bytes := 8, zero := [Value.nilFunc] },
    { k := TK.func, size := 1, bytes := 8, zero := [Value.nilFunc] },
    { k := TK.slice 25, size := 1, bytes := 24, zero := [Value.slice none 0 0] },
    { k := TK.tuple, size := 1, bytes := 0,
      zero := [Value.tuple { toList := [Value.int IntKind.u64 (0), Value.int IntKind.u64 (0)] }] },
    { k := TK.func, size := 1, bytes := 8, zero := [Value.nilFunc] },
    { k := TK.ptr 254, size := 1, bytes := 8, zero := [Value.pointer none] },
    { k := TK.tuple, size := 1, bytes := 0,
      zero := [Value.tuple { toList := [Value.int IntKind.i64 (0), Value.int IntKind.i64 (0)] }] },
    { k := TK.func, size := 1, bytes := 8, zero := [Value.nilFunc] },
    { k := TK.func, size := 1, bytes := 8, zero := [Value.nilFunc] },
    { k := TK.tuple, size := 1, bytes := 0,
      zero := [Value.tuple { toList := [Value.int IntKind.u32 (0), Value.int IntKind.u32 (0)] }] },
    { k := TK.func, size := 1, bytes := 8, zero := [Value.nilFunc] },
    { k := TK.tuple, size := 1, bytes := 0,
      zero := [Value.tuple { toList := [Value.int IntKind.u64 (0), Value.int IntKind.u64 (0)] }] },
    { k := TK.func, size := 1, bytes := 8, zero := [Value.nilFunc] },
    { k := TK.func, size := 1, bytes := 8, zero := [Value.nilFunc] },
    { k := TK.func, size := 1, bytes := 8, zero := [Value.nilFunc] },
    { k := TK.func, size := 1, bytes := 8, zero := [Value.nilFunc] },
    { k := TK.struct [(0, 17), (1, 17), (2, 17), (3, 9)], size := 4, bytes := 40,
      zero := [Value.pointer none, Value.pointer none, Value.pointer none, Value.string { data := { toList := [] } }] },
    { k := TK.struct [(0, 17), (1, 17), (2, 17), (3, 9)], size := 4, bytes := 40,
      zero := [Value.pointer none, Value.pointer none, Value.pointer none, Value.string { data := { toList := [] } }] },
    { k := TK.array 0 16, size := 0, bytes := 0, zero := [] },
    { k := TK.struct [(0, 282)], size := 0, bytes := 0, zero := [] },
    { k := TK.struct [(0, 282)], size := 0, bytes := 0, zero := [] },
    { k := TK.int IntKind.u8, size := 1, bytes := 1, zero := [Value.int IntKind.u8 (0)], key := true,
      mkey := true },
    { k := TK.int IntKind.u8, size := 1, bytes := 1, zero := [Value.int IntKind.u8 (0)], key := true,
      mkey := true },
    { k := TK.func, size := 1, bytes := 8, zero := [Value.nilFunc] },
    { k := TK.ptr 5, size := 1, bytes := 8, zero := [Value.pointer none] },
    { k := TK.int IntKind.i32, size := 1, bytes := 4, zero := [Value.int IntKind.i32 (0)], key := true,
      mkey := true },
    { k := TK.int IntKind.i32, size := 1, bytes := 4, zero := [Value.int IntKind.i32 (0)], key := true,
      mkey := true },
    {
      k :=
        TK.struct
          [(0, 12), (1, 12), (2, 24), (3, 285), (4, 5), (5, 5), (6, 286), (7, 287), (8, 288), (9, 289), (10, 290)],
      size := 11, bytes := 48,
      zero :=
        [Value.int IntKind.u64 (0), Value.int IntKind.u64 (0), Value.int IntKind.u32 (0),
          Value.int IntKind.u8 (0), Value.int IntKind.u8 (0), Value.int IntKind.u8 (0),
          Value.int IntKind.u8 (0), Value.nilFunc, Value.pointer none, Value.int IntKind.i32 (0),
          Value.int IntKind.i32 (0)] },
    {
      k :=
        TK.struct
          [(0, 12), (1, 12), (2, 24), (3, 285), (4, 5), (5, 5), (6, 286), (7, 287), (8, 288), (9, 289), (10, 290)],
      size := 11, bytes := 48,
      zero :=
        [Value.int IntKind.u64 (0), Value.int IntKind.u64 (0), Value.int IntKind.u32 (0),
          Value.int IntKind.u8 (0), Value.int IntKind.u8 (0), Value.int IntKind.u8 (0),
          Value.int IntKind.u8 (0), Value.nilFunc, Value.pointer none, Value.int IntKind.i32 (0),
          Value.int IntKind.i32 (0)] },
    { k := TK.other, size := 1, bytes := 8, zero := [Value.pointer none] }]
theorem tab_ok : TabOk Go.Proofs.Tryz.prog tab := tabOk_of _ _ 294 (by kernel_rfl)
end Go.Proofs.YtfaglgoanmcifaaGreat
namespace Go.Proofs
open Go.Shelf
def Tryz.sortPfx_ren : Go.Shelf.Ren := ⟨fun | 6 => 110 | 15 => 159 | 14 => 158 | 28 => 192 | 29 => 193 | 20 => 184 | 21 => 185 | 22 => 186 | 23 => 187 | 24 => 188 | 25 => 189 | 26 => 190 | 27 => 191 | 46 => 207 | 47 => 208 | 48 => 209 | 49 => 210 | 50 => 211 | 57 => 223 | n => n, fun | 22 => 22 | 24 => 53 | 25 => 146 | 3 => 3 | 39 => 180 | 0 => 0 | 53 => 24 | 55 => 179 | 4 => 4 | 46 => 233 | 45 => 232 | 50 => 237 | 5 => 5 | 9 => 9 | 66 => 254 | 70 => 258 | 76 => 269 | 77 => 270 | n => n, fun | n => n⟩
theorem Tryz.sortPfx : Go.Proofs.SlLaysF0.n6 Tryz.prog Tryz.sortPfx_ren := {
  mixed := by kernel_rfl
  f6 := ⟨Tryz.f110.name, by decide, Tryz.func110.trans (congrArg some (by kernel_rfl))⟩
  f14 := ⟨Tryz.f158.name, by decide, Tryz.func158.trans (congrArg some (by kernel_rfl))⟩
  f15 := Tryz.func159.trans (congrArg some (by kernel_rfl))
  f20 := ⟨Tryz.f184.name, by decide, Tryz.func184.trans (congrArg some (by kernel_rfl))⟩
  f21 := ⟨Tryz.f185.name, by decide, Tryz.func185.trans (congrArg some (by kernel_rfl))⟩
  f22 := ⟨Tryz.f186.name, by decide, Tryz.func186.trans (congrArg some (by kernel_rfl))⟩
  f23 := ⟨Tryz.f187.name, by decide, Tryz.func187.trans (congrArg some (by kernel_rfl))⟩
  f24 := ⟨Tryz.f188.name, by decide, Tryz.func188.trans (congrArg some (by kernel_rfl))⟩
  f25 := ⟨Tryz.f189.name, by decide, Tryz.func189.trans (congrArg some (by kernel_rfl))⟩
  f26 := ⟨Tryz.f190.name, by decide, Tryz.func190.trans (congrArg some (by kernel_rfl))⟩
  f27 := ⟨Tryz.f191.name, by decide, Tryz.func191.trans (congrArg some (by kernel_rfl))⟩
  f28 := Tryz.func192.trans (congrArg some (by kernel_rfl))
  f29 := Tryz.func193.trans (congrArg some (by kernel_rfl))
  f46 := ⟨Tryz.f207.name, by decide, Tryz.func207.trans (congrArg some (by kernel_rfl))⟩
  f47 := Tryz.func208.trans (congrArg some (by kernel_rfl))
  f48 := Tryz.func209.trans (congrArg some (by kernel_rfl))
  f49 := ⟨Tryz.f210.name, by decide, Tryz.func210.trans (congrArg some (by kernel_rfl))⟩
  f50 := ⟨Tryz.f211.name, by decide, Tryz.func211.trans (congrArg some (by kernel_rfl))⟩
  f57 := ⟨Tryz.f223.name, by decide, Tryz.func223.trans (congrArg some (by kernel_rfl))⟩
  t0 := Tryz.underlying0
  a0 := Tryz.isAgg0
  z0 := Tryz.sizeOf0
  v0 := Tryz.zeroValue0
  t3 := Tryz.underlying3
  a3 := Tryz.isAgg3
  z3 := Tryz.sizeOf3
  v3 := Tryz.zeroValue3
  t4 := Tryz.underlying4
  a4 := Tryz.isAgg4
  z4 := Tryz.sizeOf4
  v4 := Tryz.zeroValue4
  t5 := Tryz.underlying5
  a5 := Tryz.isAgg5
  z5 := Tryz.sizeOf5
  v5 := Tryz.zeroValue5
  t9 := Tryz.underlying9
  a9 := Tryz.isAgg9
  z9 := Tryz.sizeOf9
  v9 := Tryz.zeroValue9
  t22 := Tryz.underlying22
  a22 := Tryz.isAgg22
  z22 := Tryz.sizeOf22
  v22 := Tryz.zeroValue22
  t25 := Tryz.underlying146
  a25 := Tryz.isAgg146
  z25 := Tryz.sizeOf146
  v25 := Tryz.zeroValue146
  t39 := Tryz.underlying180
  a39 := Tryz.isAgg180
  z39 := Tryz.sizeOf180
  v39 := Tryz.zeroValue180
  t45 := Tryz.underlying232
  a45 := Tryz.isAgg232
  z45 := Tryz.sizeOf232
  v45 := Tryz.zeroValue232
  t46 := Tryz.underlying233
  a46 := Tryz.isAgg233
  z46 := Tryz.sizeOf233
  v46 := Tryz.zeroValue233
  t50 := Tryz.underlying237
  a50 := Tryz.isAgg237
  z50 := Tryz.sizeOf237
  v50 := Tryz.zeroValue237
  t53 := Tryz.underlying24
  a53 := Tryz.isAgg24
  z53 := Tryz.sizeOf24
  v53 := Tryz.zeroValue24
  t55 := Tryz.underlying179
  a55 := Tryz.isAgg179
  z55 := Tryz.sizeOf179
  v55 := Tryz.zeroValue179
  t66 := Tryz.underlying254
  a66 := Tryz.isAgg254
  z66 := Tryz.sizeOf254
  v66 := Tryz.zeroValue254
  t70 := Tryz.underlying258
  a70 := Tryz.isAgg258
  z70 := Tryz.sizeOf258
  v70 := Tryz.zeroValue258
  t76 := Tryz.underlying269
  a76 := Tryz.isAgg269
  z76 := Tryz.sizeOf269
  v76 := Tryz.zeroValue269
  t77 := Tryz.underlying270
  a77 := Tryz.isAgg270
  z77 := Tryz.sizeOf270
  v77 := Tryz.zeroValue270 }
def Tryz.cloneMap_ren : Go.Shelf.Ren := ⟨fun | 5 => 39 | 7 => 77 | n => n, fun | 23 => 97 | 25 => 53 | 3 => 27 | 4 => 4 | 20 => 20 | n => n, fun | n => n⟩
theorem Tryz.cloneMap : Go.Proofs.SlLaysW.n5 Tryz.prog Tryz.cloneMap_ren := {
  mixed := by kernel_rfl
  f5 := ⟨Tryz.f39.name, by decide, Tryz.func39.trans (congrArg some (by kernel_rfl))⟩
  f7 := Tryz.func77.trans (congrArg some (by kernel_rfl))
  t4 := Tryz.underlying4
  a4 := Tryz.isAgg4
  z4 := Tryz.sizeOf4
  v4 := Tryz.zeroValue4
  t20 := Tryz.underlying20
  a20 := Tryz.isAgg20
  z20 := Tryz.sizeOf20
  v20 := Tryz.zeroValue20
  t23 := Tryz.underlying97
  a23 := Tryz.isAgg97
  z23 := Tryz.sizeOf97
  v23 := Tryz.zeroValue97 }
end Go.Proofs
namespace Go.Proofs.YtfaglgoanmcifaaGreat
open Go.RowKit
open Go.Proofs.Tryz (prog)
theorem mixed : prog.follows .mixedOrders = true := rfl
structure Leg where
  set : Bool
  ns : List UInt32
deriving DecidableEq
structure Attrs where
  origin : UInt8
  path : List Leg
  next : UInt32
  hasMed : Bool
  med : UInt32
  hasPref : Bool
  pref : UInt32
  tags : List UInt32
deriving DecidableEq
abbrev cB (x : UInt8) : V := .int .u8 x.toNat
abbrev cW (x : UInt32) : V := .int .u32 x.toNat
abbrev cI (n : Nat) : V := .int .i64 n
def encLeg (fr : Bool) (p : Leg) : List V := [.bool p.set, encW fr p.ns]
def encLegs (fr : Bool) (l : List Leg) : V := .sl fr 2 (l.map (encLeg fr))
def cellsA (fr : Bool) (a : Attrs) : List V := [cB a.origin, encLegs fr a.path, cW a.next, .bool a.hasMed, cW a.med, .bool a.hasPref, cW a.pref, encW fr a.tags]
def encA (fr : Bool) (a : Attrs) : V := .agg (cellsA fr a)
theorem encLeg_free (fr : Bool) (p : Leg) : ∀ v ∈ encLeg fr p, Free v := by
  intro v hv
  simp [encLeg] at hv
  rcases hv with rfl | rfl
  · exact .bool
  · exact encW_free _ _
theorem rowsLegs_free (fr : Bool) (l : List Leg) : ∀ x ∈ l.map (encLeg fr), ∀ v ∈ x, Free v := by
  intro x hx v hv
  obtain ⟨p, _, rfl⟩ := List.mem_map.1 hx
  exact encLeg_free fr p v hv
theorem encLegs_free (fr : Bool) (l : List Leg) : Free (encLegs fr l) := .sl (rowsLegs_free fr l)
theorem cellsA_free (fr : Bool) (a : Attrs) : ∀ v ∈ cellsA fr a, Free v := by
  intro v hv
  simp [cellsA] at hv
  rcases hv with rfl | rfl | rfl | rfl | rfl | rfl | rfl | rfl
  all_goals first | exact .int | exact .bool | exact encLegs_free _ _ | exact encW_free _ _
theorem encA_free (fr : Bool) (a : Attrs) : Free (encA fr a) := .agg (cellsA_free fr a)
theorem encLegs_cold (l : List Leg) : Cold (encLegs false l) := .sl (by
  intro x hx v hv
  obtain ⟨p, _, rfl⟩ := List.mem_map.1 hx
  simp [encLeg] at hv
  rcases hv with rfl | rfl
  · exact .bool
  · exact encW_cold _)
theorem encLegs_fresh (l : List Leg) : Fresh (encLegs true l) := .sl (by
  intro x hx v hv
  obtain ⟨p, _, rfl⟩ := List.mem_map.1 hx
  simp [encLeg] at hv
  rcases hv with rfl | rfl
  · exact .bool
  · exact encW_fresh _)
theorem encA_cold (a : Attrs) : Cold (encA false a) := .agg (by
  intro v hv
  simp [cellsA] at hv
  rcases hv with rfl | rfl | rfl | rfl | rfl | rfl | rfl | rfl
  all_goals first | exact .int | exact .bool | exact encLegs_cold _ | exact encW_cold _)
theorem encA_fresh (a : Attrs) : Fresh (encA true a) := .agg (by
  intro v hv
  simp [cellsA] at hv
  rcases hv with rfl | rfl | rfl | rfl | rfl | rfl | rfl | rfl
  all_goals first | exact .int | exact .bool | exact encLegs_fresh _ | exact encW_fresh _)
def FreeB : Blk → Prop
  | .var _ _ cells => ∀ v ∈ cells, Free v
  | .arr _ _ _ _ rows => ∀ x ∈ rows, ∀ v ∈ x, Free v
  | .map es => ∀ kv ∈ es, Free kv.1 ∧ Free kv.2
  | _ => False
theorem LeL.free {h : Heap} {nx nx' : Nat} {ρ : Nat → Nat} {Z : List Nat} : ∀ {cells : List V}, (∀ v ∈ cells, Free v) → LeL h nx ρ nx' Z cells cells
  | [], _ => trivial
  | v :: r, hf => ⟨.free (hf v (by simp)), LeL.free (fun v hv => hf v (by simp [hv]))⟩
theorem LeB.free {h : Heap} {nx nx' : Nat} {ρ : Nat → Nat} {Z : List Nat} {blk : Blk} (hf : FreeB blk) : LeB h nx ρ nx' Z blk blk := by
  cases blk with
  | var fr ty cells => exact ⟨id, rfl, LeL.free hf⟩
  | arr fr ex ty sz rows => exact .arr hf
  | loop => exact hf.elim
  | iter => exact hf.elim
  | map es => exact ⟨rfl, fun j kv kv' h1 h2 => by
      obtain rfl := same_of h1 h2
      obtain ⟨q1, q2⟩ := hf kv (List.mem_of_getElem? h1)
      exact ⟨.free q1, .free q2⟩⟩
theorem LeB.rows {h : Heap} {nx nx' : Nat} {ρ : Nat → Nat} {Z : List Nat} {fr ex : Bool} {ty sz : Nat} {rows rows' : List (List V)} (hl : rows.length = rows'.length)
    (hr : ∀ (j : Nat) (x x' : List V), rows[j]? = some x → rows'[j]? = some x' → LeL h nx ρ nx' Z x x') : LeB h nx ρ nx' Z (.arr fr ex ty sz rows) (.arr fr ex ty sz rows') := by
  have key : ∀ (rows rows' : List (List V)), rows.length = rows'.length → (∀ (j : Nat) (x x' : List V), rows[j]? = some x → rows'[j]? = some x' → LeL h nx ρ nx' Z x x') →
      rows.map List.length = rows'.map List.length ∧ ∀ (j : Nat) (v v' : V), rows.flatten[j]? = some v → rows'.flatten[j]? = some v' → LeV h nx ρ nx' Z v v' := by
    intro rows
    induction rows with
    | nil => intro rows' hl _; cases rows' with
      | nil => simp
      | cons _ _ => simp at hl
    | cons x r ih =>
      intro rows' hl hr
      cases rows' with
      | nil => simp at hl
      | cons x' r' =>
        obtain ⟨q1, q2⟩ := ih r' (by simpa using hl) (fun j y y' h1 h2 => hr (j + 1) y y' (by simpa using h1) (by simpa using h2))
        have hx := (hr 0 x x' rfl rfl).out
        refine ⟨by simp [q1, hx.1], fun j v v' h1 h2 => ?_⟩
        rw [List.flatten_cons] at h1 h2
        rcases Nat.lt_or_ge j x.length with hj | hj
        · rw [List.getElem?_append_left hj] at h1
          rw [List.getElem?_append_left (by omega)] at h2
          exact hx.2 j v v' h1 h2
        · rw [List.getElem?_append_right hj] at h1
          rw [List.getElem?_append_right (by omega), ← hx.1] at h2
          exact q2 _ v v' h1 h2
  obtain ⟨h1, h2⟩ := key rows rows' hl hr
  exact ⟨id, id, rfl, rfl, h1, h2⟩
theorem LeB.set {h : Heap} {nx nx' : Nat} {ρ : Nat → Nat} {Z : List Nat} {fr ex : Bool} {ty sz i : Nat} {rows : List (List V)} {x x' : List V} (hf : ∀ x ∈ rows, ∀ v ∈ x, Free v) (hx : LeL h nx ρ nx' Z x x') :
    LeB h nx ρ nx' Z (.arr fr ex ty sz (rows.set i x)) (.arr fr ex ty sz (rows.set i x')) :=
  LeB.rows (by simp) fun j y y' h1 h2 => by
    rw [List.getElem?_set] at h1 h2
    split at h1
    · rename_i e
      subst e
      split at h1
      · rename_i hlt
        rw [if_pos rfl, if_pos hlt] at h2
        cases h1; cases h2
        exact hx
      · cases h1
    · rename_i e
      rw [if_neg e] at h2
      rw [h1] at h2; cases h2
      exact LeL.free (hf _ (List.mem_of_getElem? h1))
theorem ne_none_of {ob : Option Blk} {x : Blk} (h : ob = some x) : ob ≠ none := by rw [h]; simp
def sameH (h : Heap) (nx' : Nat) : Heap → Prop
  | [] => True
  | (b, some blk) :: r => (hget h b = some blk ∧ FreeB blk ∧ b < nx') ∧ sameH h nx' r
  | (_, none) :: r => sameH h nx' r
theorem sameH.out {h : Heap} {nx nx' : Nat} : ∀ {h' : Heap}, sameH h nx' h' → leHL h nx id nx' [] h'
  | [], _ => trivial
  | (b, none) :: r, hh => sameH.out (h' := r) hh
  | (b, some blk) :: r, hh => ⟨⟨hh.1.2.2, .inl ⟨by simp, blk, hh.1.1, LeB.free hh.1.2.1⟩⟩, sameH.out hh.2⟩
theorem LeH.same {base : Nat} {h h' : Heap} {nx nx' : Nat} (hs : sameH h nx' h') (hn : base ≤ nx') : LeH base h nx id nx' [] h' :=
  LeH.of hs.out (fun _ _ _ _ h => h) (fun _ _ => rfl) hn (by simp)
theorem idxW {l : List UInt32} {i : Nat} (h : i < l.length) : (l.map fun x => [V.int .u32 x.toNat])[(i : Int).toNat]? = some [.int .u32 l[i].toNat] := by simp [h]
theorem idxL {fr : Bool} {l : List Leg} {i : Nat} (h : i < l.length) : (l.map (encLeg fr))[(i : Int).toNat]? = some (encLeg fr l[i]) := by simp [h]
theorem wrap64_succ {n i : Nat} (h : i < n) (hn : n ≤ maxLen) : IntKind.i64.wrap ((i : Int) + 1) = ((i + 1 : Nat) : Int) := by
  rw [wrap64] <;> unfold maxLen at hn <;> omega
theorem wrap64_pred {n i : Nat} (h : i < n) (hn : n ≤ maxLen) : IntKind.i64.wrap (((i + 1 : Nat) : Int) - 1) = i := by
  rw [wrap64] <;> unfold maxLen at hn <;> omega
theorem all_take_succ {α : Type} {p : α → Bool} {l : List α} {i : Nat} (h : i < l.length) : (l.take (i + 1)).all p = ((l.take i).all p && p l[i]) := by
  rw [List.take_succ_eq_append_getElem h, List.all_append]; simp
theorem all_false {α : Type} {p : α → Bool} {l : List α} {i : Nat} (h : i < l.length) (hp : p l[i] = false) : l.all p = false := by
  rw [List.all_eq_false]
  exact ⟨l[i], List.getElem_mem h, by simp [hp]⟩
end Go.Proofs.YtfaglgoanmcifaaGreat
namespace Go.Proofs.YtfaglgoanmcifaaGreat
open Go.RowKit
open Go.Proofs.Tryz (prog)
attribute [local irreducible] CallV RoundV
def wordOf (b : List UInt8) : UInt32 := b.foldl (fun n c => n * 256 + c.toUInt32) 0
def rises : List UInt32 → Bool
  | a :: b :: r => decide (a < b) && rises (b :: r)
  | _ => true
theorem rises_take_succ {l : List UInt32} : ∀ {i : Nat} (h : i + 1 < l.length), rises (l.take (i + 2)) = (rises (l.take (i + 1)) && decide (l[i] < l[i + 1])) := by
  induction l with
  | nil => intro i h; simp at h
  | cons a l ih =>
    intro i h
    cases l with
    | nil => simp at h
    | cons b r =>
      cases i with
      | zero => simp [rises]
      | succ i =>
        have := ih (i := i) (by simpa using h)
        simp only [List.take_succ_cons, List.getElem_cons_succ] at this ⊢
        cases i with
        | zero => simp [rises] at this ⊢; rw [this]
        | succ i =>
          simp only [List.take_succ_cons, rises] at this ⊢
          rw [this]
          simp [Bool.and_assoc]
theorem rises_take_false {l : List UInt32} {i : Nat} (h : i ≤ l.length) (hf : rises (l.take i) = false) : rises l = false := by
  induction l generalizing i with
  | nil => simp [rises] at hf
  | cons a l ih =>
    cases i with
    | zero => simp [rises] at hf
    | succ i =>
      cases l with
      | nil => simp [rises] at hf
      | cons b r =>
        cases i with
        | zero => simp [rises] at hf
        | succ i =>
          have h2 := ih (i := i + 1) (by simpa using h)
          simp only [List.take_succ_cons, rises, Bool.and_eq_false_iff] at hf h2 ⊢
          rcases hf with hf | hf
          · exact .inl hf
          · exact .inr (h2 hf)
set_option maxRecDepth 100000 in
theorem rise_ok (fr : Bool) (l : List UInt32) : PCon prog 63 [encW fr l] (.bool (rises l)) := by
  refine callV_of (fn := Go.Proofs.Tryz.f63) (body := _) tab_ok mixed rfl rfl (by decide) (by simp [Go.Proofs.Tryz.f63]) ?_
  (conv => whnf)
  intro hl
  have hl : l.length ≤ maxLen := by simpa [gd] using hl
  (conv => whnf)
  refine vcg_loop tab_ok mixed (fun i : {i : Nat // i ≤ l.length ∧ rises (l.take i) = true} => ⟨[(0, encW fr l), (5, .int .i64 l.length), (6, .int .i64 i.1)], [], 0⟩) (fun i => l.length - i.1) ⟨0, Nat.zero_le _, rfl⟩ (Wk.of id [] ⟨?_, ?_, ?_, trivial⟩ (LeH.nil (Nat.le_refl _) (fun b h => by omega) (by simp))) (fun i => ?_)
  · exact .free (encW_free _ _)
  · exact .int_of (by simp)
  · exact .int_of rfl
  obtain ⟨i, hi, hr⟩ := i
  (conv => whnf)
  split
  · rename_i hc
    have hc : i < l.length := by simpa using hc
    (conv => whnf)
    split
    · rename_i h0
      obtain ⟨k, rfl⟩ : ∃ k, i = k + 1 := ⟨i - 1, by simp at h0; omega⟩
      have e1 : IntKind.i64.wrap (((k + 1 : Nat) : Int) - 1) = k := by rw [wrap64'] ; unfold maxLen at hl; omega
      refine ⟨rfl, [.int .u32 (l[k]'(by omega)).toNat], ⟨by simp only [e1]; omega, by simp only [e1]; exact idxW _⟩, ?_⟩
      (conv => whnf)
      refine ⟨rfl, [.int .u32 (l[k + 1]).toNat], ⟨by simp only; omega, idxW _⟩, ?_⟩
      (conv => whnf)
      refine ⟨by kernel_rfl, ?_⟩
      (conv => whnf)
      split
      · rename_i h1
        (conv => whnf)
        refine Ends.pure [] (.bool_of ?_) (by simp)
        symm
        refine rises_take_false (i := k + 2) (by omega) ?_
        rw [rises_take_succ hc]
        simp only [Bool.and_eq_false_iff, decide_eq_false_iff_not]
        right
        simpa [UInt32.lt_iff_toNat_lt] using h1
      · rename_i h1
        (conv => whnf)
        refine ⟨⟨k + 2, by omega, ?_⟩, Wk.of id [] ⟨?_, ?_, ?_, trivial⟩ (LeH.nil (Nat.le_refl _) (fun b h => by omega) (by simp)), by simp only; omega⟩
        · rw [rises_take_succ hc, hr]
          simpa [UInt32.lt_iff_toNat_lt] using h1
        · exact .free (encW_free _ _)
        · exact .int_of rfl
        · refine .int_of ?_
          simp only
          rw [wrap64] <;> unfold maxLen at hl <;> omega
    · rename_i h0
      have h0 : i = 0 := by simp at h0; omega
      subst h0
      (conv => whnf)
      refine ⟨by kernel_rfl, ?_⟩
      (conv => whnf)
      refine ⟨⟨1, by omega, ?_⟩, Wk.of id [] ⟨?_, ?_, ?_, trivial⟩ (LeH.nil (Nat.le_refl _) (fun b h => by omega) (by simp)), by simp only; omega⟩
      · cases l with
        | nil => rfl
        | cons a l => simp [rises]
      · exact .free (encW_free _ _)
      · exact .int_of rfl
      · exact .int_of rfl
  · rename_i hc
    have hc : i = l.length := by simp at hc; omega
    subst hc
    (conv => whnf)
    refine Ends.pure [] (.bool_of ?_) (by simp)
    simpa using hr.symm
end Go.Proofs.YtfaglgoanmcifaaGreat
namespace Go.Proofs.YtfaglgoanmcifaaGreat
open Go.RowKit
open Go.Proofs.Tryz (prog)
attribute [local irreducible] CallV RoundV
set_option maxRecDepth 100000 in
theorem ref_rise_ok (fr : Bool) (l : List UInt32) : PCon prog 164 [encW fr l] (.bool (rises l)) := by
  refine callV_of (fn := Go.Proofs.Tryz.f164) (body := _) tab_ok mixed rfl rfl (by decide) (by simp [Go.Proofs.Tryz.f164]) ?_
  (conv => whnf)
  refine vcg_loop tab_ok mixed (fun i : {i : Nat // i < l.length + 1 ∧ rises (l.take (i + 1)) = true} => ⟨[(0, encW fr l), (3, .int .i64 ((i.1 + 1 : Nat) : Int))], [], 0⟩) (fun i => l.length - i.1) ⟨0, by omega, ?_⟩ (Wk.of id [] ⟨?_, ?_, trivial⟩ (LeH.nil (Nat.le_refl _) (fun b h => by omega) (by simp))) (fun i => ?_)
  · cases l with
    | nil => rfl
    | cons a l => simp [rises]
  · exact .free (encW_free _ _)
  · exact .int_of rfl
  obtain ⟨i, hi, hr⟩ := i
  (conv => whnf)
  intro hl
  have hl : l.length ≤ maxLen := by simpa [gd] using hl
  (conv => whnf)
  split
  · rename_i hc
    have hc : i + 1 < l.length := by simp at hc; omega
    (conv => whnf)
    refine ⟨rfl, [.int .u32 (l[i]'(by omega)).toNat], ⟨by simp only [wrap64_pred hc hl, show (i : Nat) < l.length by omega, wrap64_pred (show i < l.length by omega) hl]; omega, by simp only [wrap64_pred (show i < l.length by omega) hl]; exact idxW _⟩, ?_⟩
    (conv => whnf)
    refine ⟨rfl, [.int .u32 (l[i + 1]).toNat], ⟨by simp only; omega, idxW _⟩, ?_⟩
    (conv => whnf)
    refine ⟨by kernel_rfl, ?_⟩
    (conv => whnf)
    split
    · rename_i h1
      (conv => whnf)
      refine Ends.pure [] (.bool_of ?_) (by simp)
      symm
      refine rises_take_false (i := i + 2) (by omega) ?_
      rw [rises_take_succ hc]
      simp only [Bool.and_eq_false_iff, decide_eq_false_iff_not]
      right
      simpa [UInt32.lt_iff_toNat_lt] using h1
    · rename_i h1
      (conv => whnf)
      refine ⟨⟨i + 1, by omega, ?_⟩, Wk.of id [] ⟨?_, ?_, trivial⟩ (LeH.nil (Nat.le_refl _) (fun b h => by omega) (by simp)), by simp only; omega⟩
      · rw [rises_take_succ hc, hr]
        simpa [UInt32.lt_iff_toNat_lt] using h1
      · exact .free (encW_free _ _)
      · exact .int_of (wrap64_succ hc hl)
  · rename_i hc
    have hc : l.length ≤ i + 1 := by simp at hc; omega
    (conv => whnf)
    refine Ends.pure [] (.bool_of ?_) (by simp)
    rw [List.take_of_length_le hc] at hr
    exact hr.symm
set_option maxRecDepth 100000 in
theorem words_ok (fr fr' : Bool) (a b : List UInt32) : PCon prog 45 [encW fr a, encW fr' b] (.bool (decide (a = b))) := by
  refine callV_of (fn := Go.Proofs.Tryz.f45) (body := _) tab_ok mixed rfl rfl (by decide) (by simp [Go.Proofs.Tryz.f45]) ?_
  (conv => whnf)
  intro ha
  have ha : a.length ≤ maxLen := by simpa [gd] using ha
  (conv => whnf)
  intro hb
  (conv => whnf)
  split
  · rename_i hne
    (conv => whnf)
    refine Ends.pure [] (.bool_of ?_) (by simp)
    symm
    rw [decide_eq_false_iff_not]
    rintro rfl
    simp at hne
  · rename_i hne
    have hlen : a.length = b.length := by simp at hne; omega
    (conv => whnf)
    refine vcg_loop tab_ok mixed (fun i : {i : Nat // i ≤ a.length ∧ a.take i = b.take i} => ⟨[(0, encW fr a), (1, encW fr' b), (5, .int .i64 i.1)], [], 0⟩) (fun i => a.length - i.1) ⟨0, by omega, rfl⟩ (Wk.of id [] ⟨?_, ?_, ?_, trivial⟩ (LeH.nil (Nat.le_refl _) (fun b h => by omega) (by simp))) (fun i => ?_)
    · exact .free (encW_free _ _)
    · exact .free (encW_free _ _)
    · exact .int_of rfl
    obtain ⟨i, hi, hr⟩ := i
    (conv => whnf)
    intro _
    (conv => whnf)
    split
    · rename_i hc
      have hc : i < a.length := by simpa using hc
      (conv => whnf)
      refine ⟨rfl, _, ⟨by simp only; omega, idxW hc⟩, ?_⟩
      (conv => whnf)
      refine ⟨rfl, _, ⟨by simp only; omega, idxW (show i < b.length by omega)⟩, ?_⟩
      (conv => whnf)
      refine ⟨by kernel_rfl, ?_⟩
      (conv => whnf)
      split
      · rename_i h1
        (conv => whnf)
        refine Ends.pure [] (.bool_of ?_) (by simp)
        symm
        rw [decide_eq_false_iff_not]
        rintro rfl
        simp at h1
      · rename_i h1
        have h1 : a[i] = b[i] := by
          simp at h1
          exact UInt32.toNat_inj.1 (by omega)
        (conv => whnf)
        refine ⟨⟨i + 1, by omega, ?_⟩, Wk.of id [] ⟨?_, ?_, ?_, trivial⟩ (LeH.nil (Nat.le_refl _) (fun b h => by omega) (by simp)), by simp only; omega⟩
        · rw [List.take_succ_eq_append_getElem hc, List.take_succ_eq_append_getElem (show i < b.length by omega), hr, h1]
        · exact .free (encW_free _ _)
        · exact .free (encW_free _ _)
        · exact .int_of (wrap64_succ hc ha)
    · rename_i hc
      have hc : i = a.length := by simp at hc; omega
      subst hc
      (conv => whnf)
      refine Ends.pure [] (.bool_of ?_) (by simp)
      symm
      rw [decide_eq_true_iff]
      rw [List.take_length, hlen, List.take_length] at hr
      exact hr
def legOk (p : Leg) : Bool := decide (1 ≤ p.ns.length) && decide (p.ns.length ≤ 32) && (!p.set || rises p.ns) && p.ns.all (· != 0)
def pathOk (l : List Leg) : Bool := decide (l.length ≤ 8) && l.all legOk
set_option maxRecDepth 100000 in
theorem ref_part_ok (fr : Bool) (p : Leg) : PCon prog 194 [.agg (encLeg fr p)] (.bool (legOk p)) := by
  refine callV_of (fn := Go.Proofs.Tryz.f194) (body := _) tab_ok mixed rfl rfl (by decide) (by simp [Go.Proofs.Tryz.f194]) ?_
  (conv => whnf)
  intro hl
  have hl : p.ns.length ≤ maxLen := by simpa [gd] using hl
  have fin : ∀ {s : St}, legOk p = false → ∃ v1 h' nx', Ends 0 s (.bool false) v1 h' nx' ∧ (v1 = .bool (legOk p) ∧ h' = [] ∧ nx' = 0) := fun h => Ends.pure [] (.bool_of h.symm) (by simp)
  (conv => whnf)
  split
  · rename_i h0
    (conv => whnf)
    exact fin (by simp at h0; simp [legOk]; omega)
  · rename_i h0
    have h0 : 1 ≤ p.ns.length := by simp at h0; omega
    (conv => whnf)
    intro _
    (conv => whnf)
    split
    · rename_i h1
      (conv => whnf)
      exact fin (by simp at h1; simp [legOk]; omega)
    · rename_i h1
      have h1 : p.ns.length ≤ 32 := by simp at h1; omega
      (conv => whnf)
      split
      case' h_1 =>
        rename_i h2
        (conv => whnf)
        refine callV_pure (ref_rise_ok fr p.ns) ⟨.free (encW_free _ _), trivial⟩ ?_
        (conv => whnf)
        split
        · rename_i h3
          (conv => whnf)
          exact fin (by simp at h3; simp [legOk, h2, h3])
        rename_i h3
        have hr : (!p.set || rises p.ns) = true := by simp at h3; simp [h3]
        (conv => whnf)
      case' h_2 =>
        rename_i h2
        have hr : (!p.set || rises p.ns) = true := by simp [h2]
        (conv => whnf)
      all_goals
        refine vcg_loop tab_ok mixed (fun i : {i : Nat // i ≤ p.ns.length ∧ (p.ns.take i).all (· != 0) = true} => ⟨[(1, .ptr 0 0), (3, cI i.1)], [(0, some (.var true 88 (encLeg fr p)))], 1⟩) (fun i => p.ns.length - i.1) ⟨0, by omega, rfl⟩ (Wk.of id [] ⟨?_, ?_, trivial⟩ (LeH.same ⟨⟨rfl, encLeg_free _ _, by omega⟩, trivial⟩ (by omega))) (fun i => ?_)
        · exact .ptr rfl (by omega)
        · exact .int_of rfl
        obtain ⟨i, hi, hz⟩ := i
        (conv => whnf)
        intro _
        (conv => whnf)
        split
        · rename_i hc
          have hc : i < p.ns.length := by simpa using hc
          (conv => whnf)
          refine ⟨rfl, _, ⟨by simp only; omega, idxW hc⟩, ?_⟩
          (conv => whnf)
          split
          · rename_i h4
            (conv => whnf)
            refine fin ?_
            have := all_false (p := (· != 0)) hc (by
              simp at h4
              simp only [bne_eq_false_iff_eq]
              exact UInt32.toNat_inj.1 (by simp; omega))
            simp [legOk, this]
          · rename_i h4
            (conv => whnf)
            refine ⟨⟨i + 1, by omega, ?_⟩, Wk.of id [] ⟨?_, ?_, trivial⟩ (LeH.same ⟨⟨rfl, encLeg_free _ _, by omega⟩, trivial⟩ (by omega)), by simp only; omega⟩
            · rw [all_take_succ hc, hz]
              simp at h4
              simp only [Bool.true_and, bne_iff_ne, ne_eq]
              intro e
              rw [e] at h4
              simp at h4
            · exact .ptr rfl (by omega)
            · exact .int_of (wrap64_succ hc hl)
        · rename_i hc
          have hc : i = p.ns.length := by simp at hc; omega
          subst hc
          (conv => whnf)
          refine Ends.pure [] (.bool_of ?_) (by simp)
          rw [List.take_length] at hz
          simp only [legOk, hr, hz, Bool.and_true]
          simp [h0, h1]
end Go.Proofs.YtfaglgoanmcifaaGreat
namespace Go.Proofs.YtfaglgoanmcifaaGreat
open Go.RowKit
open Go.Proofs.Tryz (prog)
attribute [local irreducible] CallV RoundV
set_option maxRecDepth 100000 in
theorem ref_path_ok (fr : Bool) (l : List Leg) : PCon prog 163 [encLegs fr l] (.bool (pathOk l)) := by
  refine callV_of (fn := Go.Proofs.Tryz.f163) (body := _) tab_ok mixed rfl rfl (by decide) (by simp [Go.Proofs.Tryz.f163]) ?_
  (conv => whnf)
  intro hl
  have hl : l.length ≤ maxLen := by simpa [gd] using hl
  (conv => whnf)
  split
  · rename_i h0
    (conv => whnf)
    exact Ends.pure [] (.bool_of (by simp at h0; simp [pathOk]; omega)) (by simp)
  rename_i h0
  have h0 : l.length ≤ 8 := by simp at h0; omega
  (conv => whnf)
  refine vcg_loop tab_ok mixed (fun i : {i : Nat // i ≤ l.length ∧ (l.take i).all legOk = true} => ⟨[(0, encLegs fr l), (3, cI i.1)], [], 0⟩) (fun i => l.length - i.1) ⟨0, by omega, rfl⟩ (Wk.of id [] ⟨?_, ?_, trivial⟩ (LeH.nil (Nat.le_refl _) (fun b h => by omega) (by simp))) (fun i => ?_)
  · exact .free (encLegs_free _ _)
  · exact .int_of rfl
  obtain ⟨i, hi, hz⟩ := i
  (conv => whnf)
  intro _
  (conv => whnf)
  split
  · rename_i hc
    have hc : i < l.length := by simpa using hc
    (conv => whnf)
    refine ⟨rfl, _, ⟨by simp only; omega, idxL hc⟩, ?_⟩
    (conv => whnf)
    refine callV_pure (ref_part_ok fr l[i]) ⟨.free (.agg (encLeg_free _ _)), trivial⟩ ?_
    (conv => whnf)
    split
    · rename_i h1
      (conv => whnf)
      refine Ends.pure [] (.bool_of ?_) (by simp)
      have := all_false (p := legOk) hc (by simpa using h1)
      simp [pathOk, this]
    · rename_i h1
      (conv => whnf)
      refine ⟨⟨i + 1, by omega, ?_⟩, Wk.of id [] ⟨?_, ?_, trivial⟩ (LeH.nil (Nat.le_refl _) (fun b h => by omega) (by simp)), by simp only; omega⟩
      · rw [all_take_succ hc, hz]; simpa using h1
      · exact .free (encLegs_free _ _)
      · exact .int_of (wrap64_succ hc hl)
  · rename_i hc
    have hc : i = l.length := by simp at hc; omega
    subst hc
    (conv => whnf)
    refine Ends.pure [] (.bool_of ?_) (by simp)
    rw [List.take_length] at hz
    simp [pathOk, hz, h0]
set_option maxRecDepth 100000 in
theorem index_ok (fr : Bool) (l : List UInt32) (x : UInt32) : PCon prog 131 [encW fr l, cW x] (.int .i64 (if l.all (· != x) then -1 else (l.findIdx (· == x) : Nat))) := by
  refine callV_of (fn := Go.Proofs.Tryz.f131) (body := _) tab_ok mixed rfl rfl (by decide) (by simp [Go.Proofs.Tryz.f131]) ?_
  (conv => whnf)
  intro hl
  have hl : l.length ≤ maxLen := by simpa [gd] using hl
  (conv => whnf)
  refine vcg_loop tab_ok mixed (fun i : {i : Nat // i ≤ l.length ∧ (l.take i).all (· != x) = true} => ⟨[(0, encW fr l), (1, cW x), (7, cI l.length), (8, cI i.1)], [], 0⟩) (fun i => l.length - i.1) ⟨0, by omega, rfl⟩ (Wk.of id [] ⟨?_, ?_, ?_, ?_, trivial⟩ (LeH.nil (Nat.le_refl _) (fun b h => by omega) (by simp))) (fun i => ?_)
  · exact .free (encW_free _ _)
  · exact .int_of rfl
  · exact .int_of (by simp)
  · exact .int_of rfl
  obtain ⟨i, hi, hz⟩ := i
  (conv => whnf)
  split
  · rename_i hc
    have hc : i < l.length := by simpa using hc
    (conv => whnf)
    refine ⟨rfl, _, ⟨by simp only; omega, idxW hc⟩, ?_⟩
    (conv => whnf)
    split
    · rename_i h1
      have h1 : l[i] = x := by simp at h1; exact UInt32.toNat_inj.1 (by omega)
      (conv => whnf)
      refine Ends.pure [] (.int_of ?_) (by simp)
      have := all_false (p := (· != x)) hc (by simp [h1])
      rw [if_neg (by rw [this]; simp)]
      congr 1
      symm
      rw [List.findIdx_eq hc]
      refine ⟨by simp [h1], fun j hj => ?_⟩
      rw [List.all_eq_true] at hz
      have := hz (l[j]'(by omega)) (by rw [List.mem_take_iff_getElem]; exact ⟨j, by omega, rfl⟩)
      simpa using this
    · rename_i h1
      (conv => whnf)
      refine ⟨⟨i + 1, by omega, ?_⟩, Wk.of id [] ⟨?_, ?_, ?_, ?_, trivial⟩ (LeH.nil (Nat.le_refl _) (fun b h => by omega) (by simp)), by simp only; omega⟩
      · rw [all_take_succ hc, hz]
        simp at h1
        simp only [Bool.true_and, bne_iff_ne, ne_eq]
        intro e
        rw [e] at h1
        simp at h1
      · exact .free (encW_free _ _)
      · exact .int_of rfl
      · exact .int_of rfl
      · exact .int_of (wrap64_succ hc hl)
  · rename_i hc
    have hc : i = l.length := by simp at hc; omega
    subst hc
    (conv => whnf)
    refine Ends.pure [] (.int_of ?_) (by simp)
    rw [List.take_length] at hz
    rw [if_pos hz]
set_option maxRecDepth 100000 in
theorem contains_ok (fr : Bool) (l : List UInt32) (x : UInt32) : PCon prog 96 [encW fr l, cW x] (.bool (!l.all (· != x))) := by
  refine callV_of (fn := Go.Proofs.Tryz.f96) (body := _) tab_ok mixed rfl rfl (by decide) (by simp [Go.Proofs.Tryz.f96]) ?_
  (conv => whnf)
  refine callV_pure (index_ok fr l x) ⟨.free (encW_free _ _), .free .int, trivial⟩ ?_
  (conv => whnf)
  refine Ends.pure [] (.bool_of ?_) (by simp)
  split
  · rename_i h; simp [h]
  · rename_i h; simp at h; simp [h]
set_option maxRecDepth 100000 in
theorem path1_ok (fr : Bool) (p : Leg) : PCon prog 95 [.agg (encLeg fr p)] (.bool (!legOk p)) := by
  refine callV_of (fn := Go.Proofs.Tryz.f95) (body := _) tab_ok mixed rfl rfl (by decide) (by simp [Go.Proofs.Tryz.f95]) ?_
  (conv => whnf)
  intro hl
  have hl : p.ns.length ≤ maxLen := by simpa [gd] using hl
  have fin : ∀ {s : St} {b : Bool}, legOk p = !b → ∃ v1 h' nx', Ends 0 s (.bool b) v1 h' nx' ∧ (v1 = .bool (!legOk p) ∧ h' = [] ∧ nx' = 0) := fun h => Ends.pure [] (.bool_of (by rw [h]; simp)) (by simp)
  (conv => whnf)
  split
  · rename_i h0
    (conv => whnf)
    exact fin (by simp at h0; simp [legOk]; omega)
  rename_i h0
  have h0 : 1 ≤ p.ns.length := by simp at h0; omega
  (conv => whnf)
  intro _
  (conv => whnf)
  split
  · rename_i h1
    (conv => whnf)
    exact fin (by simp at h1; simp [legOk]; omega)
  rename_i h1
  have h1 : p.ns.length ≤ 32 := by simp at h1; omega
  (conv => whnf)
  refine callV_pure (contains_ok fr p.ns 0) ⟨.free (encW_free _ _), .free .int, trivial⟩ ?_
  (conv => whnf)
  split
  · rename_i h2
    (conv => whnf)
    exact fin (by simp at h2; simp [legOk]; intros; assumption)
  rename_i h2
  (conv => whnf)
  split
  · rename_i h3
    (conv => whnf)
    refine callV_pure (rise_ok fr p.ns) ⟨.free (encW_free _ _), trivial⟩ ?_
    (conv => whnf)
    refine fin ?_
    simp at h2
    simp [legOk, h0, h1, h3]
    exact fun _ => h2
  · rename_i h3
    (conv => whnf)
    refine fin ?_
    simp at h2
    simp [legOk, h0, h1, h3]
    exact h2
end Go.Proofs.YtfaglgoanmcifaaGreat
namespace Go.Proofs.YtfaglgoanmcifaaGreat
open Go.RowKit
open Go.Proofs.Tryz (prog)
attribute [local irreducible] CallV RoundV
set_option maxRecDepth 100000 in
theorem indexFunc_ok (fr : Bool) (l : List Leg) : ∃ n : Int, PCon prog 132 [encLegs fr l, .fn (.func 95) [] []] (.int .i64 n) ∧ (0 ≤ n ↔ l.all legOk = false) := by
  refine ⟨if l.all legOk then -1 else (l.findIdx (!legOk ·) : Nat), ?_, by split <;> rename_i h <;> simp [h]⟩
  refine callV_of (fn := Go.Proofs.Tryz.f132) (body := _) tab_ok mixed rfl rfl (by decide) (by simp [Go.Proofs.Tryz.f132]) ?_
  (conv => whnf)
  intro hl
  have hl : l.length ≤ maxLen := by simpa [gd] using hl
  (conv => whnf)
  refine vcg_loop tab_ok mixed (fun i : {i : Nat // i ≤ l.length ∧ (l.take i).all legOk = true} => ⟨[(0, encLegs fr l), (1, .fn (.func 95) [] []), (7, cI l.length), (8, cI i.1)], [], 0⟩) (fun i => l.length - i.1) ⟨0, by omega, rfl⟩ (Wk.of id [] ⟨?_, ?_, ?_, ?_, trivial⟩ (LeH.nil (Nat.le_refl _) (fun b h => by omega) (by simp))) (fun i => ?_)
  · exact .free (encLegs_free _ _)
  · exact .free (.fn (by simp) (by simp))
  · exact .int_of (by simp)
  · exact .int_of rfl
  obtain ⟨i, hi, hz⟩ := i
  (conv => whnf)
  split
  · rename_i hc
    have hc : i < l.length := by simpa using hc
    (conv => whnf)
    refine ⟨rfl, _, ⟨by simp only; omega, idxL hc⟩, ?_⟩
    (conv => whnf)
    refine callV_pure (path1_ok fr l[i]) ⟨.free (.agg (encLeg_free _ _)), trivial⟩ ?_
    (conv => whnf)
    split
    · rename_i h1
      (conv => whnf)
      refine Ends.pure [] (.int_of ?_) (by simp)
      have h1 : legOk l[i] = false := by simpa using h1
      have := all_false (p := legOk) hc h1
      rw [if_neg (by rw [this]; simp)]
      congr 1
      symm
      rw [List.findIdx_eq hc]
      refine ⟨by simp [h1], fun j hj => ?_⟩
      rw [List.all_eq_true] at hz
      have := hz (l[j]'(by omega)) (by rw [List.mem_take_iff_getElem]; exact ⟨j, by omega, rfl⟩)
      simpa using this
    · rename_i h1
      (conv => whnf)
      refine ⟨⟨i + 1, by omega, ?_⟩, Wk.of id [] ⟨?_, ?_, ?_, ?_, trivial⟩ (LeH.nil (Nat.le_refl _) (fun b h => by omega) (by simp)), by simp only; omega⟩
      · rw [all_take_succ hc, hz]; simpa using h1
      · exact .free (encLegs_free _ _)
      · exact .free (.fn (by simp) (by simp))
      · exact .int_of rfl
      · exact .int_of (wrap64_succ hc hl)
  · rename_i hc
    have hc : i = l.length := by simp at hc; omega
    subst hc
    (conv => whnf)
    refine Ends.pure [] (.int_of ?_) (by simp)
    rw [List.take_length] at hz
    rw [if_pos hz]
set_option maxRecDepth 100000 in
theorem containsFunc_ok (fr : Bool) (l : List Leg) : PCon prog 97 [encLegs fr l, .fn (.func 95) [] []] (.bool (!l.all legOk)) := by
  obtain ⟨n, hn, hiff⟩ := indexFunc_ok fr l
  refine callV_of (fn := Go.Proofs.Tryz.f97) (body := _) tab_ok mixed rfl rfl (by decide) (by simp [Go.Proofs.Tryz.f97]) ?_
  (conv => whnf)
  refine callV_pure hn ⟨.free (encLegs_free _ _), .free (.fn (by simp) (by simp)), trivial⟩ ?_
  (conv => whnf)
  refine Ends.pure [] (.bool_of ?_) (by simp)
  cases hb : l.all legOk with
  | true => rw [hb] at hiff; simp at hiff; simp; omega
  | false => have := hiff.2 hb; simp; omega
set_option maxRecDepth 100000 in
theorem path_ok (fr : Bool) (l : List Leg) : PCon prog 62 [encLegs fr l] (.bool (pathOk l)) := by
  refine callV_of (fn := Go.Proofs.Tryz.f62) (body := _) tab_ok mixed rfl rfl (by decide) (by simp [Go.Proofs.Tryz.f62]) ?_
  (conv => whnf)
  intro hl
  (conv => whnf)
  split
  · rename_i h0
    (conv => whnf)
    refine callV_pure (containsFunc_ok fr l) ⟨.free (encLegs_free _ _), .free (.fn (by simp) (by simp)), trivial⟩ ?_
    (conv => whnf)
    refine Ends.pure [] (.bool_of ?_) (by simp)
    simp at h0
    simp [pathOk]
    omega
  · rename_i h0
    (conv => whnf)
    refine Ends.pure [] (.bool_of ?_) (by simp)
    simp at h0
    simp [pathOk]
    omega
def rightA (a : Attrs) : Bool := decide ((a.origin.toNat : Int) ≤ 2) && pathOk a.path && a.next != 0 && (a.hasMed || a.med == 0) && (a.hasPref || a.pref == 0) && decide ((a.tags.length : Int) ≤ 16) && rises a.tags
theorem u32_ne {x : UInt32} : ((x.toNat : Int) != 0) = (x != 0) := by
  cases h : x != 0 with
  | true => simp only [bne_iff_ne, ne_eq] at h ⊢; intro e; exact h (UInt32.toNat_inj.1 (by simp; omega))
  | false => simp only [bne_eq_false_iff_eq] at h ⊢; subst h; rfl
theorem u32_eq {x : UInt32} : ((x.toNat : Int) == 0) = (x == 0) := by
  have := congrArg (!·) (u32_ne (x := x))
  simpa [bne] using this
set_option maxRecDepth 100000 in
set_option maxHeartbeats 4000000 in
theorem right_ok (fr : Bool) (a : Attrs) : PCon prog 118 [encA fr a] (.bool (rightA a)) := by
  refine callV_of (fn := Go.Proofs.Tryz.f118) (body := _) tab_ok mixed rfl rfl (by decide) (by simp [Go.Proofs.Tryz.f118]) ?_
  have fin : ∀ {s : St} {b : Bool}, rightA a = b → ∃ v1 h' nx', Ends 0 s (.bool b) v1 h' nx' ∧ (v1 = .bool (rightA a) ∧ h' = [] ∧ nx' = 0) := fun h => Ends.pure [] (.bool_of h.symm) (by simp)
  (conv => whnf)
  split
  case' h_1 =>
    (conv => whnf)
    refine callV_pure (ref_path_ok fr a.path) ⟨.free (encLegs_free _ _), trivial⟩ ?_
    (conv => whnf)
  repeat' first
    | refine fin ?_
    | (split <;> (conv => whnf))
    | (intro _; (conv => whnf))
    | (refine callV_pure (ref_rise_ok fr a.tags) ⟨.free (encW_free _ _), trivial⟩ ?_; (conv => whnf))
  all_goals (clear fin; try simp only [u32_ne, u32_eq] at *)
  all_goals (try simp_all [rightA])
  all_goals (intros; exfalso; omega)
def checkA (a : Attrs) : Int := if rightA a then 0 else 2
theorem checkA_no {a : Attrs} (h : rightA a = false) : checkA a = 2 := by simp [checkA, h]
theorem checkA_yes {a : Attrs} (h : rightA a = true) : checkA a = 0 := by simp [checkA, h]
set_option maxRecDepth 100000 in
set_option maxHeartbeats 8000000 in
theorem check_ok (fr : Bool) (a : Attrs) : PCon prog 32 [encA fr a] (.int .i64 (checkA a)) := by
  refine callV_of (fn := Go.Proofs.Tryz.f32) (body := _) tab_ok mixed rfl rfl (by decide) (by simp [Go.Proofs.Tryz.f32]) ?_
  have fin0 : ∀ {s : St}, rightA a = true → ∃ v1 h' nx', Ends 0 s (.int .i64 0) v1 h' nx' ∧ (v1 = .int .i64 (checkA a) ∧ h' = [] ∧ nx' = 0) := fun h => Ends.pure [] (.int_of (checkA_yes h).symm) (by simp)
  have fin2 : ∀ {s : St}, rightA a = false → ∃ v1 h' nx', Ends 0 s (.int .i64 2) v1 h' nx' ∧ (v1 = .int .i64 (checkA a) ∧ h' = [] ∧ nx' = 0) := fun h => Ends.pure [] (.int_of (checkA_no h).symm) (by simp)
  (conv => whnf)
  repeat' first
    | refine fin0 ?_
    | refine fin2 ?_
    | (split <;> (conv => whnf))
    | (intro _; (conv => whnf))
    | (refine ⟨by kernel_rfl, ?_⟩; (conv => whnf))
    | (refine callV_pure (path_ok fr a.path) ⟨.free (encLegs_free _ _), trivial⟩ ?_; (conv => whnf))
    | (refine callV_pure (rise_ok fr a.tags) ⟨.free (encW_free _ _), trivial⟩ ?_; (conv => whnf))
  all_goals (clear fin0 fin2; try simp only [u32_ne, u32_eq] at *)
  all_goals (try simp_all [rightA])
  all_goals (try (intros; exfalso; omega))
end Go.Proofs.YtfaglgoanmcifaaGreat
namespace Go.Proofs.YtfaglgoanmcifaaGreat
open Go.RowKit
open Go.Proofs.Tryz (prog)
attribute [local irreducible] CallV RoundV
theorem u32_neq {x y : UInt32} : ((x.toNat : Int) != (y.toNat : Int)) = (x != y) := by
  cases h : x != y with
  | true => simp only [bne_iff_ne, ne_eq] at h ⊢; intro e; exact h (UInt32.toNat_inj.1 (by omega))
  | false => simp only [bne_eq_false_iff_eq] at h ⊢; subst h; rfl
theorem u8_neq {x y : UInt8} : ((x.toNat : Int) != (y.toNat : Int)) = (x != y) := by
  cases h : x != y with
  | true => simp only [bne_iff_ne, ne_eq] at h ⊢; intro e; exact h (UInt8.toNat_inj.1 (by omega))
  | false => simp only [bne_eq_false_iff_eq] at h ⊢; subst h; rfl
def sameA (a b : Attrs) : Bool := decide (a = b)
set_option maxRecDepth 100000 in
set_option maxHeartbeats 4000000 in
theorem ref_same_ok (fr fr' : Bool) (a b : Attrs) : PCon prog 16 [encA fr a, encA fr' b] (.bool (sameA a b)) := by
  refine callV_of (fn := Go.Proofs.Tryz.f16) (body := _) tab_ok mixed rfl rfl (by decide) (by simp [Go.Proofs.Tryz.f16]) ?_
  have fin : ∀ {s : St} {r : Bool}, sameA a b = r → ∃ v1 h' nx', Ends 0 s (.bool r) v1 h' nx' ∧ (v1 = .bool (sameA a b) ∧ h' = [] ∧ nx' = 0) := fun h => Ends.pure [] (.bool_of h.symm) (by simp)
  (conv => whnf)
  repeat' first
    | refine fin ?_
    | (split <;> (conv => whnf))
    | (refine fun (_ : gd none _) => ?_; (conv => whnf))
    | (refine callV_pure (words_ok fr fr' a.tags b.tags) ⟨.free (encW_free _ _), .free (encW_free _ _), trivial⟩ ?_; (conv => whnf))
  any_goals (simp only [sameA, decide_eq_false_iff_not]; rintro rfl; simp_all; done)
  have hlen : a.path.length = b.path.length := by
    have := ‹((((a.path.map (encLeg fr)).length : Nat) : Int) != (((b.path.map (encLeg fr')).length : Nat) : Int)) = false›
    simp at this
    omega
  have hall : a.origin = b.origin ∧ a.next = b.next ∧ a.hasMed = b.hasMed ∧ a.med = b.med ∧ a.hasPref = b.hasPref ∧ a.pref = b.pref ∧ a.tags = b.tags := by
    clear fin
    simp_all [u32_neq, u8_neq]
  have hl : a.path.length ≤ maxLen := by
    have := ‹gd none ((a.path.map (encLeg fr)).length ≤ maxLen)›
    simpa [gd] using this
  have cell : ∀ {fr0 : Bool} {x : Attrs}, FreeB (.var true 27 (cellsA fr0 x)) := fun {fr0 x} => cellsA_free fr0 x
  refine vcg_loop tab_ok mixed (fun i : {i : Nat // i ≤ a.path.length ∧ a.path.take i = b.path.take i} => ⟨[(2, .ptr 0 0), (3, .ptr 1 0), (5, cI i.1)], [(0, some (.var true 27 (cellsA fr a))), (1, some (.var true 27 (cellsA fr' b)))], 2⟩) (fun i => a.path.length - i.1) ⟨0, by omega, rfl⟩ (Wk.of id [] ⟨?_, ?_, ?_, trivial⟩ (LeH.same ⟨⟨rfl, cell, by omega⟩, ⟨rfl, cell, by omega⟩, trivial⟩ (by omega))) (fun i => ?_)
  · exact .ptr rfl (by omega)
  · exact .ptr rfl (by omega)
  · exact .int_of rfl
  obtain ⟨i, hi, hr⟩ := i
  (conv => whnf)
  refine fun (_ : gd none _) => ?_
  (conv => whnf)
  split
  · rename_i hc
    have hc : i < a.path.length := by simpa using hc
    have hc' : i < b.path.length := by omega
    have hdif : a.path[i] ≠ b.path[i] → sameA a b = false := by
      intro h
      simp only [sameA, decide_eq_false_iff_not]
      rintro rfl
      exact h rfl
    (conv => whnf)
    refine ⟨rfl, _, ⟨by simp only; omega, idxL hc⟩, ?_⟩
    (conv => whnf)
    refine ⟨rfl, _, ⟨by simp only; omega, idxL hc'⟩, ?_⟩
    (conv => whnf)
    split
    · rename_i h1
      (conv => whnf)
      refine ⟨by kernel_rfl, ?_⟩
      (conv => whnf)
      refine fin (hdif fun e => ?_)
      simp [e] at h1
    · rename_i h1
      (conv => whnf)
      refine ⟨rfl, _, ⟨by simp only; omega, idxL hc⟩, ?_⟩
      (conv => whnf)
      refine ⟨rfl, _, ⟨by simp only; omega, idxL hc'⟩, ?_⟩
      (conv => whnf)
      refine ⟨.bool (decide (a.path[i].ns = b.path[i].ns)), [], fun h nx _ => ?_, by simp, ?_⟩
      · refine pureV_pure (words_ok fr fr' a.path[i].ns b.path[i].ns) ?_
        exact ⟨.free (encW_free _ _), .free (encW_free _ _), trivial⟩
      (conv => whnf)
      refine ⟨by kernel_rfl, ?_⟩
      (conv => whnf)
      split
      · rename_i h2
        (conv => whnf)
        refine fin (hdif fun e => ?_)
        simp [e] at h2
      · rename_i h2
        (conv => whnf)
        refine ⟨⟨i + 1, by omega, ?_⟩, Wk.of id [] ⟨?_, ?_, ?_, trivial⟩ (LeH.same ⟨⟨rfl, cell, by omega⟩, ⟨rfl, cell, by omega⟩, trivial⟩ (by omega)), by simp only; omega⟩
        · rw [List.take_succ_eq_append_getElem hc, List.take_succ_eq_append_getElem hc', hr]
          have e1 : a.path[i].set = b.path[i].set := by simpa using h1
          have e2 : a.path[i].ns = b.path[i].ns := by simpa using h2
          have : a.path[i] = b.path[i] := by
            cases ha : a.path[i]; cases hb : b.path[i]
            simp_all
          rw [this]
        · exact .ptr rfl (by omega)
        · exact .ptr rfl (by omega)
        · exact .int_of (wrap64_succ hc hl)
  · rename_i hc
    have hc : i = a.path.length := by simp at hc; omega
    subst hc
    (conv => whnf)
    refine fin ?_
    rw [List.take_length, hlen, List.take_length] at hr
    obtain ⟨q1, q2, q3, q4, q5, q6, q7⟩ := hall
    simp only [sameA, decide_eq_true_eq]
    cases a; cases b
    simp_all
end Go.Proofs.YtfaglgoanmcifaaGreat
namespace Go.Proofs.YtfaglgoanmcifaaGreat
open Go.RowKit
open Go.Proofs.Tryz (prog)
attribute [local irreducible] CallV RoundV
def fewA (a : Attrs) : Bool := a.path.all (fun p => decide (p.ns.length ≤ 60)) && decide (a.path.length ≤ 20) && decide (a.tags.length ≤ 60)
def zeroA : List V := [.int .u8 0, .snil, .int .u32 0, .bool false, .int .u32 0, .bool false, .int .u32 0, .snil]
theorem zeroA_free : ∀ v ∈ zeroA, Free v := by
  intro v hv
  simp [zeroA] at hv
  rcases hv with rfl | rfl | rfl | rfl | rfl | rfl | rfl | rfl <;> first | exact .int | exact .bool | exact .snil
def rowsAt (fr : Bool) (l : List Leg) (i : Nat) : List (List V) := (l.take i).map (encLeg true) ++ (l.drop i).map (encLeg fr)
theorem rowsAt_free (fr : Bool) (l : List Leg) (i : Nat) : ∀ x ∈ rowsAt fr l i, ∀ v ∈ x, Free v := by
  intro x hx v hv
  rcases List.mem_append.1 hx with hx | hx
  · exact rowsLegs_free true _ x hx v hv
  · exact rowsLegs_free fr _ x hx v hv
theorem rowsAt_get {fr : Bool} {l : List Leg} {i : Nat} (h : i < l.length) : (rowsAt fr l i)[i]? = some (encLeg fr l[i]) := by
  unfold rowsAt
  rw [List.getElem?_append_right (by simp; omega)]
  simp [List.length_take, Nat.min_eq_left (Nat.le_of_lt h), h]
theorem rowsAt_succ {fr : Bool} {l : List Leg} {i : Nat} (h : i < l.length) : rowsAt fr l (i + 1) = (rowsAt fr l i).set i (encLeg true l[i]) := by
  unfold rowsAt
  rw [List.take_succ_eq_append_getElem h, List.drop_eq_getElem_cons h, List.map_append, List.set_append_right _ _ (by simp; omega)]
  have e : (List.map (encLeg true) (List.take i l)).length = i := by simp; omega
  rw [e, Nat.sub_self]
  simp only [List.map_cons, List.map_nil, List.set_cons_zero, List.append_assoc, List.cons_append, List.nil_append]
theorem rowsAt_all (fr : Bool) (l : List Leg) : rowsAt fr l l.length = l.map (encLeg true) := by simp [rowsAt]
theorem fewA_out {a : Attrs} (h : fewA a = true) : (∀ p ∈ a.path, p.ns.length ≤ 60) ∧ a.path.length ≤ 20 ∧ a.tags.length ≤ 60 := by
  simp only [fewA, Bool.and_eq_true, List.all_eq_true, decide_eq_true_eq] at h
  exact ⟨h.1.1, h.1.2, h.2⟩
end Go.Proofs.YtfaglgoanmcifaaGreat
namespace Go.Proofs.YtfaglgoanmcifaaGreat
open Go.RowKit
open Go.Proofs.Tryz (prog)
attribute [local irreducible] CallV RoundV
def fourB (x : UInt32) : List UInt8 := [(x >>> 24).toUInt8, (x >>> 16).toUInt8, (x >>> 8).toUInt8, x.toUInt8]
def highRows (x : UInt32) : Nat → List (List V)
  | 0 => [[.int .u8 0], [.int .u8 0], [.int .u8 0], [.int .u8 0]]
  | 1 => [[.int .u8 0], [.int .u8 0], [.int .u8 0], [cB x.toUInt8]]
  | 2 => [[.int .u8 0], [.int .u8 0], [cB (x >>> 8).toUInt8], [cB x.toUInt8]]
  | 3 => [[.int .u8 0], [cB (x >>> 16).toUInt8], [cB (x >>> 8).toUInt8], [cB x.toUInt8]]
  | _ => [[cB (x >>> 24).toUInt8], [cB (x >>> 16).toUInt8], [cB (x >>> 8).toUInt8], [cB x.toUInt8]]
def shr8 (x : UInt32) : Nat → Int
  | 0 => x.toNat
  | 1 => (x >>> 8).toNat
  | 2 => (x >>> 16).toNat
  | 3 => (x >>> 24).toNat
  | _ => ((0 : UInt32).toNat : Int)
theorem highRows_free (x : UInt32) (k : Nat) : ∀ r ∈ highRows x k, ∀ v ∈ r, Free v := by
  intro r hr v hv
  unfold highRows at hr
  split at hr <;> (simp at hr; rcases hr with rfl | rfl | rfl | rfl <;> (simp at hv; subst hv; exact .int))
theorem LeB.eq_of {h : Heap} {nx nx' : Nat} {ρ : Nat → Nat} {Z : List Nat} {b b' : Blk} (e : b = b') (hf : FreeB b') : LeB h nx ρ nx' Z b b' := by subst e; exact LeB.free hf
theorem sh_step {x y : UInt32} (h : y.toNat = x.toNat / 256) : IntKind.u32.wrap ((IntKind.u64.wrap (x.toNat : Int)).fdiv (2 ^ (min (Int.toNat 8) IntKind.u64.bits))) = (y.toNat : Int) := by
  have h1 : IntKind.u64.wrap (x.toNat : Int) = x.toNat := by
    rw [wrapu64]
    have := x.toNat_lt
    omega
  rw [h1, wrap32, h]
  have e : (2 : Int) ^ (min (Int.toNat 8) IntKind.u64.bits) = 256 := by decide
  rw [e, Int.fdiv_eq_ediv_of_nonneg _ (by decide)]
  have := x.toNat_lt
  omega
set_option maxRecDepth 100000 in
theorem high_ok (x : UInt32) : PCon prog 142 [cW x, .int .i64 4] (encB true (fourB x)) := by
  refine callV_of (fn := Go.Proofs.Tryz.f142) (body := _) tab_ok mixed rfl rfl (by decide) (by simp [Go.Proofs.Tryz.f142]) ?_
  (conv => whnf)
  refine ⟨⟨by omega, by omega, by simp [tab, tabOf, nth], by omega⟩, ?_⟩
  (conv => whnf)
  refine callV_of (fn := Go.Proofs.Tryz.f106) (body := _) tab_ok mixed rfl rfl (by decide) (by simp [Go.Proofs.Tryz.f106]) ?_
  (conv => whnf)
  refine ⟨_, _, _, Ends.here, ?_⟩
  (conv => whnf)
  refine callV_loop [(2, .ptr 0 0), (5, .ptr 2 0)] ⟨rfl, rfl, trivial⟩ fun asg' body' hasg hbody => ?_
  refine callV_of (fn := Go.Proofs.Tryz.f156) (body := _) tab_ok mixed rfl rfl (by decide) (by simp [Go.Proofs.Tryz.f156]) ?_
  (conv => whnf)
  intro _
  (conv => whnf)
  refine vcg_loop tab_ok mixed (fun k : {k : Nat // k ≤ 4} => ⟨[(0, .yld 4), (1, .ptr 3 0), (3, .int .i64 (3 - k.1))], [(4, some (.loop 23 [(2, .ptr 0 0), (5, .ptr 2 0)] [11, 12] asg' body' .ready none)), (0, some (.var true 24 [.int .u32 (shr8 x k.1)])), (1, some (.arr true true 5 1 (highRows x k.1))), (2, some (.var true 92 [.osl 1 1 0 4])), (3, some (.var true 92 [.osl 1 1 0 4]))], 5⟩) (fun k => 4 - k.1) ⟨0, by omega⟩ ?_ (fun k => ?_)
  · refine Wk.of id [] ⟨?_, ?_, ?_, trivial⟩ (LeH.of ⟨⟨by omega, .inl ⟨by simp, _, rfl, ?_⟩⟩, ⟨by omega, .inl ⟨by simp, _, rfl, ?_⟩⟩, ⟨by omega, .inl ⟨by simp, _, rfl, ?_⟩⟩, ⟨by omega, .inl ⟨by simp, _, rfl, ?_⟩⟩, ⟨by omega, .inl ⟨by simp, _, rfl, ?_⟩⟩, trivial⟩ (fun _ _ _ _ h => h) (fun _ _ => rfl) (by omega) (by simp))
    · exact .yld rfl (by omega)
    · exact .ptr rfl (by omega)
    · exact .int_of rfl
    · exact ⟨rfl, rfl, rfl, rfl, rfl, rfl, .ptr rfl (by omega), .ptr rfl (by omega), trivial⟩
    · exact ⟨id, rfl, .int_of rfl, trivial⟩
    · exact LeB.free (blk := .arr true true 5 1 (highRows x 0)) (highRows_free x 0)
    · exact ⟨id, rfl, .osl_of rfl (by omega) rfl, trivial⟩
    · exact ⟨id, rfl, .osl_of rfl (by omega) rfl, trivial⟩
  obtain ⟨k, hk⟩ := k
  rcases k with _ | _ | _ | _ | _ | k
  case succ.succ.succ.succ.succ => omega
  case succ.succ.succ.succ.zero =>
    (conv => whnf)
    refine ⟨_, _, _, Ends.here, ?_⟩
    (conv => whnf)
    refine Ends.pure [1] ?_ ?_
    · refine LeV.freeze_of (by simp) rfl (by simp [highRows]) (highRows_free x 4) ?_
      simp [highRows, fourB]
    · intro z hz
      obtain rfl := List.mem_singleton.1 hz
      exact ne_none_of rfl
  · (conv => whnf)
    refine ⟨rfl, ⟨by simp, by simp⟩, ?_⟩
    (conv => whnf)
    refine ⟨rfl, _, rfl, ?_⟩
    (conv => whnf)
    subst hasg hbody
    refine roundV_of tab_ok mixed rfl (by simp) (show 4 < 5 by omega) ?_
    (conv => whnf)
    refine ⟨rfl, ?_⟩
    (conv => whnf)
    refine ⟨rfl, ⟨by simp, by simp⟩, ?_⟩
    (conv => whnf)
    refine ⟨rfl, _, rfl, ?_⟩
    (conv => whnf)
    refine ⟨by decide, ?_⟩
    (conv => whnf)
    refine ⟨rfl, ?_⟩
    (conv => whnf)
    refine ⟨⟨1, by omega⟩, Wk.of id [] ⟨.yld rfl (by omega), .ptr rfl (by omega), .int_of ?_, trivial⟩ (LeH.of ⟨⟨by omega, .inl ⟨by simp, _, rfl, rfl, rfl, rfl, rfl, rfl, rfl, .ptr rfl (by omega), .ptr rfl (by omega), trivial⟩⟩, ⟨by omega, .inl ⟨by simp, _, rfl, id, rfl, .int_of ?_, trivial⟩⟩, ⟨by omega, .inl ⟨by simp, _, rfl, LeB.eq_of ?_ (highRows_free x 1)⟩⟩, ⟨by omega, .inl ⟨by simp, _, rfl, id, rfl, .osl_of rfl (by omega) rfl, trivial⟩⟩, ⟨by omega, .inl ⟨by simp, _, rfl, id, rfl, .osl_of rfl (by omega) rfl, trivial⟩⟩, trivial⟩ (fun _ _ _ _ h => h) (fun _ _ => rfl) (by omega) (by simp)), ?_⟩
    · simp [wrap64']
    · refine sh_step ?_
      have := x.toNat_lt
      simp [UInt32.toNat_shiftRight, Nat.shiftRight_eq_div_pow, Nat.div_div_eq_div_mul] <;> omega
    · simp [highRows, shr8, cB, wrap8]
    · simp
  · (conv => whnf)
    refine ⟨rfl, ⟨by simp, by simp⟩, ?_⟩
    (conv => whnf)
    refine ⟨rfl, _, rfl, ?_⟩
    (conv => whnf)
    subst hasg hbody
    refine roundV_of tab_ok mixed rfl (by simp) (show 4 < 5 by omega) ?_
    (conv => whnf)
    refine ⟨rfl, ?_⟩
    (conv => whnf)
    refine ⟨rfl, ⟨by simp, by simp⟩, ?_⟩
    (conv => whnf)
    refine ⟨rfl, _, rfl, ?_⟩
    (conv => whnf)
    refine ⟨by decide, ?_⟩
    (conv => whnf)
    refine ⟨rfl, ?_⟩
    (conv => whnf)
    refine ⟨⟨2, by omega⟩, Wk.of id [] ⟨.yld rfl (by omega), .ptr rfl (by omega), .int_of ?_, trivial⟩ (LeH.of ⟨⟨by omega, .inl ⟨by simp, _, rfl, rfl, rfl, rfl, rfl, rfl, rfl, .ptr rfl (by omega), .ptr rfl (by omega), trivial⟩⟩, ⟨by omega, .inl ⟨by simp, _, rfl, id, rfl, .int_of ?_, trivial⟩⟩, ⟨by omega, .inl ⟨by simp, _, rfl, LeB.eq_of ?_ (highRows_free x 2)⟩⟩, ⟨by omega, .inl ⟨by simp, _, rfl, id, rfl, .osl_of rfl (by omega) rfl, trivial⟩⟩, ⟨by omega, .inl ⟨by simp, _, rfl, id, rfl, .osl_of rfl (by omega) rfl, trivial⟩⟩, trivial⟩ (fun _ _ _ _ h => h) (fun _ _ => rfl) (by omega) (by simp)), ?_⟩
    · simp [wrap64']
    · refine sh_step ?_
      have := x.toNat_lt
      simp [UInt32.toNat_shiftRight, Nat.shiftRight_eq_div_pow, Nat.div_div_eq_div_mul] <;> omega
    · simp [highRows, shr8, cB, wrap8]
    · simp
  · (conv => whnf)
    refine ⟨rfl, ⟨by simp, by simp⟩, ?_⟩
    (conv => whnf)
    refine ⟨rfl, _, rfl, ?_⟩
    (conv => whnf)
    subst hasg hbody
    refine roundV_of tab_ok mixed rfl (by simp) (show 4 < 5 by omega) ?_
    (conv => whnf)
    refine ⟨rfl, ?_⟩
    (conv => whnf)
    refine ⟨rfl, ⟨by simp, by simp⟩, ?_⟩
    (conv => whnf)
    refine ⟨rfl, _, rfl, ?_⟩
    (conv => whnf)
    refine ⟨by decide, ?_⟩
    (conv => whnf)
    refine ⟨rfl, ?_⟩
    (conv => whnf)
    refine ⟨⟨3, by omega⟩, Wk.of id [] ⟨.yld rfl (by omega), .ptr rfl (by omega), .int_of ?_, trivial⟩ (LeH.of ⟨⟨by omega, .inl ⟨by simp, _, rfl, rfl, rfl, rfl, rfl, rfl, rfl, .ptr rfl (by omega), .ptr rfl (by omega), trivial⟩⟩, ⟨by omega, .inl ⟨by simp, _, rfl, id, rfl, .int_of ?_, trivial⟩⟩, ⟨by omega, .inl ⟨by simp, _, rfl, LeB.eq_of ?_ (highRows_free x 3)⟩⟩, ⟨by omega, .inl ⟨by simp, _, rfl, id, rfl, .osl_of rfl (by omega) rfl, trivial⟩⟩, ⟨by omega, .inl ⟨by simp, _, rfl, id, rfl, .osl_of rfl (by omega) rfl, trivial⟩⟩, trivial⟩ (fun _ _ _ _ h => h) (fun _ _ => rfl) (by omega) (by simp)), ?_⟩
    · simp [wrap64']
    · refine sh_step ?_
      have := x.toNat_lt
      simp [UInt32.toNat_shiftRight, Nat.shiftRight_eq_div_pow, Nat.div_div_eq_div_mul] <;> omega
    · simp [highRows, shr8, cB, wrap8]
    · simp
  · (conv => whnf)
    refine ⟨rfl, ⟨by simp, by simp⟩, ?_⟩
    (conv => whnf)
    refine ⟨rfl, _, rfl, ?_⟩
    (conv => whnf)
    subst hasg hbody
    refine roundV_of tab_ok mixed rfl (by simp) (show 4 < 5 by omega) ?_
    (conv => whnf)
    refine ⟨rfl, ?_⟩
    (conv => whnf)
    refine ⟨rfl, ⟨by simp, by simp⟩, ?_⟩
    (conv => whnf)
    refine ⟨rfl, _, rfl, ?_⟩
    (conv => whnf)
    refine ⟨by decide, ?_⟩
    (conv => whnf)
    refine ⟨rfl, ?_⟩
    (conv => whnf)
    refine ⟨⟨4, by omega⟩, Wk.of id [] ⟨.yld rfl (by omega), .ptr rfl (by omega), .int_of ?_, trivial⟩ (LeH.of ⟨⟨by omega, .inl ⟨by simp, _, rfl, rfl, rfl, rfl, rfl, rfl, rfl, .ptr rfl (by omega), .ptr rfl (by omega), trivial⟩⟩, ⟨by omega, .inl ⟨by simp, _, rfl, id, rfl, .int_of ?_, trivial⟩⟩, ⟨by omega, .inl ⟨by simp, _, rfl, LeB.eq_of ?_ (highRows_free x 4)⟩⟩, ⟨by omega, .inl ⟨by simp, _, rfl, id, rfl, .osl_of rfl (by omega) rfl, trivial⟩⟩, ⟨by omega, .inl ⟨by simp, _, rfl, id, rfl, .osl_of rfl (by omega) rfl, trivial⟩⟩, trivial⟩ (fun _ _ _ _ h => h) (fun _ _ => rfl) (by omega) (by simp)), ?_⟩
    · simp [wrap64']
    · refine sh_step ?_
      have := x.toNat_lt
      simp [UInt32.toNat_shiftRight, Nat.shiftRight_eq_div_pow, Nat.div_div_eq_div_mul] <;> omega
    · simp [highRows, shr8, cB, wrap8]
    · simp
end Go.Proofs.YtfaglgoanmcifaaGreat
namespace Go.Proofs.YtfaglgoanmcifaaGreat
open Go.RowKit
open Go.Proofs.Tryz (prog)
attribute [local irreducible] CallV RoundV
abbrev rowsB (b : List UInt8) : List (List V) := b.map fun x => [V.int .u8 x.toNat]
theorem LeV.freezeB {h : Heap} {nx nx' : Nat} {ρ : Nat → Nat} {Z : List Nat} {b n : Nat} {fr ex : Bool} {ty : TypeId} {rows : List (List V)} {bs : List UInt8} (hz : b ∈ Z) (hb : hget h b = some (.arr fr ex ty 1 rows)) (e : rows = rowsB bs) (hn : n = bs.length) :
    LeV h nx ρ nx' Z (.osl b 1 0 n) (encB fr bs) := by
  subst e
  exact LeV.freeze_of hz hb (by simp [hn]) (rowsB_free _) (by simp only [List.drop_zero]; exact List.take_of_length_le (by simp [hn]))
theorem one_none {h : Heap} {b : Nat} {x : Blk} (hb : hget h b = some x) : ∀ z ∈ [b], hget h z ≠ none := fun z hz => by
  obtain rfl := List.mem_singleton.1 hz
  exact ne_none_of hb
theorem u8_nat (n : Nat) : IntKind.u8.wrap (n : Int) = (UInt8.ofNat n).toNat := by
  rw [wrap8]; simp
def allB (l : List UInt32) : List UInt8 := l.flatMap fourB
theorem allB_len (l : List UInt32) : (allB l).length = 4 * l.length := by
  induction l with
  | nil => rfl
  | cons x l ih =>
    have e : allB (x :: l) = fourB x ++ allB l := by unfold allB; rw [List.flatMap_cons]
    have e4 : (fourB x).length = 4 := rfl
    rw [e, List.length_append, e4, ih, List.length_cons]
    omega
theorem allB_succ {l : List UInt32} {i : Nat} (h : i < l.length) : allB (l.take (i + 1)) = allB (l.take i) ++ fourB l[i] := by
  unfold allB
  rw [List.take_succ_eq_append_getElem h, List.flatMap_append, List.flatMap_cons, List.flatMap_nil, List.append_nil]
set_option maxRecDepth 100000 in
theorem all_ok (fr : Bool) (l : List UInt32) (hb : l.length ≤ 1000) : PCon prog 153 [encW fr l] (encB true (allB l)) := by
  refine callV_of (fn := Go.Proofs.Tryz.f153) (body := _) tab_ok mixed rfl rfl (by decide) (by simp [Go.Proofs.Tryz.f153]) ?_
  (conv => whnf)
  intro _
  (conv => whnf)
  refine vcg_loop tab_ok mixed (fun i : {i : Nat // i ≤ l.length} => ⟨[(2, .osl 0 1 0 (4 * i.1)), (5, encW fr l), (6, cI l.length), (7, cI i.1)], [(0, some (.arr true false 5 1 (rowsB (allB (l.take i.1)))))], 1⟩) (fun i => l.length - i.1) ⟨0, by omega⟩ ?_ (fun i => ?_)
  · refine Wk.of id [] ⟨?_, ?_, ?_, ?_, trivial⟩ (LeH.of ⟨⟨by omega, .inr ⟨by simp, _, _, _, _, rfl⟩⟩, trivial⟩ (fun _ _ _ _ h => h) (fun _ _ => rfl) (by omega) (by simp))
    · exact .osl0
    · exact .free (encW_free _ _)
    · exact .int_of (by simp)
    · exact .int_of rfl
  obtain ⟨i, hi⟩ := i
  (conv => whnf)
  split
  · rename_i hc
    have hc : i < l.length := by simpa using hc
    (conv => whnf)
    refine ⟨rfl, _, ⟨by simp only; omega, idxW hc⟩, ?_⟩
    (conv => whnf)
    refine callV_pure (high_ok l[i]) ⟨.free .int, .free .int, trivial⟩ ?_
    (conv => whnf)
    have hlen := allB_len (l.take i)
    rw [List.length_take, Nat.min_eq_left hi] at hlen
    refine ⟨⟨rfl, rfl, rfl, rfl, by decide⟩, by simp [rowsB, hlen], ⟨by simp [tab, tabOf, nth, fourB]; omega, by simp [fourB]; omega⟩, ?_⟩
    (conv => whnf)
    refine ⟨⟨i + 1, by omega⟩, Wk.of (renOf [(0, 1)]) [] ⟨?_, ?_, ?_, ?_, trivial⟩ (LeH.of ⟨⟨by omega, .inl ⟨by simp, _, rfl, LeB.eq_of ?_ ?_⟩⟩, trivial⟩ (by simp) (fun b hb => by omega) (by omega) (by simp)), by simp only; omega⟩
    · exact .osl_of rfl (by omega) (by simp [fourB]; omega)
    · exact .free (encW_free _ _)
    · exact .int_of rfl
    · exact .int_of (wrap64_succ hc (show l.length ≤ maxLen by unfold maxLen; omega))
    · simp only
      rw [allB_succ hc, List.take_of_length_le (by simp [rowsB, hlen])]
      simp [rowsB]
    · exact rowsB_free _
  · rename_i hc
    have hc : i = l.length := by simp at hc; omega
    subst hc
    (conv => whnf)
    refine Ends.pure [0] ?_ ?_
    · refine LeV.freeze_of (by simp) rfl ?_ (rowsB_free _) ?_
      · simp [rowsB, allB_len]
      · simp only [List.take_length, List.drop_zero]
        exact List.take_of_length_le (by simp [rowsB, allB_len])
    · intro z hz
      obtain rfl := List.mem_singleton.1 hz
      exact ne_none_of rfl
end Go.Proofs.YtfaglgoanmcifaaGreat
namespace Go.Proofs.YtfaglgoanmcifaaGreat
open Go.RowKit
open Go.Proofs.Tryz (prog)
attribute [local irreducible] CallV RoundV
def attrB (f c : UInt8) (v : List UInt8) : List UInt8 :=
  if 255 < v.length then [f + 16, c, UInt8.ofNat (v.length / 256), UInt8.ofNat (v.length % 256)] ++ v else [f, c, UInt8.ofNat v.length] ++ v
end Go.Proofs.YtfaglgoanmcifaaGreat
namespace Go.Proofs.YtfaglgoanmcifaaGreat
open Go.RowKit
open Go.Proofs.Tryz (prog)
attribute [local irreducible] CallV RoundV
def kindB (p : Leg) : UInt8 := if p.set then 1 else 2
def legB (p : Leg) : List UInt8 := [kindB p, UInt8.ofNat p.ns.length] ++ allB p.ns
def pathB (l : List Leg) : List UInt8 := l.flatMap legB
theorem pathB_succ {l : List Leg} {i : Nat} (h : i < l.length) : pathB (l.take (i + 1)) = pathB (l.take i) ++ legB l[i] := by
  unfold pathB
  rw [List.take_succ_eq_append_getElem h, List.flatMap_append, List.flatMap_cons, List.flatMap_nil, List.append_nil]
theorem legB_len (p : Leg) : (legB p).length = 2 + 4 * p.ns.length := by simp [legB, allB_len]; omega
theorem pathB_len {l : List Leg} (h : ∀ p ∈ l, p.ns.length ≤ 60) : (pathB l).length ≤ 242 * l.length := by
  induction l with
  | nil => simp [pathB]
  | cons p l ih =>
    have e : pathB (p :: l) = legB p ++ pathB l := by unfold pathB; rw [List.flatMap_cons]
    have := ih (fun q hq => h q (by simp [hq]))
    have := h p (by simp)
    rw [e, List.length_append, legB_len, List.length_cons]
    omega
def rawO (a : Attrs) : List UInt8 := attrB 64 1 [a.origin] ++ attrB 64 2 (pathB a.path) ++ attrB 64 3 (fourB a.next) ++ (if a.hasMed then attrB 128 4 (fourB a.med) else []) ++ (if a.hasPref then attrB 64 5 (fourB a.pref) else [])
def rawA (a : Attrs) : List UInt8 := rawO a ++ (if 0 < a.tags.length then attrB 192 8 (allB a.tags) else [])
end Go.Proofs.YtfaglgoanmcifaaGreat
namespace Go.Proofs.YtfaglgoanmcifaaGreat
open Go.RowKit
open Go.Proofs.Tryz (prog)
attribute [local irreducible] CallV RoundV
set_option maxRecDepth 100000 in
set_option maxHeartbeats 2000000 in
theorem route_ok (fr : Bool) (a : Attrs) (hf : fewA a = true) : PCon prog 139 [encA fr a] (encB true (pathB a.path)) := by
  obtain ⟨hp, hpl, htl⟩ := fewA_out hf
  have cell : ∀ {fr0 : Bool} {x : Attrs}, FreeB (.var true 27 (cellsA fr0 x)) := fun {fr0 x} => cellsA_free fr0 x
  refine callV_of (fn := Go.Proofs.Tryz.f139) (body := _) tab_ok mixed rfl rfl (by decide) (by simp [Go.Proofs.Tryz.f139]) ?_
  (conv => whnf)
  intro hl
  have hl : a.path.length ≤ maxLen := by simpa [gd] using hl
  (conv => whnf)
  refine vcg_loop tab_ok mixed (fun i : {i : Nat // i ≤ a.path.length} => ⟨[(2, .osl 1 1 0 (pathB (a.path.take i.1)).length), (7, encLegs fr a.path), (8, cI a.path.length), (9, cI i.1)], [(1, some (.arr true false 5 1 (rowsB (pathB (a.path.take i.1)))))], 2⟩) (fun i => a.path.length - i.1) ⟨0, by omega⟩ ?_ (fun i => ?_)
  · refine Wk.of id [] ⟨?_, ?_, ?_, ?_, trivial⟩ (LeH.of ⟨⟨by omega, .inr ⟨by simp, _, _, _, _, rfl⟩⟩, trivial⟩ (fun _ _ _ _ h => h) (fun _ _ => rfl) (by omega) (by simp))
    · exact .osl0
    · exact .free (encLegs_free _ _)
    · exact .int_of (by simp)
    · exact .int_of rfl
  obtain ⟨i, hi⟩ := i
  (conv => whnf)
  split
  · rename_i hc
    have hc : i < a.path.length := by simpa using hc
    have hpi := hp a.path[i] (List.getElem_mem hc)
    have hpb : (pathB (a.path.take i)).length ≤ 242 * i := by
      have := pathB_len (l := a.path.take i) (fun p hp' => hp p (List.mem_of_mem_take hp'))
      rw [List.length_take, Nat.min_eq_left hi] at this
      exact this
    (conv => whnf)
    refine ⟨rfl, _, ⟨by first | omega | (simp only; omega), idxL hc⟩, ?_⟩
    (conv => whnf)
    split
    case' h_1 => rename_i hk; have hkind : kindB a.path[i] = 1 := by simp [kindB, hk]
    case' h_2 => rename_i hk; have hkind : kindB a.path[i] = 2 := by simp [kindB, hk]
    all_goals
      (conv => whnf)
      refine ⟨rfl, by simp, ⟨rfl, rfl, rfl, rfl, by decide⟩, by simp, ⟨by simp [tab, tabOf, nth]; omega, by simp; omega⟩, ?_⟩
      (conv => whnf)
      refine ⟨encB true (allB a.path[i].ns), [], fun h nx _ => ?_, by simp, ?_⟩
      · refine pureV_pure (all_ok fr a.path[i].ns (by omega)) ?_
        exact ⟨.free (encW_free _ _), trivial⟩
      (conv => whnf)
      refine ⟨⟨rfl, rfl, rfl, rfl, by decide⟩, by simp, ⟨by simp [tab, tabOf, nth, allB_len]; omega, by simp [allB_len]; omega⟩, ?_⟩
      (conv => whnf)
      refine ⟨by kernel_rfl, ?_⟩
      (conv => whnf)
      refine ⟨⟨i + 1, by omega⟩, Wk.of (renOf [(1, 5)]) [] ⟨?_, ?_, ?_, ?_, trivial⟩ (LeH.of ⟨⟨by omega, .inl ⟨by simp, _, rfl, LeB.eq_of ?_ (rowsB_free _)⟩⟩, trivial⟩ (show ∀ b ∈ [1], ∀ b' ∈ [1], renOf [(1, 5)] b = renOf [(1, 5)] b' → b = b' by decide) (fun b hb => by omega) (by omega) (by simp)), by simp only; omega⟩
      · exact .osl_of rfl (by omega) (by simp only; rw [pathB_succ hc, List.length_append, legB_len]; simp [allB_len]; omega)
      · exact .free (encLegs_free _ _)
      · exact .int_of rfl
      · exact .int_of (wrap64_succ hc hl)
      · simp only [List.length_map, u8_nat]
        rw [pathB_succ hc]
        simp [rowsB, legB, hkind, List.take_of_length_le]
  · rename_i hc
    have hc : i = a.path.length := by simp at hc; omega
    subst hc
    (conv => whnf)
    refine Ends.pure [1] (.freezeB (bs := pathB a.path) (by simp) rfl (by simp) (by simp)) (one_none rfl)
set_option maxRecDepth 100000 in
theorem always_ok (fr : Bool) (a : Attrs) : PCon prog 136 [encA fr a] (.bool true) := by
  refine callV_of (fn := Go.Proofs.Tryz.f136) (body := _) tab_ok mixed rfl rfl (by decide) (by simp [Go.Proofs.Tryz.f136]) ?_
  (conv => whnf)
  exact Ends.pure [] (.bool_of rfl) (by simp)
set_option maxRecDepth 100000 in
theorem hasMed_ok (fr : Bool) (a : Attrs) : PCon prog 145 [encA fr a] (.bool a.hasMed) := by
  refine callV_of (fn := Go.Proofs.Tryz.f145) (body := _) tab_ok mixed rfl rfl (by decide) (by simp [Go.Proofs.Tryz.f145]) ?_
  (conv => whnf)
  exact Ends.pure [] (.bool_of rfl) (by simp)
set_option maxRecDepth 100000 in
theorem hasPref_ok (fr : Bool) (a : Attrs) : PCon prog 148 [encA fr a] (.bool a.hasPref) := by
  refine callV_of (fn := Go.Proofs.Tryz.f148) (body := _) tab_ok mixed rfl rfl (by decide) (by simp [Go.Proofs.Tryz.f148]) ?_
  (conv => whnf)
  exact Ends.pure [] (.bool_of rfl) (by simp)
set_option maxRecDepth 100000 in
theorem hasTags_ok (fr : Bool) (a : Attrs) : PCon prog 151 [encA fr a] (.bool (decide (0 < a.tags.length))) := by
  refine callV_of (fn := Go.Proofs.Tryz.f151) (body := _) tab_ok mixed rfl rfl (by decide) (by simp [Go.Proofs.Tryz.f151]) ?_
  (conv => whnf)
  intro _
  (conv => whnf)
  exact Ends.pure [] (.bool_of (by simp)) (by simp)
set_option maxRecDepth 100000 in
theorem vOrigin_ok (fr : Bool) (a : Attrs) : PCon prog 137 [encA fr a] (encB true [a.origin]) := by
  refine callV_of (fn := Go.Proofs.Tryz.f137) (body := _) tab_ok mixed rfl rfl (by decide) (by simp [Go.Proofs.Tryz.f137]) ?_
  (conv => whnf)
  exact Ends.pure [1] (.freezeB (bs := [a.origin]) (by simp) rfl rfl rfl) (one_none rfl)
set_option maxRecDepth 100000 in
theorem vNext_ok (fr : Bool) (a : Attrs) : PCon prog 141 [encA fr a] (encB true (fourB a.next)) := by
  refine callV_of (fn := Go.Proofs.Tryz.f141) (body := _) tab_ok mixed rfl rfl (by decide) (by simp [Go.Proofs.Tryz.f141]) ?_
  (conv => whnf)
  refine callV_pure (high_ok _) ⟨.free .int, .free .int, trivial⟩ ?_
  (conv => whnf)
  exact Ends.pure [] (.free (encB_free _ _)) (by simp)
set_option maxRecDepth 100000 in
theorem vMed_ok (fr : Bool) (a : Attrs) : PCon prog 146 [encA fr a] (encB true (fourB a.med)) := by
  refine callV_of (fn := Go.Proofs.Tryz.f146) (body := _) tab_ok mixed rfl rfl (by decide) (by simp [Go.Proofs.Tryz.f146]) ?_
  (conv => whnf)
  refine callV_pure (high_ok _) ⟨.free .int, .free .int, trivial⟩ ?_
  (conv => whnf)
  exact Ends.pure [] (.free (encB_free _ _)) (by simp)
set_option maxRecDepth 100000 in
theorem vPref_ok (fr : Bool) (a : Attrs) : PCon prog 149 [encA fr a] (encB true (fourB a.pref)) := by
  refine callV_of (fn := Go.Proofs.Tryz.f149) (body := _) tab_ok mixed rfl rfl (by decide) (by simp [Go.Proofs.Tryz.f149]) ?_
  (conv => whnf)
  refine callV_pure (high_ok _) ⟨.free .int, .free .int, trivial⟩ ?_
  (conv => whnf)
  exact Ends.pure [] (.free (encB_free _ _)) (by simp)
set_option maxRecDepth 100000 in
theorem vTags_ok (fr : Bool) (a : Attrs) (hf : fewA a = true) : PCon prog 152 [encA fr a] (encB true (allB a.tags)) := by
  obtain ⟨_, _, htl⟩ := fewA_out hf
  refine callV_of (fn := Go.Proofs.Tryz.f152) (body := _) tab_ok mixed rfl rfl (by decide) (by simp [Go.Proofs.Tryz.f152]) ?_
  (conv => whnf)
  refine callV_pure (all_ok _ _ (by omega)) ⟨.free (encW_free _ _), trivial⟩ ?_
  (conv => whnf)
  exact Ends.pure [] (.free (encB_free _ _)) (by simp)
end Go.Proofs.YtfaglgoanmcifaaGreat
namespace Go.Proofs.YtfaglgoanmcifaaGreat
open Go.RowKit
open Go.Proofs.Tryz (prog)
attribute [local irreducible] CallV RoundV
theorem LeV.fnL {h : Heap} {nx nx' : Nat} {ρ : Nat → Nat} {Z : List Nat} {f : Fn} {fs fs' cs cs' : List V} (h1 : LeL h nx ρ nx' Z fs fs') (h2 : LeL h nx ρ nx' Z cs cs') : LeV h nx ρ nx' Z (.fn f fs cs) (.fn f fs' cs') := fun G w u hr hv => by
  cases hv with
  | fn _ _ _ us ws q1 q2 q3 q4 =>
    have v1 := h1.vrs hr (us := us) ⟨q1, q3⟩
    have v2 := h2.vrs hr (us := ws) ⟨q2, q4⟩
    exact .fn _ _ _ us ws v1.1 v2.1 v1.2 v2.2
theorem LeV.freezePL {h : Heap} {nx nx' : Nat} {ρ : Nat → Nat} {Z : List Nat} {b : Nat} {fr : Bool} {ty : TypeId} {cells cells' : List V} (hz : b ∈ Z) (hb : hget h b = some (.var fr ty cells)) (hl : LeL h nx ρ nx' Z cells cells') :
    LeV h nx ρ nx' Z (.ptr b 0) (.iptr fr cells') := fun G w u hr hv => by
  have hown : Holds G w b fr true ty cells := hr.own b _ hb
  obtain ⟨c', cs, e1, hh, hle, hex, hfr, hcell, _⟩ := hown
  obtain ⟨l1, l2⟩ := hl.out
  cases hv with
  | ptr _ _ c hc =>
    rw [hc] at e1
    obtain rfl : c = c' := Option.some.inj e1
    have at' : ∀ (j : Nat) (v' : V), cells'[j]? = some v' → ∃ v u, cells[j]? = some v ∧ cs[j]? = some u ∧ u.oneCell' = true ∧ vr G w v u := by
      intro j v' hj
      have hlt : j < cells.length := by rw [l1]; exact (List.getElem?_eq_some_iff.1 hj).1
      obtain ⟨u, hu, h1, hv⟩ := hcell j _ (List.getElem?_eq_getElem hlt)
      exact ⟨_, u, List.getElem?_eq_getElem hlt, hu, h1, hv⟩
    refine .iptr fr cells' ⟨c, 0, none⟩ (fun j => cs[j]?.getD undef) rfl (fun j v' hj => ?_) (fun j v' hj => ?_)
    · obtain ⟨v, u, _, hu, h1, _⟩ := at' j v' hj
      exact ⟨by simp [rd, World.cell?, hh, hu], .inr ⟨b, hz, hc⟩, fun hf => ⟨hfr hf, by simp [World.frozen?, hh]⟩, by simp [hu, h1]⟩
    · obtain ⟨v, u, hv, hu, h1, hvr⟩ := at' j v' hj
      simp only [hu, Option.getD_some]
      exact l2 j v v' hv hj G w u hr hvr
abbrev fnV (n : Nat) : V := .fn (.func n) [] []
def fourV (n : Nat) : V := .fn (.func 181) [] [.iptr true [fnV n]]
set_option maxRecDepth 100000 in
theorem four_ok (n : Nat) : PCon prog 143 [fnV n] (fourV n) := by
  refine callV_of (fn := Go.Proofs.Tryz.f143) (body := _) tab_ok mixed rfl rfl (by decide) (by simp [Go.Proofs.Tryz.f143]) ?_
  (conv => whnf)
  refine Ends.pure [0] (.fnL trivial ⟨.freezePL (by simp) rfl ⟨.free (.fn (by simp) (by simp)), trivial⟩, trivial⟩) (one_none rfl)
theorem fourV_free (n : Nat) : Free (fourV n) := .fn (by simp) (by
  intro v hv
  simp at hv; subst hv
  refine .iptr ?_
  intro v hv
  simp at hv; subst hv
  exact .fn (by simp) (by simp))
def attrRows : List (List V) := [
  [.int .u8 1, .int .u8 64, fnV 136, fnV 137, fnV 138],
  [.int .u8 2, .int .u8 64, fnV 136, fnV 139, fnV 140],
  [.int .u8 3, .int .u8 64, fnV 136, fnV 141, fourV 144],
  [.int .u8 4, .int .u8 128, fnV 145, fnV 146, fourV 147],
  [.int .u8 5, .int .u8 64, fnV 148, fnV 149, fourV 150],
  [.int .u8 8, .int .u8 192, fnV 151, fnV 152, fnV 154]]
theorem fnV_free (n : Nat) : Free (fnV n) := .fn (by simp) (by simp)
theorem attrRows_free : ∀ x ∈ attrRows, ∀ v ∈ x, Free v := by
  intro x hx v hv
  simp only [attrRows, List.mem_cons, List.not_mem_nil, or_false] at hx
  rcases hx with rfl | rfl | rfl | rfl | rfl | rfl <;>
    (simp only [List.mem_cons, List.not_mem_nil, or_false] at hv; rcases hv with rfl | rfl | rfl | rfl | rfl <;> first | exact .int | exact fnV_free _ | exact fourV_free _)
def attributesV : V := .fn (.func 180) [] [.iptr true [.sl true 5 attrRows]]
set_option maxRecDepth 100000 in
theorem attributes_ok : PCon prog 103 [] attributesV := by
  refine callV_of (fn := Go.Proofs.Tryz.f103) (body := _) tab_ok mixed rfl rfl (by decide) (by simp [Go.Proofs.Tryz.f103]) ?_
  (conv => whnf)
  refine callV_pure (four_ok _) ⟨.free (fnV_free _), trivial⟩ ?_
  (conv => whnf)
  refine callV_pure (four_ok _) ⟨.free (fnV_free _), trivial⟩ ?_
  (conv => whnf)
  refine callV_pure (four_ok _) ⟨.free (fnV_free _), trivial⟩ ?_
  (conv => whnf)
  refine callV_of (fn := Go.Proofs.Tryz.f135) (body := _) tab_ok mixed rfl rfl (by decide) (by simp [Go.Proofs.Tryz.f135]) ?_
  (conv => whnf)
  refine ⟨_, _, _, Ends.here, ?_⟩
  (conv => whnf)
  refine Ends.pure [0, 1] (.fnL trivial ⟨.freezePL (by simp) rfl ⟨LeV.freeze_of (by simp) rfl (by simp) attrRows_free rfl, trivial⟩, trivial⟩) ?_
  intro z hz
  rcases List.mem_cons.1 hz with rfl | hz
  · exact ne_none_of rfl
  · exact one_none rfl z hz
end Go.Proofs.YtfaglgoanmcifaaGreat
namespace Go.Proofs.YtfaglgoanmcifaaGreat
open Go.RowKit
open Go.Proofs.Tryz (prog)
attribute [local irreducible] CallV RoundV
def twoB (n : Nat) : List UInt8 := [UInt8.ofNat (n / 256), UInt8.ofNat n]
def twoRows (n : Nat) : Nat → List (List V)
  | 0 => [[.int .u8 0], [.int .u8 0]]
  | 1 => [[.int .u8 0], [cB (UInt8.ofNat n)]]
  | _ => [[cB (UInt8.ofNat (n / 256))], [cB (UInt8.ofNat n)]]
def shrI (n : Nat) : Nat → Int
  | 0 => n
  | 1 => (n / 256 : Nat)
  | _ => (n / 65536 : Nat)
theorem twoRows_free (n : Nat) (k : Nat) : ∀ r ∈ twoRows n k, ∀ v ∈ r, Free v := by
  intro r hr v hv
  unfold twoRows at hr
  split at hr <;> (simp at hr; rcases hr with rfl | rfl <;> (simp at hv; subst hv; exact .int))
theorem shI_step (n : Nat) {m : Nat} (h : m = n / 256) (hn : n < 65536) : IntKind.i64.wrap ((IntKind.u64.wrap (n : Int)).fdiv (2 ^ (min (Int.toNat 8) IntKind.u64.bits))) = (m : Int) := by
  have h1 : IntKind.u64.wrap (n : Int) = n := by rw [wrapu64]; omega
  have e : (2 : Int) ^ (min (Int.toNat 8) IntKind.u64.bits) = 256 := by decide
  rw [h1, e, h, Int.fdiv_eq_ediv_of_nonneg _ (by decide), wrap64 (by omega) (by omega)]
  omega
set_option maxRecDepth 100000 in
theorem highI_ok (n : Nat) (hn : n < 65536) : PCon prog 104 [cI n, .int .i64 2] (encB true (twoB n)) := by
  refine callV_of (fn := Go.Proofs.Tryz.f104) (body := _) tab_ok mixed rfl rfl (by decide) (by simp [Go.Proofs.Tryz.f104]) ?_
  (conv => whnf)
  refine ⟨⟨by omega, by omega, by simp [tab, tabOf, nth], by omega⟩, ?_⟩
  (conv => whnf)
  refine callV_of (fn := Go.Proofs.Tryz.f106) (body := _) tab_ok mixed rfl rfl (by decide) (by simp [Go.Proofs.Tryz.f106]) ?_
  (conv => whnf)
  refine ⟨_, _, _, Ends.here, ?_⟩
  (conv => whnf)
  refine callV_loop [(2, .ptr 0 0), (5, .ptr 2 0)] ⟨rfl, rfl, trivial⟩ fun asg' body' hasg hbody => ?_
  refine callV_of (fn := Go.Proofs.Tryz.f156) (body := _) tab_ok mixed rfl rfl (by decide) (by simp [Go.Proofs.Tryz.f156]) ?_
  (conv => whnf)
  intro _
  (conv => whnf)
  refine vcg_loop tab_ok mixed (fun k : {k : Nat // k ≤ 2} => ⟨[(0, .yld 4), (1, .ptr 3 0), (3, .int .i64 (1 - k.1))], [(4, some (.loop 23 [(2, .ptr 0 0), (5, .ptr 2 0)] [11, 12] asg' body' .ready none)), (0, some (.var true 3 [.int .i64 (shrI n k.1)])), (1, some (.arr true true 5 1 (twoRows n k.1))), (2, some (.var true 92 [.osl 1 1 0 2])), (3, some (.var true 92 [.osl 1 1 0 2]))], 5⟩) (fun k => 2 - k.1) ⟨0, by omega⟩ ?_ (fun k => ?_)
  · refine Wk.of id [] ⟨?_, ?_, ?_, trivial⟩ (LeH.of ⟨⟨by omega, .inl ⟨by simp, _, rfl, ?_⟩⟩, ⟨by omega, .inl ⟨by simp, _, rfl, ?_⟩⟩, ⟨by omega, .inl ⟨by simp, _, rfl, ?_⟩⟩, ⟨by omega, .inl ⟨by simp, _, rfl, ?_⟩⟩, ⟨by omega, .inl ⟨by simp, _, rfl, ?_⟩⟩, trivial⟩ (fun _ _ _ _ h => h) (fun _ _ => rfl) (by omega) (by simp))
    · exact .yld rfl (by omega)
    · exact .ptr rfl (by omega)
    · exact .int_of rfl
    · exact ⟨rfl, rfl, rfl, rfl, rfl, rfl, .ptr rfl (by omega), .ptr rfl (by omega), trivial⟩
    · exact ⟨id, rfl, .int_of rfl, trivial⟩
    · exact LeB.free (blk := .arr true true 5 1 (twoRows n 0)) (twoRows_free n 0)
    · exact ⟨id, rfl, .osl_of rfl (by omega) rfl, trivial⟩
    · exact ⟨id, rfl, .osl_of rfl (by omega) rfl, trivial⟩
  obtain ⟨k, hk⟩ := k
  rcases k with _ | _ | _ | k
  case succ.succ.succ => omega
  case succ.succ.zero =>
    (conv => whnf)
    refine ⟨_, _, _, Ends.here, ?_⟩
    (conv => whnf)
    refine Ends.pure [1] ?_ ?_
    · refine LeV.freeze_of (by simp) rfl (by simp [twoRows]) (twoRows_free n 2) ?_
      simp [twoRows, twoB]
    · intro z hz
      obtain rfl := List.mem_singleton.1 hz
      exact ne_none_of rfl
  · (conv => whnf)
    refine ⟨rfl, ⟨by simp, by simp⟩, ?_⟩
    (conv => whnf)
    refine ⟨rfl, _, rfl, ?_⟩
    (conv => whnf)
    subst hasg hbody
    refine roundV_of tab_ok mixed rfl (by simp) (show 4 < 5 by omega) ?_
    (conv => whnf)
    refine ⟨rfl, ?_⟩
    (conv => whnf)
    refine ⟨rfl, ⟨by simp, by simp⟩, ?_⟩
    (conv => whnf)
    refine ⟨rfl, _, rfl, ?_⟩
    (conv => whnf)
    refine ⟨by decide, ?_⟩
    (conv => whnf)
    refine ⟨rfl, ?_⟩
    (conv => whnf)
    refine ⟨⟨1, by omega⟩, Wk.of id [] ⟨.yld rfl (by omega), .ptr rfl (by omega), .int_of ?_, trivial⟩ (LeH.of ⟨⟨by omega, .inl ⟨by simp, _, rfl, rfl, rfl, rfl, rfl, rfl, rfl, .ptr rfl (by omega), .ptr rfl (by omega), trivial⟩⟩, ⟨by omega, .inl ⟨by simp, _, rfl, id, rfl, .int_of ?_, trivial⟩⟩, ⟨by omega, .inl ⟨by simp, _, rfl, LeB.eq_of ?_ (twoRows_free n 1)⟩⟩, ⟨by omega, .inl ⟨by simp, _, rfl, id, rfl, .osl_of rfl (by omega) rfl, trivial⟩⟩, ⟨by omega, .inl ⟨by simp, _, rfl, id, rfl, .osl_of rfl (by omega) rfl, trivial⟩⟩, trivial⟩ (fun _ _ _ _ h => h) (fun _ _ => rfl) (by omega) (by simp)), ?_⟩
    · simp [wrap64']
    · exact shI_step _ (by simp [Nat.div_div_eq_div_mul]) (by omega)
    · simp [twoRows, shrI, cB, wrap8]
    · simp
  · (conv => whnf)
    refine ⟨rfl, ⟨by simp, by simp⟩, ?_⟩
    (conv => whnf)
    refine ⟨rfl, _, rfl, ?_⟩
    (conv => whnf)
    subst hasg hbody
    refine roundV_of tab_ok mixed rfl (by simp) (show 4 < 5 by omega) ?_
    (conv => whnf)
    refine ⟨rfl, ?_⟩
    (conv => whnf)
    refine ⟨rfl, ⟨by simp, by simp⟩, ?_⟩
    (conv => whnf)
    refine ⟨rfl, _, rfl, ?_⟩
    (conv => whnf)
    refine ⟨by decide, ?_⟩
    (conv => whnf)
    refine ⟨rfl, ?_⟩
    (conv => whnf)
    refine ⟨⟨2, by omega⟩, Wk.of id [] ⟨.yld rfl (by omega), .ptr rfl (by omega), .int_of ?_, trivial⟩ (LeH.of ⟨⟨by omega, .inl ⟨by simp, _, rfl, rfl, rfl, rfl, rfl, rfl, rfl, .ptr rfl (by omega), .ptr rfl (by omega), trivial⟩⟩, ⟨by omega, .inl ⟨by simp, _, rfl, id, rfl, .int_of ?_, trivial⟩⟩, ⟨by omega, .inl ⟨by simp, _, rfl, LeB.eq_of ?_ (twoRows_free n 2)⟩⟩, ⟨by omega, .inl ⟨by simp, _, rfl, id, rfl, .osl_of rfl (by omega) rfl, trivial⟩⟩, ⟨by omega, .inl ⟨by simp, _, rfl, id, rfl, .osl_of rfl (by omega) rfl, trivial⟩⟩, trivial⟩ (fun _ _ _ _ h => h) (fun _ _ => rfl) (by omega) (by simp)), ?_⟩
    · simp [wrap64']
    · exact shI_step _ (by simp [Nat.div_div_eq_div_mul]) (by omega)
    · simp [twoRows, shrI, cB, wrap8]
    · simp
end Go.Proofs.YtfaglgoanmcifaaGreat
namespace Go.Proofs.YtfaglgoanmcifaaGreat
open Go.RowKit
open Go.Proofs.Tryz (prog)
attribute [local irreducible] CallV RoundV
theorem LeV.snil_sl {h : Heap} {nx nx' : Nat} {ρ : Nat → Nat} {Z : List Nat} {fr : Bool} {sz : Nat} : LeV h nx ρ nx' Z .snil (.sl fr sz []) := fun G w u hr hv => by
  cases hv with
  | snil A => exact .sl fr sz [] A 0 (fun _ => undef) (Nat.le_refl _) (Nat.zero_le _) (fun h => absurd rfl h) (by simp) (by simp) (by simp)
def attrX (f c : UInt8) (v : List UInt8) : List UInt8 := (if 255 < v.length then [f + 16, c] ++ twoB v.length else [f, c, UInt8.ofNat v.length]) ++ v
def part (a : Attrs) : Nat → List UInt8
  | 0 => attrX 64 1 [a.origin]
  | 1 => attrX 64 2 (pathB a.path)
  | 2 => attrX 64 3 (fourB a.next)
  | 3 => if a.hasMed then attrX 128 4 (fourB a.med) else []
  | 4 => if a.hasPref then attrX 64 5 (fourB a.pref) else []
  | _ => if 0 < a.tags.length then attrX 192 8 (allB a.tags) else []
def rawP (a : Attrs) : Nat → List UInt8
  | 0 => []
  | k + 1 => rawP a k ++ part a k
def rawE (a : Attrs) : V := .tup [encB true (if rightA a then rawP a 6 else []), .int .i64 (checkA a)]
theorem rawE_no {a : Attrs} (h : rightA a = false) : rawE a = .tup [encB true [], .int .i64 2] := by simp [rawE, h, checkA]
theorem rawE_yes {a : Attrs} (h : rightA a = true) : rawE a = .tup [encB true (rawP a 6), .int .i64 0] := by simp [rawE, h, checkA]
set_option maxRecDepth 100000 in
set_option maxHeartbeats 4000000 in
theorem raw_ok (fr : Bool) (a : Attrs) (hf : fewA a = true) : PCon prog 70 [encA fr a] (rawE a) := by
  obtain ⟨hp, hpl, htl⟩ := fewA_out hf
  have cell : ∀ {fr0 : Bool} {x : Attrs}, FreeB (.var true 27 (cellsA fr0 x)) := fun {fr0 x} => cellsA_free fr0 x
  have f4 : ∀ x, (fourB x).length = 4 := fun _ => rfl
  have hbd : ∀ n : Nat, n ≤ 20000 → n * (tab 5).bytes ≤ 140737488355328 ∧ n ≤ 140737488355328 := fun n h => ⟨by simp [tab, tabOf, nth]; omega, by omega⟩
  have hpb := pathB_len hp
  have ax : ∀ {f c : UInt8} {v : List UInt8}, (attrX f c v).length ≤ 4 + v.length := fun {f c v} => by unfold attrX; split <;> simp [twoB] <;> omega
  have h4 : ∀ {b : Bool} {f c : UInt8} {x : UInt32}, (if b = true then attrX f c (fourB x) else []).length ≤ 8 := fun {b f c x} => by
    have := ax (f := f) (c := c) (v := fourB x)
    rw [f4] at this
    split <;> first | omega | simp
  have hT : (if 0 < a.tags.length then attrX 192 8 (allB a.tags) else []).length ≤ 4 + 4 * a.tags.length := by
    have := ax (f := 192) (c := 8) (v := allB a.tags)
    rw [allB_len] at this
    split <;> first | omega | simp
  have p0 : (rawP a 0).length = 0 := rfl
  have p1 : (rawP a 1).length = (rawP a 0).length + (attrX 64 1 [a.origin]).length := by show (rawP a 0 ++ part a 0).length = _; rw [List.length_append]; rfl
  have p2 : (rawP a 2).length = (rawP a 1).length + (attrX 64 2 (pathB a.path)).length := by show (rawP a 1 ++ part a 1).length = _; rw [List.length_append]; rfl
  have p3 : (rawP a 3).length = (rawP a 2).length + (attrX 64 3 (fourB a.next)).length := by show (rawP a 2 ++ part a 2).length = _; rw [List.length_append]; rfl
  have p4 : (rawP a 4).length = (rawP a 3).length + (if a.hasMed then attrX 128 4 (fourB a.med) else []).length := by show (rawP a 3 ++ part a 3).length = _; rw [List.length_append]; rfl
  have p5 : (rawP a 5).length = (rawP a 4).length + (if a.hasPref then attrX 64 5 (fourB a.pref) else []).length := by show (rawP a 4 ++ part a 4).length = _; rw [List.length_append]; rfl
  have a1 := ax (f := 64) (c := 1) (v := [a.origin])
  have a2 := ax (f := 64) (c := 2) (v := pathB a.path)
  have a3 := ax (f := 64) (c := 3) (v := fourB a.next)
  rw [f4] at a3
  have a4 := h4 (b := a.hasMed) (f := 128) (c := 4) (x := a.med)
  have a5 := h4 (b := a.hasPref) (f := 64) (c := 5) (x := a.pref)
  have hP : ∀ k, k ≤ 5 → (rawP a k).length ≤ 5000 := by
    intro k hk
    simp only [List.length_cons, List.length_nil] at a1
    rcases k with _ | _ | _ | _ | _ | _ | k <;> first | omega | (simp only [Nat.zero_add, Nat.reduceAdd]; omega)
  have or80 : bits BinOp.or IntKind.u8 64 16 = 80 := by decide
  have hP0 := hP 0 (by omega)
  have hP1 := hP 1 (by omega)
  have hP2 := hP 2 (by omega)
  have hP3 := hP 3 (by omega)
  have hP4 := hP 4 (by omega)
  have hP5 := hP 5 (by omega)
  clear p0 p1 p2 p3 p4 p5 a1 a2 a3 a4 a5 hT h4 hP
  cases hright : rightA a with
  | false =>
    rw [rawE_no hright]
    refine callV_of (fn := Go.Proofs.Tryz.f70) (body := _) tab_ok mixed rfl rfl (by decide) (by simp [Go.Proofs.Tryz.f70]) ?_
    (conv => whnf)
    refine callV_pure (check_ok fr a) ⟨.free (encA_free _ _), trivial⟩ ?_
    rw [checkA_no hright]
    (conv => whnf)
    exact Ends.pure [] (.tupL ⟨.snil_sl, .int_of rfl, trivial⟩) (by simp)
  | true =>
    rw [rawE_yes hright]
    refine callV_of (fn := Go.Proofs.Tryz.f70) (body := _) tab_ok mixed rfl rfl (by decide) (by simp [Go.Proofs.Tryz.f70]) ?_
    (conv => whnf)
    refine callV_pure (check_ok fr a) ⟨.free (encA_free _ _), trivial⟩ ?_
    rw [checkA_yes hright]
    (conv => whnf)
    refine callV_pure attributes_ok trivial ?_
    (conv => whnf)
    refine callV_loop [(1, .ptr 0 0), (2, .ptr 1 0)] ⟨rfl, rfl, trivial⟩ fun asg' body' hasg hbody => ?_
    refine callV_of (fn := Go.Proofs.Tryz.f180) (body := _) tab_ok mixed rfl rfl (by decide) (by simp [Go.Proofs.Tryz.f180]) ?_
    (conv => whnf)
    intro _
    (conv => whnf)
    refine vcg_loop tab_ok mixed (fun k : {k : Nat // k ≤ 6} => ⟨[(0, .yld 2), (5, .sl true 5 attrRows), (6, cI 6), (7, cI k.1)], [(2, some (.loop 52 [(1, .ptr 0 0), (2, .ptr 1 0)] [13] asg' body' .ready none)), (0, some (.var true 27 (cellsA fr a))), (1, some (.var true 92 [.osl 3 1 0 (rawP a k.1).length])), (3, some (.arr true false 5 1 (rowsB (rawP a k.1))))], 4⟩) (fun k => 6 - k.1) ⟨0, by omega⟩ ?_ (fun k => ?_)
    · refine Wk.of id [] ⟨.yld rfl (by omega), ?_, .int_of rfl, .int_of rfl, trivial⟩ (LeH.of ⟨⟨by omega, .inl ⟨by simp, _, rfl, rfl, rfl, rfl, rfl, rfl, rfl, .ptr rfl (by omega), .ptr rfl (by omega), trivial⟩⟩, ⟨by omega, .inl ⟨by simp, _, rfl, LeB.free cell⟩⟩, ⟨by omega, .inl ⟨by simp, _, rfl, id, rfl, .osl0, trivial⟩⟩, ⟨by omega, .inr ⟨by simp, _, _, _, _, rfl⟩⟩, trivial⟩ (fun _ _ _ _ h => h) (fun _ _ => rfl) (by omega) (by simp))
      exact .free (.sl attrRows_free)
    obtain ⟨k, hk⟩ := k
    rcases k with _ | _ | _ | _ | _ | _ | _ | k
    case succ.succ.succ.succ.succ.succ.succ => omega
    case succ.succ.succ.succ.succ.succ.zero =>
      (conv => whnf)
      refine ⟨_, _, _, Ends.here, ?_⟩
      (conv => whnf)
      exact Ends.pure [3] (.tupL ⟨.freezeB (bs := rawP a 6) (by simp) rfl rfl rfl, .int_of rfl, trivial⟩) (one_none rfl)
    case zero =>
      (conv => whnf)
      refine ⟨rfl, _, ⟨by simp, rfl⟩, ?_⟩
      (conv => whnf)
      subst hasg hbody
      refine roundV_of tab_ok mixed rfl (by simp) (show 2 < 5 by omega) ?_
      (conv => whnf)
      refine ⟨rfl, ?_⟩
      (conv => whnf)
      refine callV_pure (always_ok fr a) ⟨.free (encA_free _ _), trivial⟩ ?_
      (conv => whnf)
      (conv => whnf)
      refine callV_pure (vOrigin_ok fr a) ⟨.free (encA_free _ _), trivial⟩ ?_
      (conv => whnf)
      refine fun (_ : gd none _) => ?_
      (conv => whnf)
      refine fun (_ : gd none _) => ?_
      (conv => whnf)
      refine ⟨rfl, by simp, ⟨rfl, rfl, rfl, rfl, by decide⟩, by simp, hbd _ (by simp; omega), ?_⟩
      (conv => whnf)
      refine ⟨⟨rfl, rfl, rfl, rfl, by decide⟩, by simp, hbd _ (by simp [rawP]; try omega), ?_⟩
      (conv => whnf)
      refine ⟨rfl, ?_⟩
      (conv => whnf)
      refine ⟨⟨1, by omega⟩, Wk.of (renOf [(3, 8)]) [] ⟨.yld rfl (by omega), ?_, .int_of rfl, .int_of ?_, trivial⟩ (LeH.of ⟨⟨by omega, .inl ⟨by simp, _, rfl, rfl, rfl, rfl, rfl, rfl, rfl, .ptr rfl (by omega), .ptr rfl (by omega), trivial⟩⟩, ⟨by omega, .inl ⟨by simp, _, rfl, LeB.free cell⟩⟩, ⟨by omega, .inl ⟨by simp, _, rfl, id, rfl, .osl_of rfl (by omega) ?_, trivial⟩⟩, ⟨by omega, .inl ⟨by simp, _, rfl, LeB.eq_of ?_ (rowsB_free _)⟩⟩, trivial⟩ (show ∀ b ∈ [2, 0, 1, 3], ∀ b' ∈ [2, 0, 1, 3], renOf [(3, 8)] b = renOf [(3, 8)] b' → b = b' by decide) (show ∀ b, b < 3 → renOf [(3, 8)] b = b by decide) (by omega) (by simp)), by simp⟩
      · exact .free (.sl attrRows_free)
      · simp [wrap64']
      · (simp [rawP, part, attrX, cell, rawP, Nat.add_assoc]; try omega)
      · simp [rawP, part, attrX, rowsB, u8_nat, wrap8, cell, rawP, Nat.add_assoc, List.take_of_length_le]
    case succ.succ.zero =>
      (conv => whnf)
      refine ⟨rfl, _, ⟨by simp, rfl⟩, ?_⟩
      (conv => whnf)
      subst hasg hbody
      refine roundV_of tab_ok mixed rfl (by simp) (show 2 < 5 by omega) ?_
      (conv => whnf)
      refine ⟨rfl, ?_⟩
      (conv => whnf)
      refine callV_pure (always_ok fr a) ⟨.free (encA_free _ _), trivial⟩ ?_
      (conv => whnf)
      (conv => whnf)
      refine callV_pure (vNext_ok fr a) ⟨.free (encA_free _ _), trivial⟩ ?_
      (conv => whnf)
      refine fun (_ : gd none _) => ?_
      (conv => whnf)
      refine fun (_ : gd none _) => ?_
      (conv => whnf)
      refine ⟨rfl, by simp, ⟨rfl, rfl, rfl, rfl, by decide⟩, by simp, hbd _ (by simp; omega), ?_⟩
      (conv => whnf)
      refine ⟨⟨rfl, rfl, rfl, rfl, by decide⟩, by simp, hbd _ (by simp [f4]; try omega), ?_⟩
      (conv => whnf)
      refine ⟨rfl, ?_⟩
      (conv => whnf)
      refine ⟨⟨3, by omega⟩, Wk.of (renOf [(3, 8)]) [] ⟨.yld rfl (by omega), ?_, .int_of rfl, .int_of ?_, trivial⟩ (LeH.of ⟨⟨by omega, .inl ⟨by simp, _, rfl, rfl, rfl, rfl, rfl, rfl, rfl, .ptr rfl (by omega), .ptr rfl (by omega), trivial⟩⟩, ⟨by omega, .inl ⟨by simp, _, rfl, LeB.free cell⟩⟩, ⟨by omega, .inl ⟨by simp, _, rfl, id, rfl, .osl_of rfl (by omega) ?_, trivial⟩⟩, ⟨by omega, .inl ⟨by simp, _, rfl, LeB.eq_of ?_ (rowsB_free _)⟩⟩, trivial⟩ (show ∀ b ∈ [2, 0, 1, 3], ∀ b' ∈ [2, 0, 1, 3], renOf [(3, 8)] b = renOf [(3, 8)] b' → b = b' by decide) (show ∀ b, b < 3 → renOf [(3, 8)] b = b by decide) (by omega) (by simp)), by simp⟩
      · exact .free (.sl attrRows_free)
      · simp [wrap64']
      · (simp [rawP, part, attrX, cell, f4, Nat.add_assoc]; try omega)
      · simp [rawP, part, attrX, rowsB, u8_nat, wrap8, cell, f4, Nat.add_assoc, List.take_of_length_le]
    case succ.succ.succ.zero =>
      (conv => whnf)
      refine ⟨rfl, _, ⟨by simp, rfl⟩, ?_⟩
      (conv => whnf)
      subst hasg hbody
      refine roundV_of tab_ok mixed rfl (by simp) (show 2 < 5 by omega) ?_
      (conv => whnf)
      refine ⟨rfl, ?_⟩
      (conv => whnf)
      refine callV_pure (hasMed_ok fr a) ⟨.free (encA_free _ _), trivial⟩ ?_
      (conv => whnf)
      split
      · rename_i h
        have h : a.hasMed = false := by simpa using h
        (conv => whnf)
        refine ⟨rfl, ?_⟩
        (conv => whnf)
        refine ⟨⟨4, by omega⟩, Wk.of (renOf [(3, 3)]) [] ⟨.yld rfl (by omega), ?_, .int_of rfl, .int_of ?_, trivial⟩ (LeH.of ⟨⟨by omega, .inl ⟨by simp, _, rfl, rfl, rfl, rfl, rfl, rfl, rfl, .ptr rfl (by omega), .ptr rfl (by omega), trivial⟩⟩, ⟨by omega, .inl ⟨by simp, _, rfl, LeB.free cell⟩⟩, ⟨by omega, .inl ⟨by simp, _, rfl, id, rfl, .osl_of rfl (by omega) ?_, trivial⟩⟩, ⟨by omega, .inl ⟨by simp, _, rfl, LeB.eq_of ?_ (rowsB_free _)⟩⟩, trivial⟩ (show ∀ b ∈ [2, 0, 1, 3], ∀ b' ∈ [2, 0, 1, 3], renOf [(3, 3)] b = renOf [(3, 3)] b' → b = b' by decide) (show ∀ b, b < 3 → renOf [(3, 3)] b = b by decide) (by omega) (by simp)), by simp⟩
        · exact .free (.sl attrRows_free)
        · simp [wrap64']
        · (simp [rawP, part, attrX, h, cell, Nat.add_assoc]; try omega)
        · simp [rawP, part, attrX, rowsB, u8_nat, wrap8, h, cell, Nat.add_assoc, List.take_of_length_le]
      · rename_i h
        have h : a.hasMed = true := by simpa using h
        (conv => whnf)
        refine callV_pure (vMed_ok fr a) ⟨.free (encA_free _ _), trivial⟩ ?_
        (conv => whnf)
        refine fun (_ : gd none _) => ?_
        (conv => whnf)
        refine fun (_ : gd none _) => ?_
        (conv => whnf)
        refine ⟨rfl, by simp, ⟨rfl, rfl, rfl, rfl, by decide⟩, by simp, hbd _ (by simp; omega), ?_⟩
        (conv => whnf)
        refine ⟨⟨rfl, rfl, rfl, rfl, by decide⟩, by simp, hbd _ (by simp [f4]; try omega), ?_⟩
        (conv => whnf)
        refine ⟨rfl, ?_⟩
        (conv => whnf)
        refine ⟨⟨4, by omega⟩, Wk.of (renOf [(3, 8)]) [] ⟨.yld rfl (by omega), ?_, .int_of rfl, .int_of ?_, trivial⟩ (LeH.of ⟨⟨by omega, .inl ⟨by simp, _, rfl, rfl, rfl, rfl, rfl, rfl, rfl, .ptr rfl (by omega), .ptr rfl (by omega), trivial⟩⟩, ⟨by omega, .inl ⟨by simp, _, rfl, LeB.free cell⟩⟩, ⟨by omega, .inl ⟨by simp, _, rfl, id, rfl, .osl_of rfl (by omega) ?_, trivial⟩⟩, ⟨by omega, .inl ⟨by simp, _, rfl, LeB.eq_of ?_ (rowsB_free _)⟩⟩, trivial⟩ (show ∀ b ∈ [2, 0, 1, 3], ∀ b' ∈ [2, 0, 1, 3], renOf [(3, 8)] b = renOf [(3, 8)] b' → b = b' by decide) (show ∀ b, b < 3 → renOf [(3, 8)] b = b by decide) (by omega) (by simp)), by simp⟩
        · exact .free (.sl attrRows_free)
        · simp [wrap64']
        · (simp [rawP, part, attrX, h, f4, Nat.add_assoc]; try omega)
        · simp [rawP, part, attrX, rowsB, u8_nat, wrap8, h, f4, Nat.add_assoc, List.take_of_length_le]
    case succ.succ.succ.succ.zero =>
      (conv => whnf)
      refine ⟨rfl, _, ⟨by simp, rfl⟩, ?_⟩
      (conv => whnf)
      subst hasg hbody
      refine roundV_of tab_ok mixed rfl (by simp) (show 2 < 5 by omega) ?_
      (conv => whnf)
      refine ⟨rfl, ?_⟩
      (conv => whnf)
      refine callV_pure (hasPref_ok fr a) ⟨.free (encA_free _ _), trivial⟩ ?_
      (conv => whnf)
      split
      · rename_i h
        have h : a.hasPref = false := by simpa using h
        (conv => whnf)
        refine ⟨rfl, ?_⟩
        (conv => whnf)
        refine ⟨⟨5, by omega⟩, Wk.of (renOf [(3, 3)]) [] ⟨.yld rfl (by omega), ?_, .int_of rfl, .int_of ?_, trivial⟩ (LeH.of ⟨⟨by omega, .inl ⟨by simp, _, rfl, rfl, rfl, rfl, rfl, rfl, rfl, .ptr rfl (by omega), .ptr rfl (by omega), trivial⟩⟩, ⟨by omega, .inl ⟨by simp, _, rfl, LeB.free cell⟩⟩, ⟨by omega, .inl ⟨by simp, _, rfl, id, rfl, .osl_of rfl (by omega) ?_, trivial⟩⟩, ⟨by omega, .inl ⟨by simp, _, rfl, LeB.eq_of ?_ (rowsB_free _)⟩⟩, trivial⟩ (show ∀ b ∈ [2, 0, 1, 3], ∀ b' ∈ [2, 0, 1, 3], renOf [(3, 3)] b = renOf [(3, 3)] b' → b = b' by decide) (show ∀ b, b < 3 → renOf [(3, 3)] b = b by decide) (by omega) (by simp)), by simp⟩
        · exact .free (.sl attrRows_free)
        · simp [wrap64']
        · (simp [rawP, part, attrX, h, cell, Nat.add_assoc]; try omega)
        · simp [rawP, part, attrX, rowsB, u8_nat, wrap8, h, cell, Nat.add_assoc, List.take_of_length_le]
      · rename_i h
        have h : a.hasPref = true := by simpa using h
        (conv => whnf)
        refine callV_pure (vPref_ok fr a) ⟨.free (encA_free _ _), trivial⟩ ?_
        (conv => whnf)
        refine fun (_ : gd none _) => ?_
        (conv => whnf)
        refine fun (_ : gd none _) => ?_
        (conv => whnf)
        refine ⟨rfl, by simp, ⟨rfl, rfl, rfl, rfl, by decide⟩, by simp, hbd _ (by simp; omega), ?_⟩
        (conv => whnf)
        refine ⟨⟨rfl, rfl, rfl, rfl, by decide⟩, by simp, hbd _ (by simp [f4]; try omega), ?_⟩
        (conv => whnf)
        refine ⟨rfl, ?_⟩
        (conv => whnf)
        refine ⟨⟨5, by omega⟩, Wk.of (renOf [(3, 8)]) [] ⟨.yld rfl (by omega), ?_, .int_of rfl, .int_of ?_, trivial⟩ (LeH.of ⟨⟨by omega, .inl ⟨by simp, _, rfl, rfl, rfl, rfl, rfl, rfl, rfl, .ptr rfl (by omega), .ptr rfl (by omega), trivial⟩⟩, ⟨by omega, .inl ⟨by simp, _, rfl, LeB.free cell⟩⟩, ⟨by omega, .inl ⟨by simp, _, rfl, id, rfl, .osl_of rfl (by omega) ?_, trivial⟩⟩, ⟨by omega, .inl ⟨by simp, _, rfl, LeB.eq_of ?_ (rowsB_free _)⟩⟩, trivial⟩ (show ∀ b ∈ [2, 0, 1, 3], ∀ b' ∈ [2, 0, 1, 3], renOf [(3, 8)] b = renOf [(3, 8)] b' → b = b' by decide) (show ∀ b, b < 3 → renOf [(3, 8)] b = b by decide) (by omega) (by simp)), by simp⟩
        · exact .free (.sl attrRows_free)
        · simp [wrap64']
        · (simp [rawP, part, attrX, h, f4, Nat.add_assoc]; try omega)
        · simp [rawP, part, attrX, rowsB, u8_nat, wrap8, h, f4, Nat.add_assoc, List.take_of_length_le]
    case succ.succ.succ.succ.succ.zero =>
      (conv => whnf)
      refine ⟨rfl, _, ⟨by simp, rfl⟩, ?_⟩
      (conv => whnf)
      subst hasg hbody
      refine roundV_of tab_ok mixed rfl (by simp) (show 2 < 5 by omega) ?_
      (conv => whnf)
      refine ⟨rfl, ?_⟩
      (conv => whnf)
      refine callV_pure (hasTags_ok fr a) ⟨.free (encA_free _ _), trivial⟩ ?_
      (conv => whnf)
      split
      · rename_i h
        have h : ¬ 0 < a.tags.length := by simpa using h
        (conv => whnf)
        refine ⟨rfl, ?_⟩
        (conv => whnf)
        refine ⟨⟨6, by omega⟩, Wk.of (renOf [(3, 3)]) [] ⟨.yld rfl (by omega), ?_, .int_of rfl, .int_of ?_, trivial⟩ (LeH.of ⟨⟨by omega, .inl ⟨by simp, _, rfl, rfl, rfl, rfl, rfl, rfl, rfl, .ptr rfl (by omega), .ptr rfl (by omega), trivial⟩⟩, ⟨by omega, .inl ⟨by simp, _, rfl, LeB.free cell⟩⟩, ⟨by omega, .inl ⟨by simp, _, rfl, id, rfl, .osl_of rfl (by omega) ?_, trivial⟩⟩, ⟨by omega, .inl ⟨by simp, _, rfl, LeB.eq_of ?_ (rowsB_free _)⟩⟩, trivial⟩ (show ∀ b ∈ [2, 0, 1, 3], ∀ b' ∈ [2, 0, 1, 3], renOf [(3, 3)] b = renOf [(3, 3)] b' → b = b' by decide) (show ∀ b, b < 3 → renOf [(3, 3)] b = b by decide) (by omega) (by simp)), by simp⟩
        · exact .free (.sl attrRows_free)
        · simp [wrap64']
        · (simp [rawP, part, attrX, h, if_neg, Nat.add_assoc]; try omega)
        · simp [rawP, part, attrX, rowsB, u8_nat, wrap8, h, if_neg, Nat.add_assoc, List.take_of_length_le]
      · rename_i h
        have h : 0 < a.tags.length := by simpa using h
        have hs : ¬ 255 < (allB a.tags).length := by rw [allB_len]; omega
        (conv => whnf)
        refine callV_pure (vTags_ok fr a hf) ⟨.free (encA_free _ _), trivial⟩ ?_
        (conv => whnf)
        refine fun (_ : gd none _) => ?_
        (conv => whnf)
        split
        · rename_i hb
          exact absurd hb (by simp; omega)
        rename_i hb
        (conv => whnf)
        refine fun (_ : gd none _) => ?_
        (conv => whnf)
        refine ⟨rfl, by simp, ⟨rfl, rfl, rfl, rfl, by decide⟩, by simp, hbd _ (by simp; omega), ?_⟩
        (conv => whnf)
        refine ⟨⟨rfl, rfl, rfl, rfl, by decide⟩, by simp, hbd _ (by simp; omega), ?_⟩
        (conv => whnf)
        refine ⟨rfl, ?_⟩
        (conv => whnf)
        refine ⟨⟨6, by omega⟩, Wk.of (renOf [(3, 8)]) [] ⟨.yld rfl (by omega), ?_, .int_of rfl, .int_of ?_, trivial⟩ (LeH.of ⟨⟨by omega, .inl ⟨by simp, _, rfl, rfl, rfl, rfl, rfl, rfl, rfl, .ptr rfl (by omega), .ptr rfl (by omega), trivial⟩⟩, ⟨by omega, .inl ⟨by simp, _, rfl, LeB.free cell⟩⟩, ⟨by omega, .inl ⟨by simp, _, rfl, id, rfl, .osl_of rfl (by omega) ?_, trivial⟩⟩, ⟨by omega, .inl ⟨by simp, _, rfl, LeB.eq_of ?_ (rowsB_free _)⟩⟩, trivial⟩ (show ∀ b ∈ [2, 0, 1, 3], ∀ b' ∈ [2, 0, 1, 3], renOf [(3, 8)] b = renOf [(3, 8)] b' → b = b' by decide) (show ∀ b, b < 3 → renOf [(3, 8)] b = b by decide) (by omega) (by simp)), by simp⟩
        · exact .free (.sl attrRows_free)
        · simp [wrap64']
        · (simp [rawP, part, attrX, h, hs, Nat.add_assoc]; try omega)
        · simp [rawP, part, attrX, rowsB, u8_nat, wrap8, h, hs, Nat.add_assoc, List.take_of_length_le]
    case succ.zero =>
      (conv => whnf)
      refine ⟨rfl, _, ⟨by simp, rfl⟩, ?_⟩
      (conv => whnf)
      subst hasg hbody
      refine roundV_of tab_ok mixed rfl (by simp) (show 2 < 5 by omega) ?_
      (conv => whnf)
      refine ⟨rfl, ?_⟩
      (conv => whnf)
      refine callV_pure (always_ok fr a) ⟨.free (encA_free _ _), trivial⟩ ?_
      (conv => whnf)
      (conv => whnf)
      refine callV_pure (route_ok fr a hf) ⟨.free (encA_free _ _), trivial⟩ ?_
      (conv => whnf)
      refine fun (_ : gd none _) => ?_
      (conv => whnf)
      split
      · rename_i hb
        have hs : 255 < (pathB a.path).length := by simp at hb; omega
        (conv => whnf)
        refine ⟨rfl, by simp, ⟨rfl, rfl, rfl, rfl, by decide⟩, by simp, hbd _ (by simp; omega), ?_⟩
        (conv => whnf)
        refine fun (_ : gd none _) => ?_
        (conv => whnf)
        refine callV_pure (highI_ok (pathB a.path).length (by omega)) ⟨.int_of (by simp), .free .int, trivial⟩ ?_
        (conv => whnf)
        refine ⟨⟨rfl, rfl, rfl, rfl, by decide⟩, by simp, hbd _ (by simp [twoB]; omega), ?_⟩
        (conv => whnf)
        refine ⟨⟨rfl, rfl, rfl, rfl, by decide⟩, by simp, hbd _ (by simp [twoB]; omega), ?_⟩
        (conv => whnf)
        refine ⟨rfl, ?_⟩
        (conv => whnf)
        refine ⟨⟨2, by omega⟩, Wk.of (renOf [(3, 9)]) [] ⟨.yld rfl (by omega), ?_, .int_of rfl, .int_of ?_, trivial⟩ (LeH.of ⟨⟨by omega, .inl ⟨by simp, _, rfl, rfl, rfl, rfl, rfl, rfl, rfl, .ptr rfl (by omega), .ptr rfl (by omega), trivial⟩⟩, ⟨by omega, .inl ⟨by simp, _, rfl, LeB.free cell⟩⟩, ⟨by omega, .inl ⟨by simp, _, rfl, id, rfl, .osl_of rfl (by omega) ?_, trivial⟩⟩, ⟨by omega, .inl ⟨by simp, _, rfl, LeB.eq_of ?_ (rowsB_free _)⟩⟩, trivial⟩ (show ∀ b ∈ [2, 0, 1, 3], ∀ b' ∈ [2, 0, 1, 3], renOf [(3, 9)] b = renOf [(3, 9)] b' → b = b' by decide) (show ∀ b, b < 3 → renOf [(3, 9)] b = b by decide) (by omega) (by simp)), by simp⟩
        · exact .free (.sl attrRows_free)
        · simp [wrap64']
        · (simp [rawP, part, attrX, hs, twoB, or80, Nat.add_assoc]; try omega)
        · simp [rawP, part, attrX, rowsB, u8_nat, wrap8, hs, twoB, or80, Nat.add_assoc, List.take_of_length_le]
      · rename_i hb
        have hs : ¬ 255 < (pathB a.path).length := by simp at hb; omega
        (conv => whnf)
        refine fun (_ : gd none _) => ?_
        (conv => whnf)
        refine ⟨rfl, by simp, ⟨rfl, rfl, rfl, rfl, by decide⟩, by simp, hbd _ (by simp; omega), ?_⟩
        (conv => whnf)
        refine ⟨⟨rfl, rfl, rfl, rfl, by decide⟩, by simp, hbd _ (by simp; omega), ?_⟩
        (conv => whnf)
        refine ⟨rfl, ?_⟩
        (conv => whnf)
        refine ⟨⟨2, by omega⟩, Wk.of (renOf [(3, 8)]) [] ⟨.yld rfl (by omega), ?_, .int_of rfl, .int_of ?_, trivial⟩ (LeH.of ⟨⟨by omega, .inl ⟨by simp, _, rfl, rfl, rfl, rfl, rfl, rfl, rfl, .ptr rfl (by omega), .ptr rfl (by omega), trivial⟩⟩, ⟨by omega, .inl ⟨by simp, _, rfl, LeB.free cell⟩⟩, ⟨by omega, .inl ⟨by simp, _, rfl, id, rfl, .osl_of rfl (by omega) ?_, trivial⟩⟩, ⟨by omega, .inl ⟨by simp, _, rfl, LeB.eq_of ?_ (rowsB_free _)⟩⟩, trivial⟩ (show ∀ b ∈ [2, 0, 1, 3], ∀ b' ∈ [2, 0, 1, 3], renOf [(3, 8)] b = renOf [(3, 8)] b' → b = b' by decide) (show ∀ b, b < 3 → renOf [(3, 8)] b = b by decide) (by omega) (by simp)), by simp⟩
        · exact .free (.sl attrRows_free)
        · simp [wrap64']
        · (simp [rawP, part, attrX, hs, cell, Nat.add_assoc]; try omega)
        · simp [rawP, part, attrX, rowsB, u8_nat, wrap8, hs, cell, Nat.add_assoc, List.take_of_length_le]
end Go.Proofs.YtfaglgoanmcifaaGreat
namespace Go.Proofs.YtfaglgoanmcifaaGreat
theorem attrX_eq (f c : UInt8) (v : List UInt8) : attrX f c v = attrB f c v := by
  unfold attrX attrB twoB
  split
  · have : UInt8.ofNat (v.length % 256) = UInt8.ofNat v.length := by
      apply UInt8.toNat_inj.1
      simp
    rw [this]
    rfl
  · rfl
theorem rawP_eq (a : Attrs) : rawP a 6 = rawA a := by
  simp only [rawP, part, rawA, rawO, attrX_eq, List.nil_append, List.append_assoc]
end Go.Proofs.YtfaglgoanmcifaaGreat
namespace Go.Proofs.YtfaglgoanmcifaaGreat
open Go.RowKit
open Go.Proofs.Tryz (prog)
attribute [local irreducible] CallV RoundV
def firstOf (a : Attrs) : UInt32 := match a.path with
  | p :: _ => if p.set then 0 else p.ns.headD 0
  | [] => 0
set_option maxRecDepth 100000 in
theorem first_ok (fr : Bool) (a : Attrs) : PCon prog 128 [encA fr a] (cW (firstOf a)) := by
  have fin : ∀ {s : St} {n : Int}, n = ((firstOf a).toNat : Int) → ∃ v1 h' nx', Ends 0 s (.int .u32 n) v1 h' nx' ∧ (v1 = cW (firstOf a) ∧ h' = [] ∧ nx' = 0) := fun h => Ends.pure [] (.int_of h) (by simp)
  obtain ⟨o, path, nxt, hm, m, hp, p, tags⟩ := a
  cases path with
  | nil =>
    refine callV_of (fn := Go.Proofs.Tryz.f128) (body := _) tab_ok mixed rfl rfl (by decide) (by simp [Go.Proofs.Tryz.f128]) ?_
    (conv => whnf)
    intro _
    (conv => whnf)
    exact fin (by simp [firstOf])
  | cons p0 r =>
    obtain ⟨set, ns⟩ := p0
    cases set with
    | true =>
      refine callV_of (fn := Go.Proofs.Tryz.f128) (body := _) tab_ok mixed rfl rfl (by decide) (by simp [Go.Proofs.Tryz.f128]) ?_
      (conv => whnf)
      intro _
      (conv => whnf)
      refine ⟨rfl, _, ⟨by omega, rfl⟩, ?_⟩
      (conv => whnf)
      exact fin (by simp [firstOf])
    | false =>
      cases ns with
      | nil =>
        refine callV_of (fn := Go.Proofs.Tryz.f128) (body := _) tab_ok mixed rfl rfl (by decide) (by simp [Go.Proofs.Tryz.f128]) ?_
        (conv => whnf)
        intro _
        (conv => whnf)
        refine ⟨rfl, _, ⟨by omega, rfl⟩, ?_⟩
        (conv => whnf)
        refine ⟨rfl, _, ⟨by omega, rfl⟩, ?_⟩
        (conv => whnf)
        intro _
        (conv => whnf)
        exact fin (by simp [firstOf])
      | cons n0 ns =>
        refine callV_of (fn := Go.Proofs.Tryz.f128) (body := _) tab_ok mixed rfl rfl (by decide) (by simp [Go.Proofs.Tryz.f128]) ?_
        (conv => whnf)
        intro _
        (conv => whnf)
        refine ⟨rfl, _, ⟨by omega, rfl⟩, ?_⟩
        (conv => whnf)
        refine ⟨rfl, _, ⟨by omega, rfl⟩, ?_⟩
        (conv => whnf)
        intro _
        (conv => whnf)
        refine ⟨rfl, _, ⟨by omega, rfl⟩, ?_⟩
        (conv => whnf)
        refine ⟨rfl, _, ⟨by omega, rfl⟩, ?_⟩
        (conv => whnf)
        exact fin (by simp [firstOf])
set_option maxRecDepth 100000 in
theorem ref_first_ok (fr : Bool) (a : Attrs) : PCon prog 123 [encA fr a] (cW (firstOf a)) := by
  have fin : ∀ {s : St} {n : Int}, n = ((firstOf a).toNat : Int) → ∃ v1 h' nx', Ends 0 s (.int .u32 n) v1 h' nx' ∧ (v1 = cW (firstOf a) ∧ h' = [] ∧ nx' = 0) := fun h => Ends.pure [] (.int_of h) (by simp)
  obtain ⟨o, path, nxt, hm, m, hp, p, tags⟩ := a
  cases path with
  | nil =>
    refine callV_of (fn := Go.Proofs.Tryz.f123) (body := _) tab_ok mixed rfl rfl (by decide) (by simp [Go.Proofs.Tryz.f123]) ?_
    (conv => whnf)
    intro _
    (conv => whnf)
    exact fin (by simp [firstOf])
  | cons p0 r =>
    obtain ⟨set, ns⟩ := p0
    cases set with
    | true =>
      refine callV_of (fn := Go.Proofs.Tryz.f123) (body := _) tab_ok mixed rfl rfl (by decide) (by simp [Go.Proofs.Tryz.f123]) ?_
      (conv => whnf)
      intro _
      (conv => whnf)
      refine ⟨rfl, _, ⟨by omega, rfl⟩, ?_⟩
      (conv => whnf)
      exact fin (by simp [firstOf])
    | false =>
      cases ns with
      | nil =>
        refine callV_of (fn := Go.Proofs.Tryz.f123) (body := _) tab_ok mixed rfl rfl (by decide) (by simp [Go.Proofs.Tryz.f123]) ?_
        (conv => whnf)
        intro _
        (conv => whnf)
        refine ⟨rfl, _, ⟨by omega, rfl⟩, ?_⟩
        (conv => whnf)
        refine ⟨rfl, _, ⟨by omega, rfl⟩, ?_⟩
        (conv => whnf)
        intro _
        (conv => whnf)
        exact fin (by simp [firstOf])
      | cons n0 ns =>
        refine callV_of (fn := Go.Proofs.Tryz.f123) (body := _) tab_ok mixed rfl rfl (by decide) (by simp [Go.Proofs.Tryz.f123]) ?_
        (conv => whnf)
        intro _
        (conv => whnf)
        refine ⟨rfl, _, ⟨by omega, rfl⟩, ?_⟩
        (conv => whnf)
        refine ⟨rfl, _, ⟨by omega, rfl⟩, ?_⟩
        (conv => whnf)
        intro _
        (conv => whnf)
        refine ⟨rfl, _, ⟨by omega, rfl⟩, ?_⟩
        (conv => whnf)
        refine ⟨rfl, _, ⟨by omega, rfl⟩, ?_⟩
        (conv => whnf)
        exact fin (by simp [firstOf])
end Go.Proofs.YtfaglgoanmcifaaGreat
namespace Go.Proofs.YtfaglgoanmcifaaGreat
open Go.RowKit
open Go.Proofs.Tryz (prog)
attribute [local irreducible] CallV RoundV
def lenOf (p : Leg) : Nat := if p.set then 1 else p.ns.length
def lengthOf (l : List Leg) : Nat := (l.map lenOf).sum
end Go.Proofs.YtfaglgoanmcifaaGreat
namespace Go.Proofs.YtfaglgoanmcifaaGreat
open Go.RowKit
open Go.Proofs.Tryz (prog)
attribute [local irreducible] CallV RoundV
abbrev rowsW (b : List UInt32) : List (List V) := b.map fun x => [V.int .u32 x.toNat]
def numsK (b : List UInt8) (k : Nat) : List UInt32 := (List.range k).map fun j => wordOf ((b.drop (4 * j)).take 4)
end Go.Proofs.YtfaglgoanmcifaaGreat
namespace Go.Proofs.YtfaglgoanmcifaaGreat
open Go.RowKit
open Go.Proofs.Tryz (prog)
attribute [local irreducible] CallV RoundV
theorem int2_free (a b : V) (h1 : Free a) (h2 : Free b) : Free (.tup [a, b]) := .tup (by intro v hv; simp at hv; rcases hv with rfl | rfl <;> assumption)
set_option maxRecDepth 100000 in
theorem mul_ok (n : Nat) (hn : n ≤ 8) : PCon prog 222 [.int .u64 1, .int .u64 n] (.tup [.int .u64 0, .int .u64 n]) := by
  have hn' : n = 0 ∨ n = 1 ∨ n = 2 ∨ n = 3 ∨ n = 4 ∨ n = 5 ∨ n = 6 ∨ n = 7 ∨ n = 8 := by omega
  rcases hn' with rfl | rfl | rfl | rfl | rfl | rfl | rfl | rfl | rfl
  · refine callV_of (fn := Go.Proofs.Tryz.f222) (body := _) tab_ok mixed rfl rfl (by decide) (by simp [Go.Proofs.Tryz.f222]) ?_
    (conv => whnf)
    refine callV_of (fn := Go.Proofs.Tryz.f228) (body := _) tab_ok mixed rfl rfl (by decide) (by simp [Go.Proofs.Tryz.f228]) ?_
    (conv => whnf)
    iterate 5
      refine ⟨by decide, ?_⟩
      (conv => whnf)
    refine ⟨_, _, _, Ends.here, ?_⟩
    (conv => whnf)
    exact Ends.pure [] (.eq_of (by kernel_rfl) (int2_free _ _ .int .int)) (by simp)
  · refine callV_of (fn := Go.Proofs.Tryz.f222) (body := _) tab_ok mixed rfl rfl (by decide) (by simp [Go.Proofs.Tryz.f222]) ?_
    (conv => whnf)
    refine callV_of (fn := Go.Proofs.Tryz.f228) (body := _) tab_ok mixed rfl rfl (by decide) (by simp [Go.Proofs.Tryz.f228]) ?_
    (conv => whnf)
    iterate 5
      refine ⟨by decide, ?_⟩
      (conv => whnf)
    refine ⟨_, _, _, Ends.here, ?_⟩
    (conv => whnf)
    exact Ends.pure [] (.eq_of (by kernel_rfl) (int2_free _ _ .int .int)) (by simp)
  · refine callV_of (fn := Go.Proofs.Tryz.f222) (body := _) tab_ok mixed rfl rfl (by decide) (by simp [Go.Proofs.Tryz.f222]) ?_
    (conv => whnf)
    refine callV_of (fn := Go.Proofs.Tryz.f228) (body := _) tab_ok mixed rfl rfl (by decide) (by simp [Go.Proofs.Tryz.f228]) ?_
    (conv => whnf)
    iterate 5
      refine ⟨by decide, ?_⟩
      (conv => whnf)
    refine ⟨_, _, _, Ends.here, ?_⟩
    (conv => whnf)
    exact Ends.pure [] (.eq_of (by kernel_rfl) (int2_free _ _ .int .int)) (by simp)
  · refine callV_of (fn := Go.Proofs.Tryz.f222) (body := _) tab_ok mixed rfl rfl (by decide) (by simp [Go.Proofs.Tryz.f222]) ?_
    (conv => whnf)
    refine callV_of (fn := Go.Proofs.Tryz.f228) (body := _) tab_ok mixed rfl rfl (by decide) (by simp [Go.Proofs.Tryz.f228]) ?_
    (conv => whnf)
    iterate 5
      refine ⟨by decide, ?_⟩
      (conv => whnf)
    refine ⟨_, _, _, Ends.here, ?_⟩
    (conv => whnf)
    exact Ends.pure [] (.eq_of (by kernel_rfl) (int2_free _ _ .int .int)) (by simp)
  · refine callV_of (fn := Go.Proofs.Tryz.f222) (body := _) tab_ok mixed rfl rfl (by decide) (by simp [Go.Proofs.Tryz.f222]) ?_
    (conv => whnf)
    refine callV_of (fn := Go.Proofs.Tryz.f228) (body := _) tab_ok mixed rfl rfl (by decide) (by simp [Go.Proofs.Tryz.f228]) ?_
    (conv => whnf)
    iterate 5
      refine ⟨by decide, ?_⟩
      (conv => whnf)
    refine ⟨_, _, _, Ends.here, ?_⟩
    (conv => whnf)
    exact Ends.pure [] (.eq_of (by kernel_rfl) (int2_free _ _ .int .int)) (by simp)
  · refine callV_of (fn := Go.Proofs.Tryz.f222) (body := _) tab_ok mixed rfl rfl (by decide) (by simp [Go.Proofs.Tryz.f222]) ?_
    (conv => whnf)
    refine callV_of (fn := Go.Proofs.Tryz.f228) (body := _) tab_ok mixed rfl rfl (by decide) (by simp [Go.Proofs.Tryz.f228]) ?_
    (conv => whnf)
    iterate 5
      refine ⟨by decide, ?_⟩
      (conv => whnf)
    refine ⟨_, _, _, Ends.here, ?_⟩
    (conv => whnf)
    exact Ends.pure [] (.eq_of (by kernel_rfl) (int2_free _ _ .int .int)) (by simp)
  · refine callV_of (fn := Go.Proofs.Tryz.f222) (body := _) tab_ok mixed rfl rfl (by decide) (by simp [Go.Proofs.Tryz.f222]) ?_
    (conv => whnf)
    refine callV_of (fn := Go.Proofs.Tryz.f228) (body := _) tab_ok mixed rfl rfl (by decide) (by simp [Go.Proofs.Tryz.f228]) ?_
    (conv => whnf)
    iterate 5
      refine ⟨by decide, ?_⟩
      (conv => whnf)
    refine ⟨_, _, _, Ends.here, ?_⟩
    (conv => whnf)
    exact Ends.pure [] (.eq_of (by kernel_rfl) (int2_free _ _ .int .int)) (by simp)
  · refine callV_of (fn := Go.Proofs.Tryz.f222) (body := _) tab_ok mixed rfl rfl (by decide) (by simp [Go.Proofs.Tryz.f222]) ?_
    (conv => whnf)
    refine callV_of (fn := Go.Proofs.Tryz.f228) (body := _) tab_ok mixed rfl rfl (by decide) (by simp [Go.Proofs.Tryz.f228]) ?_
    (conv => whnf)
    iterate 5
      refine ⟨by decide, ?_⟩
      (conv => whnf)
    refine ⟨_, _, _, Ends.here, ?_⟩
    (conv => whnf)
    exact Ends.pure [] (.eq_of (by kernel_rfl) (int2_free _ _ .int .int)) (by simp)
  · refine callV_of (fn := Go.Proofs.Tryz.f222) (body := _) tab_ok mixed rfl rfl (by decide) (by simp [Go.Proofs.Tryz.f222]) ?_
    (conv => whnf)
    refine callV_of (fn := Go.Proofs.Tryz.f228) (body := _) tab_ok mixed rfl rfl (by decide) (by simp [Go.Proofs.Tryz.f228]) ?_
    (conv => whnf)
    iterate 5
      refine ⟨by decide, ?_⟩
      (conv => whnf)
    refine ⟨_, _, _, Ends.here, ?_⟩
    (conv => whnf)
    exact Ends.pure [] (.eq_of (by kernel_rfl) (int2_free _ _ .int .int)) (by simp)
def repRows (x : UInt32) (m n : Nat) : List (List V) := List.replicate m [cW x] ++ List.replicate (n - m) [.int .u32 0]
theorem repRows_free (x : UInt32) (m n : Nat) : ∀ r ∈ repRows x m n, ∀ v ∈ r, Free v := by
  intro r hr v hv
  rcases List.mem_append.1 hr with h | h
  · rw [List.eq_of_mem_replicate h] at hv; simp at hv; subst hv; exact .int
  · rw [List.eq_of_mem_replicate h] at hv; simp at hv; subst hv; exact .int
theorem repRows_len (x : UInt32) (m n : Nat) (h : m ≤ n) : (repRows x m n).length = n := by simp [repRows]; omega
theorem repRows_step (x : UInt32) (m n : Nat) (h : m ≤ n) : (repRows x m n).take m ++ ((repRows x m n).take m).take (n - m) ++ (repRows x m n).drop (m + min m (n - m)) = repRows x (m + min m (n - m)) n := by
  have h1 : (repRows x m n).take m = List.replicate m [cW x] := by
    rw [repRows, List.take_append_of_le_length (by simp), List.take_of_length_le (by simp)]
  rw [h1]
  have h2 : (repRows x m n).drop (m + min m (n - m)) = List.replicate (n - m - min m (n - m)) [.int .u32 0] := by
    rw [repRows, List.drop_append, List.drop_eq_nil_of_le (by simp), List.nil_append, List.length_replicate, List.drop_replicate]
    congr 1
    omega
  rw [h2, repRows, List.take_replicate]
  rw [show List.replicate m [cW x] ++ List.replicate (min (n - m) m) [cW x] = List.replicate (m + min m (n - m)) [cW x] by rw [List.replicate_append_replicate, Nat.min_comm]]
  congr 2
  omega
set_option maxRecDepth 100000 in
theorem repeat_ok (fr : Bool) (x : UInt32) (n : Nat) (hn : n ≤ 8) : PCon prog 205 [encW fr [x], cI n] (encW true (List.replicate n x)) := by
  refine callV_of (fn := Go.Proofs.Tryz.f205) (body := _) tab_ok mixed rfl rfl (by decide) (by simp [Go.Proofs.Tryz.f205]) ?_
  (conv => whnf)
  intro _
  (conv => whnf)
  refine callV_pure (mul_ok n hn) ⟨.int_of ?_, .int_of ?_, trivial⟩ ?_
  · simp [wrapu64]
  · rw [wrapu64]; omega
  (conv => whnf)
  rw [show decide (((9223372036854775807 : Int)) < (n : Int)) = false by simp; omega]
  (conv => whnf)
  have hw : IntKind.i64.wrap (n : Int) = n := by rw [wrap64] <;> omega
  rw [hw]
  refine ⟨⟨by omega, by omega, by simp [tab, tabOf, nth]; omega, by omega⟩, ?_⟩
  (conv => whnf)
  refine ⟨⟨rfl, rfl, rfl⟩, by simp, ?_⟩
  (conv => whnf)
  refine vcg_loop tab_ok mixed (fun m : {m : Nat // m ≤ n ∧ (m = 0 → n = 0)} => ⟨[(7, .osl 0 1 0 n), (8, cI m.1)], [(0, some (.arr true true 24 1 (repRows x m.1 n)))], 1⟩) (fun m => n - m.1) ⟨min 1 n, by omega, by omega⟩ ?_ (fun m => ?_)
  · refine Wk.of id [] ⟨.osl_of rfl (by omega) (by simp), .int_of (by simp), trivial⟩ (LeH.of ⟨⟨by omega, .inl ⟨by simp, _, rfl, LeB.eq_of ?_ (repRows_free _ _ _)⟩⟩, trivial⟩ (fun _ _ _ _ h => h) (fun _ _ => rfl) (by omega) (by simp))
    rw [Int.toNat_natCast]
    simp only [List.length_map, List.length_cons, List.length_nil, Nat.zero_add, List.take_zero, List.nil_append, List.drop_replicate, repRows]
    congr 1
    rcases n with _ | n
    · rfl
    · simp [Nat.min_eq_left (show 1 ≤ n + 1 by omega)]
  obtain ⟨m, hm, hm0⟩ := m
  (conv => whnf)
  intro _
  (conv => whnf)
  split
  · rename_i hc
    have hc : m < n := by simpa using hc
    (conv => whnf)
    refine ⟨rfl, ⟨by simp, by simp; try omega⟩, ?_⟩
    (conv => whnf)
    refine ⟨rfl, .own, ⟨by simp, by simp, by simp, by simp; try omega⟩, ?_⟩
    (conv => whnf)
    refine ⟨rfl, by simp [repRows_len x m n hm]; try omega, ⟨rfl, rfl, rfl⟩, by simp [repRows_len x m n hm]; try omega, ?_⟩
    (conv => whnf)
    refine ⟨by kernel_rfl, ?_⟩
    (conv => whnf)
    have hlen : min (List.take ((m : Int).toNat - 0) (List.drop (0 + 0) (repRows x m n))).length (n - (m : Int).toNat) = min m (n - m) := by
      simp [repRows_len x m n hm]
    refine ⟨⟨m + min m (n - m), by omega, by omega⟩, Wk.of id [] ⟨.osl_of rfl (by omega) rfl, .int_of ?_, trivial⟩ (LeH.of ⟨⟨by omega, .inl ⟨by simp, _, rfl, LeB.eq_of ?_ (repRows_free _ _ _)⟩⟩, trivial⟩ (fun _ _ _ _ h => h) (fun _ _ => rfl) (by omega) (by simp)), by simp only; omega⟩
    · simp only [hlen]
      rw [wrap64] <;> omega
    · simp only [hlen]
      have := repRows_step x m n hm
      simpa using this
  · rename_i hc
    have hc : m = n := by simp at hc; omega
    subst hc
    (conv => whnf)
    refine Ends.pure [0] (LeV.freeze_of (by simp) rfl (by simp [repRows_len]) (repRows_free _ _ _) ?_) (one_none rfl)
    simp [repRows]
def IsW (fr : Bool) (v : V) (l : List UInt32) : Prop := v = encW fr l ∨ (v = .snil ∧ l = [])
theorem IsW.free {fr : Bool} {v : V} {l : List UInt32} (h : IsW fr v l) : Free v := by
  rcases h with rfl | ⟨rfl, _⟩
  · exact encW_free _ _
  · exact .snil
theorem IsW.cold {v : V} {l : List UInt32} (h : IsW false v l) : Cold v := by
  rcases h with rfl | ⟨rfl, _⟩
  · exact encW_cold _
  · exact .snil
def pairV (fr : Bool) (l1 : List UInt32) (v2 : V) : V := .sl fr 1 [[encW fr l1], [v2]]
theorem pairV_free {fr : Bool} {l1 l2 : List UInt32} {v2 : V} (h : IsW fr v2 l2) : Free (pairV fr l1 v2) := .sl (by
  intro x hx v hv
  simp at hx
  rcases hx with rfl | rfl
  · simp at hv; subst hv; exact encW_free _ _
  · simp at hv; subst hv; exact h.free)
def catLen (l1 l2 : List UInt32) : Nat → Nat
  | 0 => 0
  | 1 => l1.length
  | _ => l1.length + l2.length
theorem zeros_free (n : Nat) : ∀ r ∈ List.replicate n [V.int .u32 0], ∀ v ∈ r, Free v := by
  intro r hr v hv
  rw [List.eq_of_mem_replicate hr] at hv; simp at hv; subst hv; exact .int
def catR (r0 : List (List V)) (l1 l2 : List UInt32) : Nat → List (List V)
  | 0 => r0
  | 1 => rowsW l1
  | _ => rowsW (l1 ++ l2)
set_option maxRecDepth 100000 in
theorem concat_ok (fr : Bool) (l1 l2 : List UInt32) (v2 : V) (h2 : IsW fr v2 l2) (n1 : l1.length ≤ 1000) (n2 : l2.length ≤ 1000) : PCon prog 204 [pairV fr l1 v2] (encW true (l1 ++ l2)) := by
  refine callV_of (fn := Go.Proofs.Tryz.f204) (body := _) tab_ok mixed rfl rfl (by decide) (by simp [Go.Proofs.Tryz.f204]) ?_
  (conv => whnf)
  intro _
  (conv => whnf)
  refine vcg_loop tab_ok mixed (fun i : {i : Nat // i ≤ 2} => ⟨[(0, pairV fr l1 v2), (3, cI (catLen l1 l2 i.1)), (9, pairV fr l1 v2), (10, .int .i64 2), (11, cI i.1)], [], 0⟩) (fun i => 2 - i.1) ⟨0, by omega⟩ (Wk.of id [] ⟨.free (pairV_free h2), .int_of rfl, .free (pairV_free h2), .int_of rfl, .int_of rfl, trivial⟩ (LeH.nil (Nat.le_refl _) (fun b h => by omega) (by simp))) (fun i => ?_)
  obtain ⟨i, hi⟩ := i
  rcases i with _ | _ | _ | i
  case succ.succ.succ => omega
  case zero =>
    (conv => whnf)
    refine ⟨rfl, _, ⟨by simp, rfl⟩, ?_⟩
    (conv => whnf)
    intro _
    (conv => whnf)
    have hw : IntKind.i64.wrap (((catLen l1 l2 (⟨0, hi⟩ : {i : Nat // i ≤ 2}).val : Nat) : Int) + ((List.map (fun x => [V.int .u32 x.toNat]) l1).length : Nat)) = (catLen l1 l2 1 : Nat) := by
      simp only [catLen, List.length_map]; rw [wrap64] <;> omega
    split
    · rename_i h; rw [hw] at h; simp at h; omega
    (conv => whnf)
    exact ⟨⟨1, by omega⟩, Wk.of id [] ⟨.free (pairV_free h2), .int_of hw, .free (pairV_free h2), .int_of rfl, .int_of rfl, trivial⟩ (LeH.nil (Nat.le_refl _) (fun b h => by omega) (by simp)), by simp only; omega⟩
  case succ.zero =>
    (conv => whnf)
    refine ⟨rfl, _, ⟨by simp, rfl⟩, ?_⟩
    (conv => whnf)
    have hw : ∀ n : Nat, n = l2.length → IntKind.i64.wrap (((catLen l1 l2 (⟨0 + 1, hi⟩ : {i : Nat // i ≤ 2}).val : Nat) : Int) + (n : Nat)) = (catLen l1 l2 2 : Nat) := by
      intro n hn
      simp only [catLen]; rw [wrap64] <;> omega
    have h2' := h2
    rcases h2' with h | ⟨h, h0⟩
    · rw [h]
      (conv => whnf)
      intro _
      (conv => whnf)
      have hw := hw ((List.map (fun x => [V.int .u32 x.toNat]) l2).length) (by simp)
      split
      · rename_i h; rw [hw] at h; simp at h; omega
      (conv => whnf)
      exact ⟨⟨2, by omega⟩, Wk.of id [] ⟨h ▸ .free (pairV_free h2), .int_of hw, h ▸ .free (pairV_free h2), .int_of rfl, .int_of rfl, trivial⟩ (LeH.nil (Nat.le_refl _) (fun b h => by omega) (by simp)), by simp only; omega⟩
    · rw [h]
      (conv => whnf)
      have hw : IntKind.i64.wrap (((catLen l1 l2 (⟨0 + 1, hi⟩ : {i : Nat // i ≤ 2}).val : Nat) : Int) + 0) = (catLen l1 l2 2 : Nat) := hw 0 (by simp [h0])
      split
      · rename_i h; rw [hw] at h; simp at h; omega
      (conv => whnf)
      exact ⟨⟨2, by omega⟩, Wk.of id [] ⟨h ▸ .free (pairV_free h2), .int_of hw, h ▸ .free (pairV_free h2), .int_of rfl, .int_of rfl, trivial⟩ (LeH.nil (Nat.le_refl _) (fun b h => by omega) (by simp)), by simp only; omega⟩
  case succ.succ.zero =>
    (conv => whnf)
    refine callV_of (fn := Go.Proofs.Tryz.f221) (body := _) tab_ok mixed rfl rfl (by decide) (by simp [Go.Proofs.Tryz.f221]) ?_
    (conv => whnf)
    have hn : IntKind.i64.wrap (((catLen l1 l2 (⟨0 + 1 + 1, hi⟩ : {i : Nat // i ≤ 2}).val : Nat) : Int) - IntKind.i64.wrap (0 - 0)) = (l1.length + l2.length : Nat) := by
      rw [show IntKind.i64.wrap (0 - 0) = 0 by decide]
      simp only [catLen]; rw [wrap64] <;> omega
    split
    · rename_i hc
      (conv => whnf)
      refine ⟨⟨trivial, by simp, rfl, rfl⟩, ?_⟩
      (conv => whnf)
      refine ⟨by rw [hn]; exact ⟨by decide, by omega, by simp [tab, tabOf, nth]; omega, by omega⟩, ?_⟩
      (conv => whnf)
      refine ⟨rfl, .own, ⟨trivial, by simp, by simp, by simp⟩, ?_⟩
      (conv => whnf)
      refine ⟨_, _, _, Ends.here, ?_⟩
      (conv => whnf)
      intro _
      (conv => whnf)
      refine vcg_loop tab_ok mixed (fun i : {i : Nat // i ≤ 2} => ⟨[(6, .osl 0 1 0 (catLen l1 l2 i.1)), (25, pairV fr l1 v2), (26, .int .i64 2), (27, cI i.1)], [(0, some (.arr true false 24 1 (catR (List.replicate (l1.length + l2.length) [.int .u32 0]) l1 l2 i.1)))], 1⟩) (fun i => 2 - i.1) ⟨0, by omega⟩ (Wk.of id [] ⟨.osl_of rfl (by omega) rfl, .free (pairV_free h2), .int_of rfl, .int_of rfl, trivial⟩ (LeH.of ⟨⟨by omega, .inl ⟨by simp, _, rfl, (LeB.eq_of (by simp only [hn, Int.toNat_natCast]; rfl) (by exact zeros_free _))⟩⟩, trivial⟩ (fun _ _ _ _ h => h) (fun _ _ => rfl) (by omega) (by simp))) (fun i => ?_)
      obtain ⟨i, hi⟩ := i
      rcases i with _ | _ | _ | i
      case succ.succ.succ => omega
      case zero =>
        (conv => whnf)
        refine ⟨rfl, _, ⟨by simp, rfl⟩, ?_⟩
        (conv => whnf)
        refine ⟨⟨rfl, rfl, rfl, rfl, by decide⟩, by simp [catLen], ⟨by simp [tab, tabOf, nth, catLen]; omega, by simp [catLen]; omega⟩, ?_⟩
        (conv => whnf)
        refine ⟨⟨1, by omega⟩, Wk.of (renOf [(0, 1)]) [] ⟨.osl_of rfl (by omega) (by simp [catLen]), .free (pairV_free h2), .int_of rfl, .int_of rfl, trivial⟩ (LeH.of ⟨⟨by omega, .inl ⟨by simp, _, rfl, LeB.eq_of ?_ (by exact rowsW_free l1)⟩⟩, trivial⟩ (show ∀ b ∈ [0], ∀ b' ∈ [0], renOf [(0, 1)] b = renOf [(0, 1)] b' → b = b' by decide) (show ∀ b, b < 0 → renOf [(0, 1)] b = b by decide) (by omega) (by simp)), by simp only; omega⟩
        simp [catR, catLen]
      case succ.zero =>
        (conv => whnf)
        refine ⟨rfl, _, ⟨by simp, rfl⟩, ?_⟩
        (conv => whnf)
        have h2' := h2
        rcases h2' with h | ⟨h, h0⟩
        · rw [h]
          (conv => whnf)
          refine ⟨⟨rfl, rfl, rfl, rfl, by decide⟩, by simp [catLen, catR], ⟨by simp [tab, tabOf, nth, catLen]; omega, by simp [catLen]; omega⟩, ?_⟩
          (conv => whnf)
          refine ⟨⟨2, by omega⟩, Wk.of (renOf [(0, 1)]) [] ⟨.osl_of rfl (by omega) (by simp [catLen]), h ▸ .free (pairV_free h2), .int_of rfl, .int_of rfl, trivial⟩ (LeH.of ⟨⟨by omega, .inl ⟨by simp, _, rfl, LeB.eq_of ?_ (rowsW_free (l1 ++ l2))⟩⟩, trivial⟩ (show ∀ b ∈ [0], ∀ b' ∈ [0], renOf [(0, 1)] b = renOf [(0, 1)] b' → b = b' by decide) (show ∀ b, b < 0 → renOf [(0, 1)] b = b by decide) (by omega) (by simp)), by simp only; omega⟩
          simp [catR, catLen]
          exact List.take_of_length_le (by simp)
        · rw [h]
          (conv => whnf)
          refine ⟨_, ⟨rfl, rfl, rfl, rfl, by decide⟩, by simp [catLen, catR], ⟨by simp [tab, tabOf, nth, catLen]; omega, by simp [catLen]; omega⟩, ?_⟩
          (conv => whnf)
          refine ⟨⟨2, by omega⟩, Wk.of (renOf [(0, 1)]) [] ⟨.osl_of rfl (by omega) (by simp [catLen, h0]), h ▸ .free (pairV_free h2), .int_of rfl, .int_of rfl, trivial⟩ (LeH.of ⟨⟨by omega, .inl ⟨by simp, _, rfl, LeB.eq_of ?_ (rowsW_free (l1 ++ l2))⟩⟩, trivial⟩ (show ∀ b ∈ [0], ∀ b' ∈ [0], renOf [(0, 1)] b = renOf [(0, 1)] b' → b = b' by decide) (show ∀ b, b < 0 → renOf [(0, 1)] b = b by decide) (by omega) (by simp)), by simp only; omega⟩
          simp [catR, catLen, h0]
          exact List.take_of_length_le (by simp)
      case succ.succ.zero =>
        (conv => whnf)
        refine Ends.pure [0] (LeV.freeze_of (by simp) rfl (by simp [catLen, catR]) (rowsW_free (l1 ++ l2)) ?_) (one_none rfl)
        simp [catLen, catR]
        exact List.take_of_length_le (by simp)
    · rename_i hc
      have h0 : l1.length + l2.length = 0 := by rw [hn] at hc; simp at hc; omega
      (conv => whnf)
      refine ⟨_, _, _, Ends.here, ?_⟩
      (conv => whnf)
      intro _
      (conv => whnf)
      refine vcg_loop tab_ok mixed (fun i : {i : Nat // i ≤ 2} => ⟨[(6, .osl 0 1 0 0), (25, pairV fr l1 v2), (26, .int .i64 2), (27, cI i.1)], [(0, some (.arr true false 24 1 []))], 1⟩) (fun i => 2 - i.1) ⟨0, by omega⟩ (Wk.of id [] ⟨.osl0, .free (pairV_free h2), .int_of rfl, .int_of rfl, trivial⟩ (LeH.of ⟨⟨by omega, .inr ⟨by simp, _, _, _, _, rfl⟩⟩, trivial⟩ (fun _ _ _ _ h => h) (fun _ _ => rfl) (by omega) (by simp))) (fun i => ?_)
      obtain rfl : l1 = [] := List.eq_nil_of_length_eq_zero (by omega)
      obtain rfl : l2 = [] := List.eq_nil_of_length_eq_zero (by omega)
      obtain ⟨i, hi⟩ := i
      rcases i with _ | _ | _ | i
      case succ.succ.succ => omega
      case zero =>
        (conv => whnf)
        refine ⟨rfl, _, ⟨by simp, rfl⟩, ?_⟩
        (conv => whnf)
        refine ⟨⟨rfl, rfl, rfl, rfl, by decide⟩, by simp, ⟨by simp [tab, tabOf, nth], by simp⟩, ?_⟩
        (conv => whnf)
        refine ⟨⟨1, by omega⟩, Wk.of (renOf [(0, 1)]) [] ⟨.osl_of rfl (by omega) (by simp), .free (pairV_free h2), .int_of rfl, .int_of rfl, trivial⟩ (LeH.of ⟨⟨by omega, .inl ⟨by simp, _, rfl, LeB.eq_of rfl (by intro x hx; simp at hx)⟩⟩, trivial⟩ (show ∀ b ∈ [0], ∀ b' ∈ [0], renOf [(0, 1)] b = renOf [(0, 1)] b' → b = b' by decide) (show ∀ b, b < 0 → renOf [(0, 1)] b = b by decide) (by omega) (by simp)), by simp only; omega⟩
      case succ.zero =>
        (conv => whnf)
        refine ⟨rfl, _, ⟨by simp, rfl⟩, ?_⟩
        (conv => whnf)
        have h2' := h2
        rcases h2' with h | ⟨h, h0⟩
        · rw [h]
          (conv => whnf)
          refine ⟨⟨rfl, rfl, rfl, rfl, by decide⟩, by simp, ⟨by simp [tab, tabOf, nth], by simp⟩, ?_⟩
          (conv => whnf)
          refine ⟨⟨2, by omega⟩, Wk.of (renOf [(0, 1)]) [] ⟨.osl_of rfl (by omega) (by simp), h ▸ .free (pairV_free h2), .int_of rfl, .int_of rfl, trivial⟩ (LeH.of ⟨⟨by omega, .inl ⟨by simp, _, rfl, LeB.eq_of rfl (by intro x hx; simp at hx)⟩⟩, trivial⟩ (show ∀ b ∈ [0], ∀ b' ∈ [0], renOf [(0, 1)] b = renOf [(0, 1)] b' → b = b' by decide) (show ∀ b, b < 0 → renOf [(0, 1)] b = b by decide) (by omega) (by simp)), by simp only; omega⟩
        · rw [h]
          (conv => whnf)
          refine ⟨_, ⟨rfl, rfl, rfl, rfl, by decide⟩, by simp, ⟨by simp [tab, tabOf, nth], by simp⟩, ?_⟩
          (conv => whnf)
          refine ⟨⟨2, by omega⟩, Wk.of (renOf [(0, 1)]) [] ⟨.osl_of rfl (by omega) (by simp), h ▸ .free (pairV_free h2), .int_of rfl, .int_of rfl, trivial⟩ (LeH.of ⟨⟨by omega, .inl ⟨by simp, _, rfl, LeB.eq_of rfl (by intro x hx; simp at hx)⟩⟩, trivial⟩ (show ∀ b ∈ [0], ∀ b' ∈ [0], renOf [(0, 1)] b = renOf [(0, 1)] b' → b = b' by decide) (show ∀ b, b < 0 → renOf [(0, 1)] b = b by decide) (by omega) (by simp)), by simp only; omega⟩
      case succ.succ.zero =>
        (conv => whnf)
        exact Ends.pure [0] (LeV.freeze_of (by simp) rfl (by simp) (by intro x hx; simp at hx) rfl) (one_none rfl)
end Go.Proofs.YtfaglgoanmcifaaGreat
namespace Go.Proofs.YtfaglgoanmcifaaGreat
open Go.RowKit
open Go.Proofs.Tryz (prog)
attribute [local irreducible] CallV RoundV
def noA : Attrs := ⟨0, [], 0, false, 0, false, 0, []⟩
theorem LeV.noA {h : Heap} {nx nx' : Nat} {ρ : Nat → Nat} {Z : List Nat} {fr : Bool} : LeV h nx ρ nx' Z (.agg zeroA) (encA fr noA) :=
  .aggL ⟨.free .int, .snil_sl, .free .int, .free .bool, .free .int, .free .bool, .free .int, .snil_sl, trivial⟩
end Go.Proofs.YtfaglgoanmcifaaGreat
namespace Go.Proofs.YtfaglgoanmcifaaGreat
open Go.RowKit
open Go.Proofs.Tryz (prog)
attribute [local irreducible] CallV RoundV
def nineA : Attrs := ⟨0, [], 9, false, 0, false, 0, []⟩
def nineV : V := .agg [.int .u8 0, .snil, .int .u32 9, .bool false, .int .u32 0, .bool false, .int .u32 0, .snil]
theorem LeV.nineA {h : Heap} {nx nx' : Nat} {ρ : Nat → Nat} {Z : List Nat} {fr : Bool} : LeV h nx ρ nx' Z nineV (encA fr nineA) :=
  .aggL ⟨.free .int, .snil_sl, .int_of rfl, .free .bool, .free .int, .free .bool, .free .int, .snil_sl, trivial⟩
theorem Ends.ownNil {s : St} {sz : Nat} {fr ex : Bool} {ty : TypeId} : ∃ v1 h' nx', Ends 0 s .snil v1 h' nx' ∧ (v1 = .osl 0 sz 0 0 ∧ h' = [(0, some (.arr fr ex ty sz []))] ∧ nx' = 1) :=
  ⟨.osl 0 sz 0 0, [(0, some (.arr fr ex ty sz []))], 1, Ends.of (fun _ => s.nx) [] .osl0 (LeH.of ⟨⟨by omega, .inr ⟨by simp, _, _, _, _, rfl⟩⟩, trivial⟩ (by simp) (fun b hb => by omega) (by omega) (by simp)), rfl, rfl, rfl⟩
set_option maxRecDepth 100000 in
theorem cloneW_ok (fr : Bool) (v : V) (l : List UInt32) (h : IsW fr v l) (hl : l.length ≤ 1000000) : OCon prog 79 [v] true false 24 1 l.length (rowsW l) := by
  rcases h with rfl | ⟨rfl, rfl⟩
  · rcases l with _ | ⟨x, l⟩
    · refine callV_of (fn := Go.Proofs.Tryz.f79) (body := _) tab_ok mixed rfl rfl (by decide) (by simp [Go.Proofs.Tryz.f79]) ?_
      (conv => whnf)
      refine ⟨?_, ?_⟩
      · (conv => whnf)
        exact Ends.ownNil
      · (conv => whnf)
        refine ⟨⟨rfl, rfl, rfl, rfl, by decide⟩, by simp, ⟨by simp [tab, tabOf, nth], by simp⟩, ?_⟩
        (conv => whnf)
        exact Ends.own rfl (rowsW_free []) rfl rfl
    · refine callV_of (fn := Go.Proofs.Tryz.f79) (body := _) tab_ok mixed rfl rfl (by decide) (by simp [Go.Proofs.Tryz.f79]) ?_
      (conv => whnf)
      refine ⟨⟨rfl, rfl, rfl, rfl, by decide⟩, by simp, ⟨by simp [tab, tabOf, nth] at *; omega, by simp at *; omega⟩, ?_⟩
      (conv => whnf)
      exact Ends.own rfl (rowsW_free (x :: l)) (by simp) rfl
  · refine callV_of (fn := Go.Proofs.Tryz.f79) (body := _) tab_ok mixed rfl rfl (by decide) (by simp [Go.Proofs.Tryz.f79]) ?_
    (conv => whnf)
    refine ⟨?_, ?_⟩
    · (conv => whnf)
      exact Ends.ownNil
    · (conv => whnf)
      refine ⟨_, ⟨rfl, rfl, rfl, rfl, by decide⟩, by simp, ⟨by simp [tab, tabOf, nth], by simp⟩, ?_⟩
      (conv => whnf)
      exact Ends.own rfl (rowsW_free []) rfl rfl
theorem Less.encW {l : List UInt32} : Less (encW true l) (encW false l) := .sl (by simp) rfl fun j v v' h1 h2 => by rw [h1] at h2; cases h2; exact Less.refl _
theorem Less.pair {l1 : List UInt32} {v2 v2' : V} (h : Less v2 v2') : Less (pairV true l1 v2) (pairV false l1 v2') := .sl (by simp) rfl fun j v v' h1 h2 => by
  rcases j with _ | _ | j
  · simp at h1 h2; subst h1; subst h2; exact .encW
  · simp at h1 h2; subst h1; subst h2; exact h
  · simp at h1
theorem legs_less : ∀ (l : List Leg) (j : Nat) (v v' : V), (l.map (encLeg true)).flatten[j]? = some v → (l.map (encLeg false)).flatten[j]? = some v' → Less v v'
  | [], j, v, v', h1, h2 => by simp at h1
  | p :: l, j, v, v', h1, h2 => by
    rcases j with _ | _ | j
    · simp [encLeg] at h1 h2; subst h1; subst h2; exact Less.refl _
    · simp [encLeg] at h1 h2; subst h1; subst h2; exact .encW
    · simp [encLeg] at h1 h2
      exact legs_less l j v v' (by simpa [encLeg] using h1) (by simpa [encLeg] using h2)
theorem Less.legs {l : List Leg} : Less (encLegs true l) (encLegs false l) := .sl (by simp) (by rw [List.map_map, List.map_map]; rfl) (legs_less l)
theorem pairV_cold {l1 l2 : List UInt32} {v2 : V} (h : IsW false v2 l2) : Cold (pairV false l1 v2) := .sl (by
  intro x hx v hv
  simp at hx
  rcases hx with rfl | rfl
  · simp at hv; subst hv; exact encW_cold _
  · simp at hv; subst hv; exact h.cold)
theorem encW_rows_free {vs : List V} (h : ∀ v ∈ vs, Free v) : ∀ x ∈ vs.map (fun v => [v]), ∀ v ∈ x, Free v := by
  intro x hx v hv
  obtain ⟨y, hy, rfl⟩ := List.mem_map.1 hx
  simp at hv; subst hv; exact h _ hy
end Go.Proofs.YtfaglgoanmcifaaGreat
namespace Go.Proofs.YtfaglgoanmcifaaGreat
open Go.RowKit
open Go.Proofs.Tryz (prog)
attribute [local irreducible] CallV RoundV
theorem sameA_refl (a : Attrs) : sameA a a = true := by
  simp [sameA]
end Go.Proofs.YtfaglgoanmcifaaGreat
namespace Go.Proofs.YtfaglgoanmcifaaGreat
open Go.RowKit
def legs (v : List UInt8) : Option (List (UInt8 × List UInt32)) :=
  match v with
  | [] => some []
  | [_] => none
  | x :: n :: r => if r.length < 4 * n.toNat then none else (legs (r.drop (4 * n.toNat))).map ((x, numsK r n.toNat) :: ·)
termination_by v.length
decreasing_by simp; omega
def kindOk (x : UInt8) : Bool := x == 1 || x == 2
def legOf (p : UInt8 × List UInt32) : Leg := ⟨p.1 == 1, p.2⟩
def pathE (v : List UInt8) : Int := match legs v with
  | none => 294
  | some l => if l.all (fun p => kindOk p.1) && pathOk (l.map legOf) then 0 else 296
def pathA (v : List UInt8) : List Leg := match legs v with
  | none => []
  | some l => l.map legOf
def lowE (c : Nat) (v : List UInt8) : Int :=
  if c = 1 then (if v.length ≠ 1 then 294 else if 2 < (v.getD 0 0).toNat then 295 else 0)
  else if c = 2 then pathE v
  else if c = 3 then (if v.length ≠ 4 then 294 else if wordOf v = 0 then 297 else 0)
  else if c = 4 then (if v.length ≠ 4 then 294 else 0)
  else if c = 5 then (if v.length ≠ 4 then 294 else 0)
  else (if v.length = 0 ∨ v.length % 4 ≠ 0 then 294 else if 16 < v.length / 4 ∨ rises (numsK v (v.length / 4)) = false then 298 else 0)
def lowA (c : Nat) (a : Attrs) (v : List UInt8) : Attrs :=
  if c = 1 then { a with origin := v.getD 0 0 }
  else if c = 2 then { a with path := pathA v }
  else if c = 3 then { a with next := wordOf v }
  else if c = 4 then { a with hasMed := true, med := wordOf v }
  else if c = 5 then { a with hasPref := true, pref := wordOf v }
  else { a with tags := numsK v (v.length / 4) }
def flagsI (c : Nat) : Int := if c = 1 then 64 else if c = 2 then 64 else if c = 3 then 64 else if c = 5 then 64 else if c = 4 then 128 else if c = 8 then 192 else -1
def byteN (b : List UInt8) (i : Nat) : Nat := (b.getD i 0).toNat
theorem byteN_lt (b : List UInt8) (i : Nat) : byteN b i < 256 := (b.getD i 0).toNat_lt
def lngB (b : List UInt8) : Bool := byteN b 0 / 16 % 2 == 1
def numB (b : List UInt8) : Nat := if lngB b then 256 * byteN b 2 + byteN b 3 else byteN b 2
def atB (b : List UInt8) : Nat := if lngB b then 4 else 3
def headE (b : List UInt8) (last : Nat) : Int :=
  if b.length < 3 then 290
  else if lngB b = true ∧ b.length < 4 then 290
  else if b.length < atB b + numB b then 290
  else if flagsI (byteN b 1) < 0 then 291
  else if (byteN b 0 : Int) - (if lngB b then 16 else 0) ≠ flagsI (byteN b 1) ∨ lngB b ≠ decide (255 < numB b) then 292
  else if byteN b 1 ≤ last then 293 else 0
def valB (b : List UInt8) : List UInt8 := (b.drop (atB b)).take (numB b)
def restB (b : List UInt8) : List UInt8 := b.drop (atB b + numB b)
theorem restB_lt {b : List UInt8} (h : b ≠ []) : (restB b).length < b.length := by
  have h0 := List.length_pos_iff.2 h
  have : 3 ≤ atB b := by unfold atB; split <;> omega
  simp only [restB, List.length_drop]
  omega
def parseA (b : List UInt8) (last seen : Nat) (a : Attrs) : Attrs × Int :=
  if hb : b = [] then (if seen = 3 then (a, 0) else (noA, 299))
  else if headE b last ≠ 0 then (noA, headE b last)
  else if lowE (byteN b 1) (valB b) ≠ 0 then (noA, lowE (byteN b 1) (valB b))
  else parseA (restB b) (byteN b 1) (if byteN b 1 ≤ 3 then seen + 1 else seen) (lowA (byteN b 1) a (valB b))
termination_by b.length
decreasing_by exact restB_lt hb
theorem parseA_go {b : List UInt8} {last seen : Nat} {a : Attrs} (hb : b ≠ []) (h : headE b last = 0) (h2 : lowE (byteN b 1) (valB b) = 0) :
    parseA b last seen a = parseA (restB b) (byteN b 1) (if byteN b 1 ≤ 3 then seen + 1 else seen) (lowA (byteN b 1) a (valB b)) := by
  rw [parseA, dif_neg hb, if_neg (by simp [h]), if_neg (by simp [h2])]
end Go.Proofs.YtfaglgoanmcifaaGreat
namespace Go.Proofs.YtfaglgoanmcifaaGreat
open Go.RowKit
open Go.Proofs.Tryz (prog)
attribute [local irreducible] CallV RoundV
def oneE (b : List UInt8) (last : Nat) : Int := if headE b last ≠ 0 then headE b last else lowE (byteN b 1) (valB b)
theorem LeL.of_eq {h : Heap} {nx : Nat} {ρ : Nat → Nat} {nx' : Nat} {Z : List Nat} {cs cs' : List V} (e : cs = cs') (hf : ∀ v ∈ cs', Free v) : LeL h nx ρ nx' Z cs cs' := by subst e; exact LeL.free hf
end Go.Proofs.YtfaglgoanmcifaaGreat
namespace Go.Proofs.YtfaglgoanmcifaaGreat
open Go.RowKit
open Go.Proofs.Tryz (prog)
attribute [local irreducible] CallV RoundV
structure At (b : List UInt8) where
  rest : List UInt8
  last : Nat
  seen : Nat
  q : Bool
  a : Attrs
  law : parseA b 0 0 noA = parseA rest last seen a
  lim : last < 256
  cnt : seen + rest.length ≤ b.length
  nop : last < 2 → q = false
  nil : q = false → a.path = []
theorem oneE_zero {b : List UInt8} {last : Nat} (h : oneE b last = 0) : headE b last = 0 ∧ lowE (byteN b 1) (valB b) = 0 := by
  unfold oneE at h
  split at h
  · rename_i h1; exact absurd h h1
  · rename_i h1; exact ⟨by simpa using h1, h⟩
def At.next {b : List UInt8} (k : At b) (hb : k.rest ≠ []) (h : oneE k.rest k.last = 0) : At b where
  rest := restB k.rest
  last := byteN k.rest 1
  seen := if byteN k.rest 1 ≤ 3 then k.seen + 1 else k.seen
  q := k.q || byteN k.rest 1 == 2
  a := lowA (byteN k.rest 1) k.a (valB k.rest)
  law := k.law.trans (parseA_go hb (oneE_zero h).1 (oneE_zero h).2)
  lim := byteN_lt _ _
  cnt := by
    have := restB_lt hb
    have := k.cnt
    split <;> omega
  nop := fun hl => by
    have h1 : ¬ byteN k.rest 1 ≤ k.last := by
      have := (oneE_zero h).1
      unfold headE at this
      intro hle
      rw [if_pos hle] at this
      revert this
      repeat' split
      all_goals decide
    have h2 : k.q = false := k.nop (by omega)
    have h3 : (byteN k.rest 1 == 2) = false := by simp; omega
    rw [h2, h3]; rfl
  nil := fun hq => by
    have h1 : k.q = false := by cases hk : k.q with | false => rfl | true => rw [hk] at hq; cases hq
    have h2 : byteN k.rest 1 ≠ 2 := by intro e; rw [h1, e] at hq; cases hq
    have h3 := k.nil h1
    unfold lowA
    repeat' split
    all_goals first | exact h3 | contradiction
end Go.Proofs.YtfaglgoanmcifaaGreat
namespace Go.Proofs.YtfaglgoanmcifaaGreat
open Go.RowKit
open Go.Proofs.Tryz (prog)
attribute [local irreducible] CallV RoundV
theorem rawA_len {a : Attrs} (hf : fewA a = true) : (rawA a).length ≤ 20000 := by
  obtain ⟨hp, hpl, htl⟩ := fewA_out hf
  have hpb := pathB_len hp
  have al : ∀ {f c : UInt8} {v : List UInt8}, (attrB f c v).length ≤ 4 + v.length := fun {f c v} => by unfold attrB; split <;> simp <;> omega
  have h1 := al (f := 64) (c := 1) (v := [a.origin])
  have h2 := al (f := 64) (c := 2) (v := pathB a.path)
  have h3 := al (f := 64) (c := 3) (v := fourB a.next)
  have h4 : (if a.hasMed then attrB 128 4 (fourB a.med) else []).length ≤ 8 := by
    split
    · exact al
    · simp
  have h5 : (if a.hasPref then attrB 64 5 (fourB a.pref) else []).length ≤ 8 := by
    split
    · exact al
    · simp
  have h6 : (if 0 < a.tags.length then attrB 192 8 (allB a.tags) else []).length ≤ 244 := by
    split
    · have := al (f := 192) (c := 8) (v := allB a.tags)
      rw [allB_len] at this
      omega
    · simp
  have e3 : (fourB a.next).length = 4 := rfl
  have e1 : ([a.origin] : List UInt8).length = 1 := rfl
  simp only [rawA, rawO, List.length_append]
  omega
end Go.Proofs.YtfaglgoanmcifaaGreat
namespace Go.Proofs.YtfaglgoanmcifaaGreat
open Go.RowKit
open Go.Proofs.Tryz (prog)
attribute [local irreducible] CallV RoundV
theorem less_encW (fr : Bool) {l : List UInt32} : Less (encW fr l) (encW false l) := by
  cases fr with
  | true => exact .encW
  | false => exact .refl _
theorem rowsW_ff (b : List UInt32) : ∀ x ∈ rowsW b, ∀ v ∈ x, Free v ∧ Fresh v := by
  intro x hx v hv
  obtain ⟨y, _, rfl⟩ := List.mem_map.1 hx
  simp at hv; subst hv; exact ⟨.int, .int⟩
def ownA (a : Attrs) (b : Nat) : V := .agg [cB a.origin, .osl b 2 0 a.path.length, cW a.next, .bool a.hasMed, cW a.med, .bool a.hasPref, cW a.pref, encW true a.tags]
def ownT (a : Attrs) (b : Nat) : V := .agg [cB a.origin, encLegs true a.path, cW a.next, .bool a.hasMed, cW a.med, .bool a.hasPref, cW a.pref, .osl b 1 0 a.tags.length]
def rawC (a : Attrs) : V := .agg [cB a.origin, .osl 0 2 0 a.path.length, cW a.next, .bool a.hasMed, cW a.med, .bool a.hasPref, cW a.pref, .osl 1 1 0 a.tags.length]
theorem ownT_mov (a : Attrs) : Mov (ownT a) := by
  refine Mov.agg (cs := [fun _ => cB a.origin, fun _ => encLegs true a.path, fun _ => cW a.next, fun _ => .bool a.hasMed, fun _ => cW a.med, fun _ => .bool a.hasPref, fun _ => cW a.pref, fun b => .osl b 1 0 a.tags.length]) ?_
  intro c hc
  simp only [List.mem_cons, List.not_mem_nil, or_false] at hc
  rcases hc with rfl | rfl | rfl | rfl | rfl | rfl | rfl | rfl
  · exact .const .int .int
  · exact .const (encLegs_free _ _) (encLegs_fresh _)
  · exact .const .int .int
  · exact .const .bool .bool
  · exact .const .int .int
  · exact .const .bool .bool
  · exact .const .int .int
  · exact .osl
theorem ownA_mov (a : Attrs) : Mov (ownA a) := by
  refine Mov.agg (cs := [fun _ => cB a.origin, fun b => .osl b 2 0 a.path.length, fun _ => cW a.next, fun _ => .bool a.hasMed, fun _ => cW a.med, fun _ => .bool a.hasPref, fun _ => cW a.pref, fun _ => encW true a.tags]) ?_
  intro c hc
  simp only [List.mem_cons, List.not_mem_nil, or_false] at hc
  rcases hc with rfl | rfl | rfl | rfl | rfl | rfl | rfl | rfl
  · exact .const .int .int
  · exact .osl
  · exact .const .int .int
  · exact .const .bool .bool
  · exact .const .int .int
  · exact .const .bool .bool
  · exact .const .int .int
  · exact .const (encW_free _ _) (encW_fresh _)
set_option maxRecDepth 100000 in
theorem cloneL_ok (fr : Bool) (l : List Leg) (hl : l.length ≤ 1000) : OCon prog 78 [encLegs fr l] true false 88 2 l.length (l.map (encLeg fr)) := by
  rcases l with _ | ⟨x, l⟩
  · refine callV_of (fn := Go.Proofs.Tryz.f78) (body := _) tab_ok mixed rfl rfl (by decide) (by simp [Go.Proofs.Tryz.f78]) ?_
    (conv => whnf)
    refine ⟨?_, ?_⟩
    · (conv => whnf)
      exact Ends.ownNil
    · (conv => whnf)
      refine ⟨⟨rfl, rfl, rfl, rfl, by decide⟩, by simp, ⟨by simp [tab, tabOf, nth], by simp⟩, ?_⟩
      (conv => whnf)
      exact Ends.own rfl (by simp) rfl rfl
  · refine callV_of (fn := Go.Proofs.Tryz.f78) (body := _) tab_ok mixed rfl rfl (by decide) (by simp [Go.Proofs.Tryz.f78]) ?_
    (conv => whnf)
    refine ⟨⟨rfl, rfl, rfl, rfl, by decide⟩, by simp, ⟨by simp [tab, tabOf, nth] at *; omega, by simp at *; omega⟩, ?_⟩
    (conv => whnf)
    exact Ends.own rfl (rowsLegs_free fr (x :: l)) (by simp) rfl
set_option maxRecDepth 100000 in
theorem copy_raw (fr : Bool) (a : Attrs) (hpl : a.path.length ≤ 1000) (hp : ∀ p ∈ a.path, p.ns.length ≤ 1000) (htl : a.tags.length ≤ 1000) : CallV prog 40 [encA fr a] [] 0 (fun v h' nx' => v = rawC a ∧ h' = [(0, some (.arr true false 88 2 (a.path.map (encLeg true)))), (1, some (.arr true false 24 1 (rowsW a.tags)))] ∧ nx' = 2) := by
  have cell : ∀ {fr0 : Bool} {x : Attrs}, FreeB (.var true 27 (cellsA fr0 x)) := fun {fr0 x} => cellsA_free fr0 x
  refine callV_of (fn := Go.Proofs.Tryz.f40) (body := _) tab_ok mixed rfl rfl (by decide) (by simp [Go.Proofs.Tryz.f40]) ?_
  (conv => whnf)
  refine callV_own0 (nx := 2) (cloneL_ok fr a.path hpl) ⟨.free (encLegs_free _ _), trivial⟩ (rowsLegs_free _ _) ?_
  (conv => whnf)
  intro _
  (conv => whnf)
  refine vcg_loop tab_ok mixed (fun i : {i : Nat // i ≤ a.path.length} => ⟨[(1, .ptr 0 0), (2, .ptr 1 0), (3, .osl 2 2 0 a.path.length), (9, cI a.path.length), (10, cI i.1)], [(0, some (.var true 27 (cellsA fr a))), (1, some (.var true 27 zeroA)), (2, some (.arr true false 88 2 (rowsAt fr a.path i.1)))], 3⟩) (fun i => a.path.length - i.1) ⟨0, by omega⟩ ?_ (fun i => ?_)
  · refine Wk.of id [] ⟨.ptr rfl (by omega), .ptr rfl (by omega), .osl rfl (by omega), .int_of rfl, .int_of rfl, trivial⟩ (LeH.of ⟨⟨by omega, .inl ⟨by simp, _, rfl, LeB.free cell⟩⟩, ⟨by omega, .inl ⟨by simp, _, rfl, LeB.free zeroA_free⟩⟩, ⟨by omega, .inl ⟨by simp, _, rfl, LeB.eq_of (by simp [rowsAt]) (rowsAt_free _ _ _)⟩⟩, trivial⟩ (fun _ _ _ _ h => h) (fun _ _ => rfl) (by omega) (by simp))
  obtain ⟨i, hi⟩ := i
  (conv => whnf)
  split
  · rename_i hc
    have hc : i < a.path.length := by simpa using hc
    have hpi := hp a.path[i] (List.getElem_mem hc)
    have hget : (rowsAt fr a.path i)[0 + (i : Int).toNat]? = some (encLeg fr a.path[i]) := by simpa using rowsAt_get hc
    (conv => whnf)
    refine ⟨rfl, ⟨by simp only; omega, by simp only; omega⟩, ?_⟩
    (conv => whnf)
    refine ⟨rfl, encLeg fr a.path[i], hget, ?_⟩
    (conv => whnf)
    refine callV_own (nx := 3) [] (cloneW_ok false _ a.path[i].ns (.inl rfl) (by omega)) ⟨.less (.free (encW_free fr _)) (less_encW fr), trivial⟩ (by intro v hv; simp at hv; subst hv; exact encW_cold _) (by simp) (rowsW_ff _) ?_
    (conv => whnf)
    refine ⟨rfl, ⟨by simp only; omega, by simp only; omega⟩, ?_⟩
    (conv => whnf)
    refine ⟨rfl, encLeg fr a.path[i], hget, ?_⟩
    (conv => whnf)
    refine ⟨⟨i + 1, by omega⟩, Wk.of id [3] ⟨.ptr rfl (by omega), .ptr rfl (by omega), .osl rfl (by omega), .int_of rfl, .int_of (wrap64_succ hc (show a.path.length ≤ maxLen by unfold maxLen; omega)), trivial⟩ (LeH.of ⟨⟨by omega, .inl ⟨by simp, _, rfl, LeB.free cell⟩⟩, ⟨by omega, .inl ⟨by simp, _, rfl, LeB.free zeroA_free⟩⟩, ⟨by omega, .inl ⟨by simp, _, rfl, ?_⟩⟩, trivial⟩ (fun _ _ _ _ h => h) (fun _ _ => rfl) (by omega) (fun z hz => by obtain rfl := List.mem_singleton.1 hz; exact ne_none_of rfl)), by simp only; omega⟩
    simp only
    rw [rowsAt_succ hc]
    simp only [Nat.zero_add, Int.toNat_natCast]
    refine LeB.set (rowsAt_free _ _ _) ⟨.free .bool, ?_, trivial⟩
    refine LeV.freeze_of (by simp) rfl (by simp) (rowsW_free _) ?_
    exact List.take_of_length_le (by simp)
  · rename_i hc
    have hc : i = a.path.length := by simp at hc; omega
    subst hc
    (conv => whnf)
    refine callV_own (nx := 3) [] (cloneW_ok false _ a.tags (.inl rfl) (by omega)) ⟨.less (.free (encW_free fr _)) (less_encW fr), trivial⟩ (by intro v hv; simp at hv; subst hv; exact encW_cold _) (by simp) (rowsW_ff _) ?_
    (conv => whnf)
    refine ⟨rawC a, _, 2, Ends.of (fun b => b + 2) [] (.aggL ⟨.free .int, .osl rfl (by omega), .free .int, .free .bool, .free .int, .free .bool, .free .int, .osl rfl (by omega), trivial⟩) (LeH.of (h' := [(0, some (.arr true false 88 2 (a.path.map (encLeg true)))), (1, some (.arr true false 24 1 (rowsW a.tags)))]) ⟨⟨by omega, .inl ⟨by simp, _, rfl, LeB.eq_of ?_ (rowsLegs_free _ _)⟩⟩, ⟨by omega, .inl ⟨by simp, _, rfl, LeB.free (rowsW_free _)⟩⟩, trivial⟩ (by simp) (fun b hb => by omega) (by omega) (by simp)), rfl, rfl, rfl⟩
    simp only [rowsAt_all]
theorem copy_ok (fr : Bool) (a : Attrs) (hpl : a.path.length ≤ 1000) (hp : ∀ p ∈ a.path, p.ns.length ≤ 1000) (htl : a.tags.length ≤ 1000) : VCon prog 40 [encA fr a] (ownA a) (.arr true false 88 2 (a.path.map (encLeg true))) :=
  (copy_raw fr a hpl hp htl).ends fun v h' nx' ⟨e1, e2, e3⟩ => by
    subst e1 e2 e3
    exact ⟨ownA a 0, _, 1, Ends.of id [1] (.aggL ⟨.free .int, .osl rfl (by omega), .free .int, .free .bool, .free .int, .free .bool, .free .int, LeV.freeze_of (by simp) rfl (by simp) (rowsW_free _) (List.take_of_length_le (by simp)), trivial⟩) (LeH.of (h' := [(0, some (.arr true false 88 2 (a.path.map (encLeg true))))]) ⟨⟨by omega, .inl ⟨by simp, _, rfl, LeB.free (rowsLegs_free _ _)⟩⟩, trivial⟩ (by simp) (fun b hb => by omega) (by omega) (one_none rfl)), rfl, rfl, rfl⟩
theorem copyT_ok (fr : Bool) (a : Attrs) (hpl : a.path.length ≤ 1000) (hp : ∀ p ∈ a.path, p.ns.length ≤ 1000) (htl : a.tags.length ≤ 1000) : VCon prog 40 [encA fr a] (ownT a) (.arr true false 24 1 (rowsW a.tags)) :=
  (copy_raw fr a hpl hp htl).ends fun v h' nx' ⟨e1, e2, e3⟩ => by
    subst e1 e2 e3
    exact ⟨ownT a 0, _, 1, Ends.of (fun _ => 1) [0] (.aggL ⟨.free .int, LeV.freeze_of (by simp) rfl (by simp) (rowsLegs_free _ _) (List.take_of_length_le (by simp)), .free .int, .free .bool, .free .int, .free .bool, .free .int, .osl rfl (by omega), trivial⟩) (LeH.of (h' := [(0, some (.arr true false 24 1 (rowsW a.tags)))]) ⟨⟨by omega, .inl ⟨by simp, _, rfl, LeB.free (rowsW_free _)⟩⟩, trivial⟩ (by simp) (fun b hb => by omega) (by omega) (one_none rfl)), rfl, rfl, rfl⟩
theorem ownA_freeze {h : Heap} {nx nx' b : Nat} {ρ : Nat → Nat} {Z : List Nat} {fr ex : Bool} {a : Attrs} (hz : b ∈ Z) (hb : hget h b = some (.arr true ex 88 2 (a.path.map (encLeg true)))) : LeV h nx ρ nx' Z (ownA a b) (encA true a) :=
  .aggL ⟨.free .int, LeV.freeze_of hz hb (by simp) (rowsLegs_free _ _) (List.take_of_length_le (by simp)), .free .int, .free .bool, .free .int, .free .bool, .free .int, .free (encW_free _ _), trivial⟩
theorem copy_pure (fr : Bool) (a : Attrs) (hpl : a.path.length ≤ 1000) (hp : ∀ p ∈ a.path, p.ns.length ≤ 1000) (htl : a.tags.length ≤ 1000) : PCon prog 40 [encA fr a] (encA true a) :=
  (copy_ok fr a hpl hp htl).ends fun v h' nx' ⟨e1, e2, e3⟩ => by
    subst e1 e2 e3
    exact Ends.pure (s := ⟨[], [(0, some (.arr true false 88 2 (a.path.map (encLeg true))))], 1⟩) [0] (ownA_freeze (fr := true) (by simp) rfl) (by intro z hz; simp at hz; subst hz; simp [hget])
set_option maxRecDepth 100000 in
theorem systems_ok (fr : Bool) (a : Attrs) (hpl : a.path.length ≤ 1000) (hp : ∀ p ∈ a.path, p.ns.length ≤ 1000) (htl : a.tags.length ≤ 1000) : PCon prog 172 [encA fr a] (.fn (.func 199) [] [.iptr true [encLegs true a.path]]) := by
  refine callV_of (fn := Go.Proofs.Tryz.f172) (body := _) tab_ok mixed rfl rfl (by decide) (by simp [Go.Proofs.Tryz.f172]) ?_
  (conv => whnf)
  refine callV_pure (copy_pure fr a hpl hp htl) ⟨.free (encA_free _ _), trivial⟩ ?_
  (conv => whnf)
  refine Ends.pure [1] ?_ (one_none rfl)
  refine LeV.fnL trivial ⟨?_, trivial⟩
  exact LeV.freezeP (cells := [encLegs true a.path]) (by simp) rfl (by intro v hv; simp at hv; subst hv; exact encLegs_free _ _)
end Go.Proofs.YtfaglgoanmcifaaGreat
namespace Go.Proofs.YtfaglgoanmcifaaGreat
open Go.RowKit
open Go.Proofs.Tryz (prog)
attribute [local irreducible] CallV RoundV
def hasN (l : List UInt32) (x : UInt32) : Bool := l.any (· == x)
def hasA (l : List Leg) (x : UInt32) : Bool := l.any (fun p => hasN p.ns x)
theorem hasN_succ {l : List UInt32} {x : UInt32} {k : Nat} (hk : k < l.length) (h : hasN (l.take k) x = false) (he : (l[k] == x) = false) : hasN (l.take (k + 1)) x = false := by
  unfold hasN at *
  rw [List.take_succ_eq_append_getElem hk, List.any_append, h]
  simpa using he
theorem hasA_succ {l : List Leg} {x : UInt32} {i : Nat} (hi : i < l.length) (h : hasA (l.take i) x = false) (he : hasN l[i].ns x = false) : hasA (l.take (i + 1)) x = false := by
  unfold hasA at *
  rw [List.take_succ_eq_append_getElem hi, List.any_append, h]
  simpa using he
theorem hasA_yes {l : List Leg} {x : UInt32} {i k : Nat} (hi : i < l.length) (hk : k < l[i].ns.length) (he : l[i].ns[k] = x) : hasA l x = true := by
  unfold hasA hasN
  rw [List.any_eq_true]
  exact ⟨l[i], List.getElem_mem hi, List.any_eq_true.2 ⟨_, List.getElem_mem hk, by simp [he]⟩⟩
set_option maxRecDepth 100000 in
theorem has_ok (fr : Bool) (a : Attrs) (x : UInt32) (hpl : a.path.length ≤ 1000) (hp : ∀ p ∈ a.path, p.ns.length ≤ 1000) (htl : a.tags.length ≤ 1000) : PCon prog 126 [encA fr a, cW x] (.bool (hasA a.path x)) := by
  have fin : ∀ {s : St} {r : Bool}, hasA a.path x = r → ∃ v1 h' nx', Ends 0 s (.bool r) v1 h' nx' ∧ (v1 = .bool (hasA a.path x) ∧ h' = [] ∧ nx' = 0) := fun h => Ends.pure [] (.bool_of h.symm) (by simp)
  refine callV_of (fn := Go.Proofs.Tryz.f126) (body := _) tab_ok mixed rfl rfl (by decide) (by simp [Go.Proofs.Tryz.f126]) ?_
  (conv => whnf)
  refine callV_pure (systems_ok fr a hpl hp htl) ⟨.free (encA_free _ _), trivial⟩ ?_
  (conv => whnf)
  refine callV_loop [(3, .ptr 1 0), (4, .ptr 2 0)] ⟨rfl, rfl, trivial⟩ fun asg' body' hasg hbody => ?_
  refine callV_of (fn := Go.Proofs.Tryz.f199) (body := _) tab_ok mixed rfl rfl (by decide) (by simp [Go.Proofs.Tryz.f199]) ?_
  (conv => whnf)
  intro _
  (conv => whnf)
  refine vcg_loop tab_ok mixed (fun i : {i : Nat // i ≤ a.path.length ∧ hasA (a.path.take i) x = false} => ⟨[(0, .yld 3), (7, encLegs true a.path), (8, cI a.path.length), (9, cI i.1)], [(3, some (.loop 14 [(3, .ptr 1 0), (4, .ptr 2 0)] [9, 10] asg' body' .ready none)), (1, some (.var true 24 [cW x])), (2, some (.var true 4 [.bool false]))], 4⟩) (fun i => a.path.length - i.1) ⟨0, by omega, rfl⟩ ?_ (fun i => ?_)
  · exact Wk.of id [] ⟨.yld rfl (by omega), .free (encLegs_free _ _), .int_of (by simp), .int_of rfl, trivial⟩ (LeH.of ⟨⟨by omega, .inl ⟨by simp, _, rfl, rfl, rfl, rfl, rfl, rfl, rfl, .ptr rfl (by omega), .ptr rfl (by omega), trivial⟩⟩, ⟨by omega, .inl ⟨by simp, _, rfl, id, rfl, .int_of rfl, trivial⟩⟩, ⟨by omega, .inl ⟨by simp, _, rfl, id, rfl, .bool_of rfl, trivial⟩⟩, trivial⟩ (fun _ _ _ _ h => h) (fun _ _ => rfl) (by omega) (by simp))
  obtain ⟨i, hi, hn⟩ := i
  (conv => whnf)
  split
  · rename_i hc
    have hc : i < a.path.length := by simpa using hc
    have hpi := hp a.path[i] (List.getElem_mem hc)
    (conv => whnf)
    refine ⟨rfl, _, ⟨by first | omega | (simp only; omega), idxL hc⟩, ?_⟩
    (conv => whnf)
    intro _
    (conv => whnf)
    refine vcg_loop tab_ok mixed (fun k : {k : Nat // k ≤ a.path[i].ns.length ∧ hasN (a.path[i].ns.take k) x = false} => ⟨[(0, .yld 3), (3, cI i), (7, encLegs true a.path), (8, cI a.path.length), (9, cI i), (15, encW true a.path[i].ns), (16, cI a.path[i].ns.length), (17, cI k.1)], [(3, some (.loop 14 [(3, .ptr 1 0), (4, .ptr 2 0)] [9, 10] asg' body' .ready none)), (1, some (.var true 24 [cW x])), (2, some (.var true 4 [.bool false]))], 5⟩) (fun k => a.path[i].ns.length - k.1) ⟨0, by omega, rfl⟩ ?_ (fun k => ?_)
    · exact Wk.of id [] ⟨.yld rfl (by omega), .int_of rfl, .free (encLegs_free _ _), .int_of rfl, .int_of rfl, .free (encW_free _ _), .int_of (by simp), .int_of rfl, trivial⟩ (LeH.of ⟨⟨by omega, .inl ⟨by simp, _, rfl, rfl, rfl, rfl, rfl, rfl, rfl, .ptr rfl (by omega), .ptr rfl (by omega), trivial⟩⟩, ⟨by omega, .inl ⟨by simp, _, rfl, id, rfl, .int_of rfl, trivial⟩⟩, ⟨by omega, .inl ⟨by simp, _, rfl, id, rfl, .bool_of rfl, trivial⟩⟩, trivial⟩ (fun _ _ _ _ h => h) (fun _ _ => rfl) (by omega) (by simp))
    obtain ⟨k, hk, hnk⟩ := k
    (conv => whnf)
    split
    · rename_i hck
      have hck : k < a.path[i].ns.length := by simpa using hck
      (conv => whnf)
      refine ⟨rfl, _, ⟨by first | omega | (simp only; omega), idxW hck⟩, ?_⟩
      (conv => whnf)
      subst hasg hbody
      refine roundV_of tab_ok mixed rfl (by simp) (show 3 < 5 by omega) ?_
      (conv => whnf)
      refine ⟨rfl, ?_⟩
      (conv => whnf)
      split
      · rename_i he
        (conv => whnf)
        refine ⟨rfl, ?_⟩
        (conv => whnf)
        refine ⟨_, _, _, Ends.here, ?_⟩
        (conv => whnf)
        refine fin (hasA_yes hc hck ?_)
        refine UInt32.toNat_inj.1 ?_
        simp at he
        omega
      · rename_i he
        have he : (a.path[i].ns[k] == x) = false := by
          rw [beq_eq_false_iff_ne]
          intro e
          rw [e] at he
          simp at he
        (conv => whnf)
        refine ⟨rfl, ?_⟩
        (conv => whnf)
        refine ⟨⟨k + 1, by omega, hasN_succ hck hnk he⟩, Wk.of id [] ⟨.yld rfl (by omega), .int_of rfl, .free (encLegs_free _ _), .int_of rfl, .int_of rfl, .free (encW_free _ _), .int_of rfl, .int_of (wrap64_succ hck (show a.path[i].ns.length ≤ maxLen by unfold maxLen; omega)), trivial⟩ (LeH.of ⟨⟨by omega, .inl ⟨by simp, _, rfl, rfl, rfl, rfl, rfl, rfl, rfl, .ptr rfl (by omega), .ptr rfl (by omega), trivial⟩⟩, ⟨by omega, .inl ⟨by simp, _, rfl, id, rfl, .int_of rfl, trivial⟩⟩, ⟨by omega, .inl ⟨by simp, _, rfl, id, rfl, .bool_of rfl, trivial⟩⟩, trivial⟩ (fun _ _ _ _ h => h) (fun _ _ => rfl) (by omega) (by simp)), by simp only; omega⟩
    · rename_i hck
      have hck : k = a.path[i].ns.length := by simp at hck; omega
      (conv => whnf)
      refine ⟨⟨i + 1, by omega, ?_⟩, Wk.of id [] ⟨.yld rfl (by omega), .free (encLegs_free _ _), .int_of rfl, .int_of (wrap64_succ hc (show a.path.length ≤ maxLen by unfold maxLen; omega)), trivial⟩ (LeH.of ⟨⟨by omega, .inl ⟨by simp, _, rfl, rfl, rfl, rfl, rfl, rfl, rfl, .ptr rfl (by omega), .ptr rfl (by omega), trivial⟩⟩, ⟨by omega, .inl ⟨by simp, _, rfl, id, rfl, .int_of rfl, trivial⟩⟩, ⟨by omega, .inl ⟨by simp, _, rfl, id, rfl, .bool_of rfl, trivial⟩⟩, trivial⟩ (fun _ _ _ _ h => h) (fun _ _ => rfl) (by omega) (by simp)), by simp only; omega⟩
      rw [hck, List.take_length] at hnk
      exact hasA_succ hc hn hnk
  · rename_i hc
    have hc : i = a.path.length := by simp at hc; omega
    rw [hc, List.take_length] at hn
    (conv => whnf)
    refine ⟨_, _, _, Ends.here, ?_⟩
    (conv => whnf)
    exact fin hn
set_option maxRecDepth 100000 in
theorem ref_has_ok (fr : Bool) (a : Attrs) (x : UInt32) (hpl : a.path.length ≤ 1000) (hp : ∀ p ∈ a.path, p.ns.length ≤ 1000) : PCon prog 122 [encA fr a, cW x] (.bool (hasA a.path x)) := by
  have fin : ∀ {s : St} {r : Bool}, hasA a.path x = r → ∃ v1 h' nx', Ends 0 s (.bool r) v1 h' nx' ∧ (v1 = .bool (hasA a.path x) ∧ h' = [] ∧ nx' = 0) := fun h => Ends.pure [] (.bool_of h.symm) (by simp)
  have cell : ∀ {fr0 : Bool} {x : Attrs}, FreeB (.var true 27 (cellsA fr0 x)) := fun {fr0 x} => cellsA_free fr0 x
  refine callV_of (fn := Go.Proofs.Tryz.f122) (body := _) tab_ok mixed rfl rfl (by decide) (by simp [Go.Proofs.Tryz.f122]) ?_
  (conv => whnf)
  refine vcg_loop tab_ok mixed (fun i : {i : Nat // i ≤ a.path.length ∧ hasA (a.path.take i) x = false} => ⟨[(1, cW x), (2, .ptr 0 0), (5, cI i.1)], [(0, some (.var true 27 (cellsA fr a)))], 1⟩) (fun i => a.path.length - i.1) ⟨0, by omega, rfl⟩ (Wk.of id [] ⟨.int_of rfl, .ptr rfl (by omega), .int_of rfl, trivial⟩ (LeH.of ⟨⟨by omega, .inl ⟨by simp, _, rfl, LeB.free cell⟩⟩, trivial⟩ (fun _ _ _ _ h => h) (fun _ _ => rfl) (by omega) (by simp))) (fun i => ?_)
  obtain ⟨i, hi, hn⟩ := i
  (conv => whnf)
  intro hl
  have hl : a.path.length ≤ maxLen := by simpa [gd] using hl
  (conv => whnf)
  split
  · rename_i hc
    have hc : i < a.path.length := by simpa using hc
    have hpi := hp a.path[i] (List.getElem_mem hc)
    (conv => whnf)
    refine vcg_loop tab_ok mixed (fun k : {k : Nat // k ≤ a.path[i].ns.length ∧ hasN (a.path[i].ns.take k) x = false} => ⟨[(1, cW x), (2, .ptr 0 0), (5, cI i), (6, cI k.1)], [(0, some (.var true 27 (cellsA fr a)))], 1⟩) (fun k => a.path[i].ns.length - k.1) ⟨0, by omega, rfl⟩ (Wk.of id [] ⟨.int_of rfl, .ptr rfl (by omega), .int_of rfl, .int_of rfl, trivial⟩ (LeH.of ⟨⟨by omega, .inl ⟨by simp, _, rfl, LeB.free cell⟩⟩, trivial⟩ (fun _ _ _ _ h => h) (fun _ _ => rfl) (by omega) (by simp))) (fun k => ?_)
    obtain ⟨k, hk, hnk⟩ := k
    (conv => whnf)
    refine ⟨rfl, _, ⟨by first | omega | (simp only; omega), idxL hc⟩, ?_⟩
    (conv => whnf)
    intro _
    (conv => whnf)
    split
    · rename_i hck
      have hck : k < a.path[i].ns.length := by simpa using hck
      (conv => whnf)
      refine ⟨rfl, _, ⟨by first | omega | (simp only; omega), idxL hc⟩, ?_⟩
      (conv => whnf)
      refine ⟨rfl, _, ⟨by first | omega | (simp only; omega), idxW hck⟩, ?_⟩
      (conv => whnf)
      split
      · rename_i he
        (conv => whnf)
        refine fin (hasA_yes hc hck ?_)
        refine UInt32.toNat_inj.1 ?_
        simp at he
        omega
      · rename_i he
        have he : (a.path[i].ns[k] == x) = false := by
          rw [beq_eq_false_iff_ne]
          intro e
          rw [e] at he
          simp at he
        (conv => whnf)
        exact ⟨⟨k + 1, by omega, hasN_succ hck hnk he⟩, Wk.of id [] ⟨.int_of rfl, .ptr rfl (by omega), .int_of rfl, .int_of (wrap64_succ hck (show a.path[i].ns.length ≤ maxLen by unfold maxLen; omega)), trivial⟩ (LeH.of ⟨⟨by omega, .inl ⟨by simp, _, rfl, LeB.free cell⟩⟩, trivial⟩ (fun _ _ _ _ h => h) (fun _ _ => rfl) (by omega) (by simp)), by simp only; omega⟩
    · rename_i hck
      have hck : k = a.path[i].ns.length := by simp at hck; omega
      (conv => whnf)
      refine ⟨⟨i + 1, by omega, ?_⟩, Wk.of id [] ⟨.int_of rfl, .ptr rfl (by omega), .int_of (wrap64_succ hc (show a.path.length ≤ maxLen by unfold maxLen; omega)), trivial⟩ (LeH.of ⟨⟨by omega, .inl ⟨by simp, _, rfl, LeB.free cell⟩⟩, trivial⟩ (fun _ _ _ _ h => h) (fun _ _ => rfl) (by omega) (by simp)), by simp only; omega⟩
      rw [hck, List.take_length] at hnk
      exact hasA_succ hc hn hnk
  · rename_i hc
    have hc : i = a.path.length := by simp at hc; omega
    rw [hc, List.take_length] at hn
    (conv => whnf)
    exact fin hn
end Go.Proofs.YtfaglgoanmcifaaGreat
namespace Go.Proofs.YtfaglgoanmcifaaGreat
open Go.RowKit
open Go.Proofs.Tryz (prog)
attribute [local irreducible] CallV RoundV
def Go (tn : Nat) (many : Int) (n : Nat) : Prop := tn = 0 → n = 0 ∨ (n : Int) < many
end Go.Proofs.YtfaglgoanmcifaaGreat
namespace Go.Proofs.YtfaglgoanmcifaaGreat
open Go.RowKit
open Go.Proofs.Tryz (prog)
attribute [local irreducible] CallV RoundV
theorem w_eq {x y : UInt32} : ((x.toNat : Int) == (y.toNat : Int)) = (x == y) := by
  have := u32_neq (x := x) (y := y)
  simpa [bne] using this
theorem b_eq {x y : UInt8} : ((x.toNat : Int) == (y.toNat : Int)) = (x == y) := by
  have := u8_neq (x := x) (y := y)
  simpa [bne] using this
theorem take_step {α : Type} {l m : List α} {i : Nat} (h1 : i < l.length) (h2 : i < m.length) (hr : l.take i = m.take i) (he : l[i] = m[i]) : l.take (i + 1) = m.take (i + 1) := by
  rw [List.take_succ_eq_append_getElem h1, List.take_succ_eq_append_getElem h2, hr, he]
set_option maxRecDepth 100000 in
theorem equal_ok (fr fr' : Bool) (a b : List UInt32) : PCon prog 60 [encW fr a, encW fr' b] (.bool (decide (a = b))) := by
  refine callV_of (fn := Go.Proofs.Tryz.f60) (body := _) tab_ok mixed rfl rfl (by decide) (by simp [Go.Proofs.Tryz.f60]) ?_
  (conv => whnf)
  intro ha
  have ha : a.length ≤ maxLen := by simpa [gd] using ha
  (conv => whnf)
  intro hb
  (conv => whnf)
  split
  · rename_i hne
    (conv => whnf)
    refine Ends.pure [] (.bool_of ?_) (by simp)
    symm
    rw [decide_eq_false_iff_not]
    rintro rfl
    simp at hne
  · rename_i hne
    have hlen : a.length = b.length := by simp at hne; omega
    (conv => whnf)
    intro _
    (conv => whnf)
    refine vcg_loop tab_ok mixed (fun i : {i : Nat // i ≤ a.length ∧ a.take i = b.take i} => ⟨[(0, encW fr a), (1, encW fr' b), (12, cI a.length), (13, .int .i64 i.1)], [], 0⟩) (fun i => a.length - i.1) ⟨0, by omega, rfl⟩ (Wk.of id [] ⟨.free (encW_free _ _), .free (encW_free _ _), .int_of (by simp), .int_of rfl, trivial⟩ (LeH.nil (Nat.le_refl _) (fun b h => by omega) (by simp))) (fun i => ?_)
    obtain ⟨i, hi, hr⟩ := i
    (conv => whnf)
    split
    · rename_i hc
      have hc : i < a.length := by simpa using hc
      (conv => whnf)
      refine ⟨rfl, _, ⟨by first | omega | (simp only; omega), idxW hc⟩, ?_⟩
      (conv => whnf)
      refine ⟨rfl, _, ⟨by first | omega | (simp only; omega), idxW (show i < b.length by omega)⟩, ?_⟩
      (conv => whnf)
      refine ⟨by kernel_rfl, ?_⟩
      (conv => whnf)
      split
      · rename_i h1
        (conv => whnf)
        refine Ends.pure [] (.bool_of ?_) (by simp)
        symm
        rw [decide_eq_false_iff_not]
        rintro rfl
        simp at h1
      · rename_i h1
        have h1 : a[i] = b[i] := by
          simp at h1
          exact UInt32.toNat_inj.1 (by omega)
        (conv => whnf)
        exact ⟨⟨i + 1, by omega, take_step hc (by omega) hr h1⟩, Wk.of id [] ⟨.free (encW_free _ _), .free (encW_free _ _), .int_of rfl, .int_of (wrap64_succ hc ha), trivial⟩ (LeH.nil (Nat.le_refl _) (fun b h => by omega) (by simp)), by simp only; omega⟩
    · rename_i hc
      have hc : i = a.length := by simp at hc; omega
      subst hc
      rw [List.take_length, hlen, List.take_length] at hr
      (conv => whnf)
      refine Ends.pure [] (.bool_of ?_) (by simp)
      simp [hr]
set_option maxRecDepth 100000 in
theorem same1_ok (fr fr' : Bool) (p q : Leg) : PCon prog 59 [.agg (encLeg fr p), .agg (encLeg fr' q)] (.bool (decide (p = q))) := by
  obtain ⟨ps, pn⟩ := p
  obtain ⟨qs, qn⟩ := q
  refine callV_of (fn := Go.Proofs.Tryz.f59) (body := _) tab_ok mixed rfl rfl (by decide) (by simp [Go.Proofs.Tryz.f59]) ?_
  (conv => whnf)
  split
  · rename_i h
    have h : ps = qs := by simpa using h
    (conv => whnf)
    refine callV_pure (equal_ok fr fr' pn qn) ⟨.free (encW_free _ _), .free (encW_free _ _), trivial⟩ ?_
    (conv => whnf)
    refine Ends.pure [] (.bool_of ?_) (by simp)
    simp [h]
  · rename_i h
    have h : ps ≠ qs := by simpa using h
    (conv => whnf)
    refine Ends.pure [] (.bool_of ?_) (by simp)
    simp [h]
set_option maxRecDepth 100000 in
theorem equalFunc_ok (fr fr' : Bool) (a b : List Leg) : PCon prog 61 [encLegs fr a, encLegs fr' b, .fn (.func 59) [] []] (.bool (decide (a = b))) := by
  refine callV_of (fn := Go.Proofs.Tryz.f61) (body := _) tab_ok mixed rfl rfl (by decide) (by simp [Go.Proofs.Tryz.f61]) ?_
  (conv => whnf)
  intro ha
  have ha : a.length ≤ maxLen := by simpa [gd] using ha
  (conv => whnf)
  intro hb
  (conv => whnf)
  split
  · rename_i hne
    (conv => whnf)
    refine Ends.pure [] (.bool_of ?_) (by simp)
    symm
    rw [decide_eq_false_iff_not]
    rintro rfl
    simp at hne
  · rename_i hne
    have hlen : a.length = b.length := by simp at hne; omega
    (conv => whnf)
    intro _
    (conv => whnf)
    refine vcg_loop tab_ok mixed (fun i : {i : Nat // i ≤ a.length ∧ a.take i = b.take i} => ⟨[(1, encLegs fr' b), (2, .fn (.func 59) [] []), (15, encLegs fr a), (16, cI a.length), (17, .int .i64 i.1)], [], 0⟩) (fun i => a.length - i.1) ⟨0, by omega, rfl⟩ (Wk.of id [] ⟨.free (encLegs_free _ _), .free (.fn (by simp) (by simp)), .free (encLegs_free _ _), .int_of (by simp), .int_of rfl, trivial⟩ (LeH.nil (Nat.le_refl _) (fun b h => by omega) (by simp))) (fun i => ?_)
    obtain ⟨i, hi, hr⟩ := i
    (conv => whnf)
    split
    · rename_i hc
      have hc : i < a.length := by simpa using hc
      have hc' : i < b.length := by omega
      (conv => whnf)
      refine ⟨rfl, _, ⟨by first | omega | (simp only; omega), idxL hc⟩, ?_⟩
      (conv => whnf)
      refine ⟨rfl, _, ⟨by first | omega | (simp only; omega), idxL hc'⟩, ?_⟩
      (conv => whnf)
      refine callV_pure (same1_ok fr fr' a[i] b[i]) ⟨.free (.agg (encLeg_free _ _)), .free (.agg (encLeg_free _ _)), trivial⟩ ?_
      (conv => whnf)
      split
      · rename_i h1
        (conv => whnf)
        refine Ends.pure [] (.bool_of ?_) (by simp)
        symm
        rw [decide_eq_false_iff_not]
        rintro rfl
        simp at h1
      · rename_i h1
        have h1 : a[i] = b[i] := by simpa using h1
        (conv => whnf)
        exact ⟨⟨i + 1, by omega, take_step hc hc' hr h1⟩, Wk.of id [] ⟨.free (encLegs_free _ _), .free (.fn (by simp) (by simp)), .free (encLegs_free _ _), .int_of rfl, .int_of (wrap64_succ hc ha), trivial⟩ (LeH.nil (Nat.le_refl _) (fun b h => by omega) (by simp)), by simp only; omega⟩
    · rename_i hc
      have hc : i = a.length := by simp at hc; omega
      subst hc
      rw [List.take_length, hlen, List.take_length] at hr
      (conv => whnf)
      refine Ends.pure [] (.bool_of ?_) (by simp)
      simp [hr]
set_option maxRecDepth 100000 in
set_option maxHeartbeats 4000000 in
theorem same_ok (fr fr' : Bool) (a b : Attrs) : PCon prog 31 [encA fr a, encA fr' b] (.bool (sameA a b)) := by
  refine callV_of (fn := Go.Proofs.Tryz.f31) (body := _) tab_ok mixed rfl rfl (by decide) (by simp [Go.Proofs.Tryz.f31]) ?_
  have fin : ∀ {s : St} {r : Bool}, sameA a b = r → ∃ v1 h' nx', Ends 0 s (.bool r) v1 h' nx' ∧ (v1 = .bool (sameA a b) ∧ h' = [] ∧ nx' = 0) := fun h => Ends.pure [] (.bool_of h.symm) (by simp)
  (conv => whnf)
  repeat' first
    | refine fin ?_
    | (split <;> (conv => whnf))
    | (refine callV_pure (equalFunc_ok fr fr' a.path b.path) ⟨.free (encLegs_free _ _), .free (encLegs_free _ _), .free (.fn (by simp) (by simp)), trivial⟩ ?_; (conv => whnf))
    | (refine callV_pure (equal_ok fr fr' a.tags b.tags) ⟨.free (encW_free _ _), .free (encW_free _ _), trivial⟩ ?_; (conv => whnf))
  any_goals (clear fin; simp only [sameA, decide_eq_false_iff_not]; rintro rfl; simp_all; done)
  clear fin
  simp only [w_eq, b_eq, beq_iff_eq, decide_eq_true_eq] at *
  obtain ⟨o1, p1, n1, h1, m1, g1, q1, t1⟩ := a
  obtain ⟨o2, p2, n2, h2, m2, g2, q2, t2⟩ := b
  simp_all [sameA]
end Go.Proofs.YtfaglgoanmcifaaGreat
namespace Go.Proofs.YtfaglgoanmcifaaGreat
open Go.RowKit
instance {fr p} : FreeLI (encLeg fr p) := ⟨⟨encLeg_free fr p⟩⟩
instance {fr} {l : List Leg} : FreeRI (l.map (encLeg fr)) := ⟨⟨rowsLegs_free fr l⟩⟩
instance {fr l} : FreeI (encLegs fr l) := ⟨⟨encLegs_free fr l⟩⟩
instance {fr a} : FreeLI (cellsA fr a) := ⟨⟨cellsA_free fr a⟩⟩
instance {fr a} : FreeI (encA fr a) := ⟨⟨encA_free fr a⟩⟩
instance : FreeLI zeroA := ⟨⟨zeroA_free⟩⟩
end Go.Proofs.YtfaglgoanmcifaaGreat
namespace Go.Proofs.YtfaglgoanmcifaaGreat
open Go.RowKit
open Go.Proofs.Tryz (prog)
attribute [local irreducible] CallV RoundV
def prePath (l : List Leg) (x : UInt32) (n : Nat) : List Leg := match l with
  | ⟨false, ns⟩ :: r => ⟨false, List.replicate n x ++ ns⟩ :: r
  | l => ⟨false, List.replicate n x⟩ :: l
def badPre (a : Attrs) (x : UInt32) (n : Int) : Bool := !rightA a || x == 0 || decide (n < 0) || decide (8 < n)
def prepE (a : Attrs) (x : UInt32) (n : Int) : Int := if badPre a x n then 2 else if n = 0 then 0 else if pathOk (prePath a.path x n.toNat) then 0 else 3
def prepA (a : Attrs) (x : UInt32) (n : Int) : Attrs := if prepE a x n ≠ 0 then noA else if n = 0 then a else { a with path := prePath a.path x n.toNat }
def prepV (fr : Bool) (a : Attrs) (x : UInt32) (n : Int) : V := .tup [encA fr (prepA a x n), .int .i64 (prepE a x n)]
theorem prepV_bad {fr : Bool} {a : Attrs} {x : UInt32} {n : Int} (h : badPre a x n = true) : prepV fr a x n = .tup [encA fr noA, .int .i64 2] := by simp [prepV, prepA, prepE, h]
theorem prepV_zero {fr : Bool} {a : Attrs} {x : UInt32} (h : badPre a x 0 = false) : prepV fr a x 0 = .tup [encA fr a, .int .i64 0] := by simp [prepV, prepA, prepE, h]
theorem prepV_long {fr : Bool} {a : Attrs} {x : UInt32} {n : Int} (h : badPre a x n = false) (h0 : n ≠ 0) (hp : pathOk (prePath a.path x n.toNat) = false) : prepV fr a x n = .tup [encA fr noA, .int .i64 3] := by simp [prepV, prepA, prepE, h, h0, hp]
theorem prepV_ok {fr : Bool} {a : Attrs} {x : UInt32} {n : Int} (h : badPre a x n = false) (h0 : n ≠ 0) (hp : pathOk (prePath a.path x n.toNat) = true) : prepV fr a x n = .tup [encA fr { a with path := prePath a.path x n.toNat }, .int .i64 0] := by simp [prepV, prepA, prepE, h, h0, hp]
theorem badPre_no {a : Attrs} {x : UInt32} {n : Int} (h : badPre a x n = false) : rightA a = true ∧ x ≠ 0 ∧ 0 ≤ n ∧ n ≤ 8 := by simp [badPre] at h; exact ⟨h.1.1.1, h.1.1.2, h.1.2, h.2⟩
theorem right_path {a : Attrs} (h : rightA a = true) : pathOk a.path = true := by simp [rightA] at h; exact h.1.1.1.1.1.2
theorem pathOk_all {l : List Leg} (h : pathOk l = true) : l.length ≤ 8 ∧ ∀ p ∈ l, legOk p = true := by simpa [pathOk] using h
theorem legOk_ns {p : Leg} (h : legOk p = true) : 1 ≤ p.ns.length ∧ p.ns.length ≤ 32 ∧ (p.set = true → rises p.ns = true) ∧ ∀ x ∈ p.ns, x ≠ 0 := by
  simp only [legOk, Bool.and_eq_true, decide_eq_true_eq, Bool.or_eq_true, Bool.not_eq_true', List.all_eq_true, bne_iff_ne] at h
  refine ⟨h.1.1.1, h.1.1.2, fun hs => ?_, h.2⟩
  rcases h.1.2 with h1 | h1
  · rw [hs] at h1; cases h1
  · exact h1
def longP (l : List Leg) : Bool := decide (32 < (l.headD ⟨false, []⟩).ns.length) || decide (8 < l.length)
theorem pre_long {l : List Leg} {x : UInt32} {n : Nat} (hl : pathOk l = true) (hx : x ≠ 0) (hn : 0 < n) : pathOk (prePath l x n) = !longP (prePath l x n) := by
  obtain ⟨h8, hp⟩ := pathOk_all hl
  have hrow : ∀ ns : List UInt32, (∀ y ∈ ns, y ≠ 0) → legOk ⟨false, List.replicate n x ++ ns⟩ = decide (n + ns.length ≤ 32) := by
    intro ns hns
    have : ns.all (· != 0) = true := by rw [List.all_eq_true]; intro y hy; simpa using hns y hy
    have h1 : decide (1 ≤ n + ns.length) = true := by simp; omega
    simp [legOk, this, hx, h1]
  have key : ∀ (q : Leg) (r : List Leg), (∀ p ∈ r, legOk p = true) → pathOk (q :: r) = (decide (r.length + 1 ≤ 8) && legOk q) := by
    intro q r hr
    have : r.all legOk = true := List.all_eq_true.2 hr
    simp [pathOk, this]
  unfold prePath
  split
  · rename_i ns r
    have hns := (legOk_ns (hp _ (List.mem_cons_self ..))).2.2.2
    rw [key _ _ (fun p h => hp p (List.mem_cons_of_mem _ h)), hrow _ hns]
    simp only [longP, List.headD_cons, List.length_append, List.length_replicate, List.length_cons, Bool.not_or]
    rw [Bool.and_comm]
    congr 1 <;> rw [← decide_not] <;> congr 1 <;> simp <;> omega
  · rename_i hnot
    have hrow0 := hrow [] (by simp)
    rw [List.append_nil] at hrow0
    rw [key _ _ hp, hrow0]
    simp only [longP, List.headD_cons, List.length_replicate, List.length_cons, Bool.not_or, List.length_nil]
    rw [Bool.and_comm]
    congr 1 <;> rw [← decide_not] <;> congr 1 <;> simp <;> omega
theorem longP_yes {l : List Leg} (h : 32 < (l.headD ⟨false, []⟩).ns.length ∨ 8 < l.length) : longP l = true := by simpa [longP] using h
theorem longP_no {l : List Leg} (h : (l.headD ⟨false, []⟩).ns.length ≤ 32 ∧ l.length ≤ 8) : longP l = false := by simpa [longP] using h
set_option maxRecDepth 100000 in
set_option maxHeartbeats 4000000 in
theorem ref_prepend_ok (fr : Bool) (a : Attrs) (x : UInt32) (n : Int) : PCon prog 171 [encA fr a, cW x, .int .i64 n] (prepV fr a x n) := by
  have bad : ∀ {s : St} {v : V}, badPre a x n = true → LeV s.h s.nx id 0 [] v (encA fr noA) → ∃ v1 h' nx', Ends 0 s (.tup [v, .int .i64 2]) v1 h' nx' ∧ (v1 = prepV fr a x n ∧ h' = [] ∧ nx' = 0) := fun hb hv => by
    rw [prepV_bad hb]
    exact Ends.pure [] (.tupL ⟨hv, .free .int, trivial⟩) (by simp)
  refine callV_of (fn := Go.Proofs.Tryz.f171) (body := _) tab_ok mixed rfl rfl (by decide) (by simp [Go.Proofs.Tryz.f171]) ?_
  (conv => whnf)
  refine callV_pure (right_ok fr a) ⟨.free (encA_free _ _), trivial⟩ ?_
  cases hr : rightA a with
  | false =>
    (conv => whnf)
    exact bad (by simp [badPre, hr]) .noA
  | true =>
  (conv => whnf)
  cases hx : ((x.toNat : Int) == 0) with
  | true =>
    (conv => whnf)
    exact bad (by rw [u32_eq] at hx; simp [badPre, hx]) .noA
  | false =>
  (conv => whnf)
  cases hn : decide (n < 0) with
  | true =>
    (conv => whnf)
    exact bad (by simp [badPre, hn]) .noA
  | false =>
  (conv => whnf)
  cases h8 : decide (8 < n) with
  | true =>
    (conv => whnf)
    exact bad (by simp [badPre, h8]) .noA
  | false =>
  have hb : badPre a x n = false := by rw [u32_eq] at hx; simp [badPre, hr, hx, hn, h8]
  (conv => whnf)
  cases h0 : (n == 0) with
  | true =>
    have h0 : n = 0 := by simpa using h0
    subst h0
    (conv => whnf)
    rw [prepV_zero hb]
    exact (Ends.pure [] (by first | exact .A | exact LeL.fr rfl) (by simp))
  | false =>
  have h0 : n ≠ 0 := by simpa using h0
  obtain ⟨k, rfl⟩ : ∃ k : Nat, n = k := ⟨n.toNat, by have := of_decide_eq_false hn; omega⟩
  have hk : k ≤ 8 := by have := of_decide_eq_false h8; omega
  have hk0 : 0 < k := by omega
  (conv => whnf)
  refine vcg_loop tab_ok mixed (fun i : {i : Nat // i ≤ k} => ⟨[(1, cW x), (2, cI k), (3, .ptr 0 0), (6, .ptr 1 0), (8, .osl 2 1 0 i.1), (9, cI i.1)], [(0, some (.var true 27 (cellsA fr a))), (1, some (.var true 27 zeroA)), (2, some (.arr true false 24 1 (rowsW (List.replicate i.1 x))))], 3⟩) (fun i => k - i.1) ⟨0, by omega⟩ (Wk.i (by repeat' (first | exact True.intro | exact id | exact rfl | decide | exact Nat.le_of_ble_eq_true rfl | exact .A | exact LeL.fr rfl | exact LeB.fr rfl id id | exact LeB.fr (by simp; done) id id | refine Or.inl ⟨by simp, _, rfl, ?_⟩ | exact Or.inr ⟨by simp, _, _, _, _, rfl⟩ | refine ⟨rfl, rfl, rfl, rfl, rfl, rfl, ?_⟩ | refine ⟨?_, ?_⟩)) (by omega)) (fun i => ?_)
  obtain ⟨i, hi⟩ := i
  (conv => whnf)
  split
  · rename_i hc
    have hc : i < k := by simpa using hc
    (conv => whnf)
    refine ⟨rfl, by simp, ⟨rfl, rfl, rfl, rfl, by decide⟩, by simp, ⟨by simp [tab, tabOf, nth]; omega, by simp; omega⟩, ?_⟩
    (conv => whnf)
    refine ⟨⟨i + 1, by omega⟩, (Wk.all (renOf [(2, 4)]) [] (by repeat' (first | exact True.intro | exact id | exact rfl | decide | exact Nat.le_of_ble_eq_true rfl | exact .osl_of rfl (by omega) (by simp) | exact LeB.eq_of (by simp [List.take_of_length_le]; rw [← List.replicate_succ']) (rowsW_free _) | exact .int_of (wrap64_succ hc (show k ≤ maxLen by unfold maxLen; omega)) | exact .A | exact LeL.fr rfl | exact LeB.fr rfl id id | exact LeB.fr (by simp; done) id id | refine Or.inl ⟨by simp, _, rfl, ?_⟩ | exact Or.inr ⟨by simp, _, _, _, _, rfl⟩ | refine ⟨rfl, rfl, rfl, rfl, rfl, rfl, ?_⟩ | refine ⟨?_, ?_⟩)) (show ∀ b ∈ ([0, 1, 2] : List Nat), ∀ b' ∈ ([0, 1, 2] : List Nat), (renOf [(2, 4)]) b = (renOf [(2, 4)]) b' → b = b' by decide) (fun _ h => by omega) (by omega) (by simp)), by simp only; omega⟩
  · rename_i hc
    have hc : i = k := by simp at hc; omega
    subst hc
    obtain ⟨o, l, nn, hm, m, hq, q, tg⟩ := a
    have hlen := (pathOk_all (right_path hr)).1
    have hall := (pathOk_all (right_path hr)).2
    simp only at hlen hall
    (conv => whnf)
    have hx0 : x ≠ 0 := (badPre_no hb).2.1
    have hpl := pre_long (right_path hr) hx0 hk0
    simp only at hpl
    have fin : ∀ {s : St} {vp : V} (Z : List Nat), longP (prePath l x i) = false → LeV s.h s.nx id 0 Z vp (encLegs fr (prePath l x i)) → (∀ z ∈ Z, hget s.h z ≠ none) →
        ∃ v1 h' nx', Ends 0 s (.tup [.agg [cB o, vp, cW nn, .bool hm, cW m, .bool hq, cW q, encW fr tg], .int .i64 0]) v1 h' nx' ∧ (v1 = prepV fr ⟨o, l, nn, hm, m, hq, q, tg⟩ x i ∧ h' = [] ∧ nx' = 0) := fun Z hlp hv hz => by
      rw [prepV_ok hb h0 (by rw [Int.toNat_natCast]; simp only; rw [hpl, hlp]; rfl)]
      exact Ends.pure Z (.tupL ⟨.aggL ⟨.free .int, hv, .free .int, .free .bool, .free .int, .free .bool, .free .int, .free (encW_free _ _), trivial⟩, .free .int, trivial⟩) hz
    have long : ∀ {s : St} {v : V}, longP (prePath l x i) = true → LeV s.h s.nx id 0 [] v (encA fr noA) → ∃ v1 h' nx', Ends 0 s (.tup [v, .int .i64 3]) v1 h' nx' ∧ (v1 = prepV fr ⟨o, l, nn, hm, m, hq, q, tg⟩ x i ∧ h' = [] ∧ nx' = 0) := fun hlp hv => by
      rw [prepV_long hb h0 (by rw [Int.toNat_natCast]; simp only; rw [hpl, hlp]; rfl)]
      exact Ends.pure [] (.tupL ⟨hv, .free .int, trivial⟩) (by simp)
    rcases l with _ | ⟨⟨st, ns⟩, r⟩
    · (conv => whnf)
      intro _
      (conv => whnf)
      refine ⟨⟨rfl, rfl, rfl, rfl, by decide⟩, by simp, ⟨by simp [tab, tabOf, nth], by simp⟩, ?_⟩
      (conv => whnf)
      intro _
      (conv => whnf)
      (split <;> first | (rename_i hh; exfalso; first | (simp at hh; done) | (simp at hh; omega)) | skip); (conv => whnf)
      intro _
      (conv => whnf)
      refine fin [4, 2] (by simp [longP, prePath]; omega) ?_ (by intro z hz; simp only [List.mem_cons, List.not_mem_nil, or_false] at hz; rcases hz with rfl | rfl <;> exact ne_none_of rfl)
      refine LeV.sl_fr (LeV.freezeR (by simp) rfl (by simp) ?_)
      refine LeR.of_eq (ys := [[.bool false, .osl 2 1 0 i]]) (by simp) ⟨⟨.free .bool, LeV.sl_fr (LeV.freeze_of (by simp) rfl (by simp) (rowsW_free _) (by simp [List.take_of_length_le])), trivial⟩, trivial⟩
    · have hcold := hall ⟨st, ns⟩ (by simp)
      have hns := (legOk_ns hcold).2.1
      simp only at hns
      simp only [List.length_cons] at hlen
      cases st with
      | true =>
        (conv => whnf)
        intro _
        (conv => whnf)
        (split <;> first | (rename_i hh; exfalso; first | (simp at hh; done) | (simp at hh; omega)) | skip); (conv => whnf)
        refine ⟨rfl, _, ⟨by decide, rfl⟩, ?_⟩
        (conv => whnf)
        refine ⟨⟨rfl, rfl, rfl, rfl, by decide⟩, by simp, ⟨by simp [tab, tabOf, nth]; omega, by simp; omega⟩, ?_⟩
        (conv => whnf)
        intro _
        (conv => whnf)
        (split <;> first | (rename_i hh; exfalso; first | (simp at hh; done) | (simp at hh; omega)) | skip); (conv => whnf)
        intro _
        (conv => whnf)
        split
        · rename_i hc8
          (conv => whnf)
          refine long ?_ .noA
          simp at hc8
          refine longP_yes ?_
          simp [prePath]
          omega
        · rename_i hc8
          (conv => whnf)
          refine fin [4, 2] ?_ ?_ (by intro z hz; simp only [List.mem_cons, List.not_mem_nil, or_false] at hz; rcases hz with rfl | rfl <;> exact ne_none_of rfl)
          · simp at hc8
            refine longP_no ?_
            simp [prePath]
            omega
          refine LeV.sl_fr (LeV.freezeR (by simp) rfl (by simp; try omega) ?_)
          refine LeR.of_eq (ys := [.bool false, .osl 2 1 0 i] :: (⟨true, ns⟩ :: r).map (encLeg fr)) (List.take_of_length_le (by simp; omega)) ⟨⟨.free .bool, LeV.sl_fr (LeV.freezeE (by simp) rfl (by simp) (by simp [List.take_of_length_le]) (rowsW_free (List.replicate i x))), trivial⟩, LeR.free (rowsLegs_free _ _)⟩
      | false =>
        (conv => whnf)
        intro _
        (conv => whnf)
        (split <;> first | (rename_i hh; exfalso; first | (simp at hh; done) | (simp at hh; omega)) | skip); (conv => whnf)
        refine ⟨rfl, _, ⟨by decide, rfl⟩, ?_⟩
        (conv => whnf)
        refine ⟨rfl, _, ⟨by decide, rfl⟩, ?_⟩
        (conv => whnf)
        refine ⟨⟨rfl, rfl, rfl, rfl, by decide⟩, by simp, ⟨by simp [tab, tabOf, nth]; omega, by simp; omega⟩, ?_⟩
        (conv => whnf)
        refine ⟨rfl, ⟨by decide, by simp⟩, ?_⟩
        (conv => whnf)
        refine ⟨by kernel_rfl, ?_⟩
        (conv => whnf)
        refine ⟨⟨rfl, rfl, rfl, rfl, by decide⟩, by simp, ⟨by simp [tab, tabOf, nth]; omega, by simp; omega⟩, ?_⟩
        (conv => whnf)
        intro _
        (conv => whnf)
        split
        · rename_i hc8
          (conv => whnf)
          refine long ?_ .noA
          simp at hc8
          refine longP_yes ?_
          simp [prePath]
          omega
        · rename_i hc8
          (conv => whnf)
          intro _
          (conv => whnf)
          split
          · rename_i hc9
            (conv => whnf)
            refine long ?_ .noA
            simp at hc9
            refine longP_yes ?_
            simp [prePath]
            omega
          · rename_i hc9
            (conv => whnf)
            refine fin [5, 3] ?_ ?_ (by intro z hz; simp only [List.mem_cons, List.not_mem_nil, or_false] at hz; rcases hz with rfl | rfl <;> exact ne_none_of rfl)
            · simp at hc8 hc9
              refine longP_no ?_
              simp [prePath]
              omega
            refine LeV.sl_fr (LeV.freezeR (by simp) rfl (by simp; try omega) ?_)
            refine LeR.of_eq (ys := [.bool false, .osl 3 1 0 (i + ns.length)] :: r.map (encLeg fr)) (by simp; exact List.take_of_length_le (by simp; omega)) ⟨⟨.free .bool, LeV.sl_fr (LeV.freezeE (ys := rowsW (List.replicate i x ++ ns)) (by simp) rfl (by simp) (by simp [List.take_of_length_le]) (rowsW_free _)), trivial⟩, LeR.free (rowsLegs_free _ _)⟩
end Go.Proofs.YtfaglgoanmcifaaGreat
