/- Contracts: two parses. -/
import Derived.Test.YtcfkendgjinmiaaC19
import Derived.Test.YtcfkendgjinmiaaD1
set_option linter.unusedVariables false
set_option linter.unusedSimpArgs false
namespace Go.Proofs.Ytcfkendgjinmiaa
open Go.RowKit
open Go.Proofs.Try (prog)
attribute [local irreducible] CallV RoundV

def noA : Attrs := ⟨0, [], 0, false, 0, false, 0, []⟩
theorem LeV.noA {h : Heap} {nx nx' : Nat} {ρ : Nat → Nat} {Z : List Nat} {fr : Bool} : LeV h nx ρ nx' Z (.agg zeroA) (encA fr noA) :=
  .aggL ⟨.free .int, .snil_sl, .free .int, .free .bool, .free .int, .free .bool, .free .int, .snil_sl, trivial⟩
def parseE (fr : Bool) (a : Attrs) (e : Int) : V := .tup [encA fr a, .int .i64 e]
set_option maxRecDepth 100000 in
theorem parse_nil : PCon prog 20 [.snil] (parseE true noA 299) := by
  refine callV_of (fn := Go.Proofs.Try.f20) (body := _) tab_ok mixed rfl rfl (by decide) (by simp [Go.Proofs.Try.f20]) ?_
  (conv => whnf)
  refine vcg_once tab_ok mixed ?_
  (conv => whnf)
  exact Ends.pure [] (.tupL ⟨.noA, .int_of rfl, trivial⟩) (by simp)

def badB : List UInt8 := [64, 1, 1, 3]
set_option maxRecDepth 100000 in
theorem parse_bad (fr : Bool) : PCon prog 20 [encB fr badB] (parseE true noA 295) := by
  refine callV_of (fn := Go.Proofs.Try.f20) (body := _) tab_ok mixed rfl rfl (by decide) (by simp [Go.Proofs.Try.f20]) ?_
  (conv => whnf)
  refine vcg_once tab_ok mixed ?_
  (conv => whnf)
  intro _
  (conv => whnf)
  refine callV_of (fn := Go.Proofs.Try.f45) (body := _) tab_ok mixed rfl rfl (by decide) (by simp [Go.Proofs.Try.f45]) ?_
  (conv => whnf)
  intro _
  (conv => whnf)
  refine ⟨rfl, _, ⟨by simp, rfl⟩, ?_⟩
  (conv => whnf)
  refine ⟨rfl, _, ⟨by simp, rfl⟩, ?_⟩
  (conv => whnf)
  refine ⟨rfl, _, ⟨by simp, rfl⟩, ?_⟩
  (conv => whnf)
  refine ⟨by kernel_rfl, ?_⟩
  (conv => whnf)
  refine ⟨by kernel_rfl, ?_⟩
  (conv => whnf)
  refine callV_pure attributes_ok trivial ?_
  (conv => whnf)
  refine callV_loop [(1, .ptr 2 0), (3, .ptr 3 0), (4, .ptr 4 0), (5, .ptr 5 0), (6, .ptr 6 0), (7, .ptr 7 0), (8, .ptr 8 0)] ⟨rfl, rfl, rfl, rfl, rfl, rfl, rfl, trivial⟩ fun asg' body' hasg hbody => ?_
  refine callV_of (fn := Go.Proofs.Try.f95) (body := _) tab_ok mixed rfl rfl (by decide) (by simp [Go.Proofs.Try.f95]) ?_
  (conv => whnf)
  intro _
  (conv => whnf)
  refine vcg_once tab_ok mixed ?_
  (conv => whnf)
  refine ⟨rfl, _, ⟨by simp, rfl⟩, ?_⟩
  (conv => whnf)
  subst hasg hbody
  refine roundV_of tab_ok mixed rfl (by simp) (show 9 < 11 by omega) ?_
  (conv => whnf)
  refine ⟨rfl, ?_⟩
  (conv => whnf)
  refine ⟨by kernel_rfl, ?_⟩
  (conv => whnf)
  refine ⟨rfl, ⟨by decide, by decide, by decide, by decide⟩, ?_⟩
  (conv => whnf)
  refine ⟨by kernel_rfl, ?_⟩
  (conv => whnf)
  refine callV_of (fn := Go.Proofs.Try.f62) (body := _) tab_ok mixed rfl rfl (by decide) (by simp [Go.Proofs.Try.f62]) ?_
  (conv => whnf)
  intro _
  (conv => whnf)
  refine ⟨rfl, [.int .u8 3], ⟨by decide, rfl⟩, ?_⟩
  (conv => whnf)
  refine ⟨rfl, [.int .u8 3], ⟨by decide, rfl⟩, ?_⟩
  (conv => whnf)
  refine ⟨_, _, _, Ends.here, ?_⟩
  (conv => whnf)
  refine ⟨rfl, ?_⟩
  (conv => whnf)
  refine ⟨_, _, _, Ends.here, ?_⟩
  (conv => whnf)
  refine ⟨rfl, ⟨by decide, by decide⟩, ?_⟩
  (conv => whnf)
  refine ⟨by kernel_rfl, ?_⟩
  (conv => whnf)
  refine ⟨_, _, _, Ends.here, ?_⟩
  (conv => whnf)
  exact Ends.pure [] (.tupL ⟨.noA, .int_of rfl, trivial⟩) (by simp)
end Go.Proofs.Ytcfkendgjinmiaa
