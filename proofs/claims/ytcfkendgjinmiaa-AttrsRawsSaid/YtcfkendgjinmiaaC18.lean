/- Contracts: numbers read off bytes. -/
import Derived.Test.YtcfkendgjinmiaaC17
set_option linter.unusedVariables false
set_option linter.unusedSimpArgs false
namespace Go.Proofs.Ytcfkendgjinmiaa
open Go.RowKit
open Go.Proofs.Try (prog)
attribute [local irreducible] CallV RoundV

abbrev rowsW (b : List UInt32) : List (List V) := b.map fun x => [V.int .u32 x.toNat]
/-- The first k numbers of four bytes. -/
def numsK (b : List UInt8) (k : Nat) : List UInt32 := (List.range k).map fun j => wordOf ((b.drop (4 * j)).take 4)
theorem numsK_succ (b : List UInt8) (k : Nat) : numsK b (k + 1) = numsK b k ++ [wordOf ((b.drop (4 * k)).take 4)] := by
  simp [numsK, List.range_succ]
theorem numsK_len (b : List UInt8) (k : Nat) : (numsK b k).length = k := by simp [numsK]
set_option maxRecDepth 100000 in
theorem numbers_ok (fr : Bool) (b : List UInt8) (m : Nat) (hm : b.length = 4 * m) (hb : m ≤ 1000) : PCon prog 79 [encB fr b] (encW true (numsK b m)) := by
  refine callV_of (fn := Go.Proofs.Try.f79) (body := _) tab_ok mixed rfl rfl (by decide) (by simp [Go.Proofs.Try.f79]) ?_
  (conv => whnf)
  refine callV_of (fn := Go.Proofs.Try.f98) (body := _) tab_ok mixed rfl rfl (by decide) (by simp [Go.Proofs.Try.f98]) ?_
  (conv => whnf)
  refine ⟨_, _, _, Ends.here, ?_⟩
  (conv => whnf)
  refine callV_loop [(2, .ptr 0 0)] ⟨rfl, trivial⟩ fun asg' body' hasg hbody => ?_
  refine callV_of (fn := Go.Proofs.Try.f107) (body := _) tab_ok mixed rfl rfl (by decide) (by simp [Go.Proofs.Try.f107]) ?_
  (conv => whnf)
  refine vcg_loop tab_ok mixed (fun k : {k : Nat // k ≤ m} => ⟨[(0, .yld 3), (1, .ptr 1 0), (2, .ptr 2 0), (4, cI (4 * k.1))], [(3, some (.loop 13 [(2, .ptr 0 0)] [6] asg' body' .ready none)), (0, some (.var true 24 [.osl 4 1 0 k.1])), (1, some (.var true 30 [encB fr b])), (2, some (.var true 3 [.int .i64 4])), (4, some (.arr true false 23 1 (rowsW (numsK b k.1))))], 5⟩) (fun k => m - k.1) ⟨0, by omega⟩ ?_ (fun k => ?_)
  · exact Wk.of id [] ⟨.yld rfl (by omega), .ptr rfl (by omega), .ptr rfl (by omega), .int_of rfl, trivial⟩ (LeH.of ⟨⟨by omega, .inl ⟨by simp, _, rfl, rfl, rfl, rfl, rfl, rfl, rfl, .ptr rfl (by omega), trivial⟩⟩, ⟨by omega, .inl ⟨by simp, _, rfl, id, rfl, .osl0, trivial⟩⟩, ⟨by omega, .inl ⟨by simp, _, rfl, id, rfl, .free (encB_free _ _), trivial⟩⟩, ⟨by omega, .inl ⟨by simp, _, rfl, id, rfl, .int_of rfl, trivial⟩⟩, ⟨by omega, .inr ⟨by simp, _, _, _, _, rfl⟩⟩, trivial⟩ (fun _ _ _ _ h => h) (fun _ _ => rfl) (by omega) (by simp))
  obtain ⟨k, hk⟩ := k
  (conv => whnf)
  intro hl
  have hl : b.length ≤ maxLen := by simpa [gd] using hl
  (conv => whnf)
  split
  · rename_i hc
    have hc : k < m := by simp at hc; omega
    (conv => whnf)
    refine ⟨rfl, ?_⟩
    (conv => whnf)
    refine ⟨⟨by omega, by simp; omega⟩, ?_⟩
    (conv => whnf)
    refine ⟨by kernel_rfl, ?_⟩
    (conv => whnf)
    have hmin : (if (((List.drop ((4 * k : Nat) : Int).toNat (List.map (fun x => [V.int .u8 x.toNat]) b)).length : Nat) : Int) < 4 then (((List.drop ((4 * k : Nat) : Int).toNat (List.map (fun x => [V.int .u8 x.toNat]) b)).length : Nat) : Int) else 4) = 4 := by
      rw [if_neg]
      simp
      omega
    have hw : IntKind.i64.wrap (((4 * k : Nat) : Int) + 4) = ((4 * (k + 1) : Nat) : Int) := by rw [wrap64] <;> unfold maxLen at hl <;> omega
    refine ⟨rfl, ?_⟩
    (conv => whnf)
    refine ⟨by simp only [hmin, hw]; refine ⟨by omega, by omega, by omega, ?_, Nat.le_refl _, ?_⟩ <;> simp <;> omega, ?_⟩
    simp only [hmin, hw]
    (conv => whnf)
    have hsl : List.drop ((4 * k : Nat) : Int).toNat (List.take ((4 * (k + 1) : Nat) : Int).toNat (List.map (fun x => [V.int .u8 x.toNat]) b)) = rowsB ((b.drop (4 * k)).take 4) := by
      rw [Int.toNat_natCast, Int.toNat_natCast, ← List.map_take, ← List.map_drop, List.drop_take, show 4 * (k + 1) - 4 * k = 4 by omega]
    simp only [hsl]
    subst hasg hbody
    refine roundV_of tab_ok mixed rfl (by simp) (show 3 < 5 by omega) ?_
    (conv => whnf)
    refine ⟨rfl, ?_⟩
    (conv => whnf)
    refine ⟨cW (wordOf ((b.drop (4 * k)).take 4)), [], fun h nx _ => ?_, by simp, ?_⟩
    · refine pureV_pure (number_ok fr _) ?_
      exact ⟨.free (encB_free _ _), trivial⟩
    (conv => whnf)
    refine ⟨rfl, by simp, ⟨rfl, rfl, rfl, rfl, by decide⟩, by simp [numsK_len], ⟨by simp [tab, tabOf, nth]; omega, by simp; omega⟩, ?_⟩
    (conv => whnf)
    refine ⟨by kernel_rfl, ?_⟩
    (conv => whnf)
    refine ⟨rfl, ?_⟩
    (conv => whnf)
    refine ⟨⟨k + 1, by omega⟩, Wk.of (renOf [(4, 6)]) [] ⟨.yld rfl (by omega), .ptr rfl (by omega), .ptr rfl (by omega), .int_of hw, trivial⟩ (LeH.of ⟨⟨by omega, .inl ⟨by simp, _, rfl, rfl, rfl, rfl, rfl, rfl, rfl, .ptr rfl (by omega), trivial⟩⟩, ⟨by omega, .inl ⟨by simp, _, rfl, id, rfl, .osl_of rfl (by omega) (by simp), trivial⟩⟩, ⟨by omega, .inl ⟨by simp, _, rfl, id, rfl, .free (encB_free _ _), trivial⟩⟩, ⟨by omega, .inl ⟨by simp, _, rfl, id, rfl, .int_of rfl, trivial⟩⟩, ⟨by omega, .inl ⟨by simp, _, rfl, LeB.eq_of ?_ (rowsW_free _)⟩⟩, trivial⟩ (show ∀ b ∈ [3, 0, 1, 2, 4], ∀ b' ∈ [3, 0, 1, 2, 4], renOf [(4, 6)] b = renOf [(4, 6)] b' → b = b' by decide) (show ∀ b, b < 4 → renOf [(4, 6)] b = b by decide) (by omega) (by simp)), by simp only; omega⟩
    simp only
    rw [numsK_succ, List.take_of_length_le (by simp [numsK_len])]
    simp
  · rename_i hc
    have hc : k = m := by simp at hc; omega
    subst hc
    (conv => whnf)
    refine ⟨_, _, _, Ends.here, ?_⟩
    (conv => whnf)
    refine Ends.pure [4] (LeV.freeze_of (by simp) rfl (by simp [numsK_len]) (rowsW_free _) ?_) (one_none rfl)
    simp only [List.drop_zero]
    exact List.take_of_length_le (by simp [numsK_len])
end Go.Proofs.Ytcfkendgjinmiaa
