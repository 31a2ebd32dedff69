/- Contracts: numbers read; lengths. -/
import Derived.Test.YtcfkendgjinmiaaD1
import Derived.Laws.BitsLemmas
set_option linter.unusedVariables false
set_option linter.unusedSimpArgs false
namespace Go.Proofs.Ytcfkendgjinmiaa
open Go.RowKit
open Go.Proofs.Try (prog)
attribute [local irreducible] CallV RoundV

theorem shl_or (n : UInt32) (c : UInt8) : bits .or .u32 (IntKind.u32.wrap ((n.toNat : Int) * 2 ^ (min (Int.toNat 8) IntKind.u32.bits))) (IntKind.u32.wrap (c.toNat : Int)) = ((n * 256 + c.toUInt32).toNat : Int) := by
  have hn := n.toNat_lt
  have hc := c.toNat_lt
  have e : (2 : Int) ^ (min (Int.toNat 8) IntKind.u32.bits) = 256 := by decide
  have e1 : IntKind.u32.wrap (c.toNat : Int) = c.toNat := by rw [wrap32]; omega
  rw [e, e1, wrap32]
  rw [bits_join .u32 32 (by decide) (fun n h0 h1 => by rw [wrap32]; omega) 8 _ _ (by omega) (by omega) (by omega) (by omega) (by omega) (by omega)]
  simp [UInt32.toNat_add, UInt32.toNat_mul]
  omega
set_option maxRecDepth 100000 in
theorem number_ok (fr : Bool) (b : List UInt8) : PCon prog 97 [encB fr b] (cW (wordOf b)) := by
  refine callV_of (fn := Go.Proofs.Try.f97) (body := _) tab_ok mixed rfl rfl (by decide) (by simp [Go.Proofs.Try.f97]) ?_
  (conv => whnf)
  intro hl
  have hl : b.length ≤ maxLen := by simpa [gd] using hl
  (conv => whnf)
  refine vcg_loop tab_ok mixed (fun i : {i : Nat // i ≤ b.length} => ⟨[(2, cW (wordOf (b.take i.1))), (5, encB fr b), (6, cI b.length), (7, cI i.1)], [], 0⟩) (fun i => b.length - i.1) ⟨0, by omega⟩ (Wk.of id [] ⟨.int_of rfl, .free (encB_free _ _), .int_of (by simp), .int_of rfl, trivial⟩ (LeH.nil (Nat.le_refl _) (fun b h => by omega) (by simp))) (fun i => ?_)
  obtain ⟨i, hi⟩ := i
  (conv => whnf)
  split
  · rename_i hc
    have hc : i < b.length := by simpa using hc
    (conv => whnf)
    refine ⟨rfl, _, ⟨by first | omega | (simp only; omega), idxB hc⟩, ?_⟩
    (conv => whnf)
    refine ⟨by decide, ?_⟩
    (conv => whnf)
    refine ⟨⟨i + 1, by omega⟩, Wk.of id [] ⟨.int_of ?_, .free (encB_free _ _), .int_of rfl, .int_of (wrap64_succ hc hl), trivial⟩ (LeH.nil (Nat.le_refl _) (fun b h => by omega) (by simp)), by simp only; omega⟩
    rw [wordOf_take hc]
    exact shl_or _ _
  · rename_i hc
    have hc : i = b.length := by simp at hc; omega
    subst hc
    (conv => whnf)
    exact Ends.pure [] (.int_of (by simp)) (by simp)
end Go.Proofs.Ytcfkendgjinmiaa
