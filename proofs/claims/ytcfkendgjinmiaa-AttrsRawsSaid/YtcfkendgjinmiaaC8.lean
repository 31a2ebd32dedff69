/- Contracts: lists of numbers written; paths written. -/
import Derived.Test.YtcfkendgjinmiaaC7
set_option linter.unusedVariables false
set_option linter.unusedSimpArgs false
namespace Go.Proofs.Ytcfkendgjinmiaa
open Go.RowKit
open Go.Proofs.Try (prog)
attribute [local irreducible] CallV RoundV

abbrev rowsB (b : List UInt8) : List (List V) := b.map fun x => [V.int .u8 x.toNat]
theorem LeV.freezeB {h : Heap} {nx nx' : Nat} {ρ : Nat → Nat} {Z : List Nat} {b n : Nat} {fr ex : Bool} {ty : TypeId} {rows : List (List V)} {bs : List UInt8} (hz : b ∈ Z) (hb : hget h b = some (.arr fr ex ty 1 rows)) (e : rows = rowsB bs) (hn : n = bs.length) :
    LeV h nx ρ nx' Z (.osl b 1 0 n) (encB fr bs) := by
  subst e
  exact LeV.freeze_of hz hb (by simp [hn]) (rowsB_free _) (by simp only [List.drop_zero]; exact List.take_of_length_le (by simp [hn]))
theorem one_none {h : Heap} {b : Nat} {x : Blk} (hb : hget h b = some x) : ∀ z ∈ [b], hget h z ≠ none := fun z hz => by
  obtain rfl := List.mem_singleton.1 hz
  exact ne_none_of hb
theorem u8_int (x : UInt8) : IntKind.u8.wrap (x.toNat : Int) = x.toNat := by
  have := x.toNat_lt
  rw [wrap8]; omega
theorem u8_nat (n : Nat) : IntKind.u8.wrap (n : Int) = (UInt8.ofNat n).toNat := by
  rw [wrap8]; simp
def allB (l : List UInt32) : List UInt8 := l.flatMap fourB
theorem allB_len (l : List UInt32) : (allB l).length = 4 * l.length := by
  induction l with
  | nil => rfl
  | cons x l ih =>
    have e : allB (x :: l) = fourB x ++ allB l := by unfold allB; rw [List.flatMap_cons]
    have e4 : (fourB x).length = 4 := rfl
    rw [e, List.length_append, e4, ih, List.length_cons]
    omega
theorem allB_succ {l : List UInt32} {i : Nat} (h : i < l.length) : allB (l.take (i + 1)) = allB (l.take i) ++ fourB l[i] := by
  unfold allB
  rw [List.take_succ_eq_append_getElem h, List.flatMap_append, List.flatMap_cons, List.flatMap_nil, List.append_nil]

set_option maxRecDepth 100000 in
theorem all_ok (fr : Bool) (l : List UInt32) (hb : l.length ≤ 1000) : PCon prog 77 [encW fr l] (encB true (allB l)) := by
  refine callV_of (fn := Go.Proofs.Try.f77) (body := _) tab_ok mixed rfl rfl (by decide) (by simp [Go.Proofs.Try.f77]) ?_
  (conv => whnf)
  intro _
  (conv => whnf)
  refine vcg_loop tab_ok mixed (fun i : {i : Nat // i ≤ l.length} => ⟨[(2, .osl 0 1 0 (4 * i.1)), (5, encW fr l), (6, cI l.length), (7, cI i.1)], [(0, some (.arr true false 5 1 (rowsB (allB (l.take i.1)))))], 1⟩) (fun i => l.length - i.1) ⟨0, by omega⟩ ?_ (fun i => ?_)
  · refine Wk.of id [] ⟨?_, ?_, ?_, ?_, trivial⟩ (LeH.of ⟨⟨by omega, .inr ⟨by simp, _, _, _, _, rfl⟩⟩, trivial⟩ (fun _ _ _ _ h => h) (fun _ _ => rfl) (by omega) (by simp))
    · exact .osl0
    · exact .free (encW_free _ _)
    · exact .int_of (by simp)
    · exact .int_of rfl
  obtain ⟨i, hi⟩ := i
  (conv => whnf)
  split
  · rename_i hc
    have hc : i < l.length := by simpa using hc
    (conv => whnf)
    refine ⟨rfl, _, ⟨by simp only; omega, idxW hc⟩, ?_⟩
    (conv => whnf)
    refine callV_pure (high_ok l[i]) ⟨.free .int, .free .int, trivial⟩ ?_
    (conv => whnf)
    have hlen := allB_len (l.take i)
    rw [List.length_take, Nat.min_eq_left hi] at hlen
    refine ⟨⟨rfl, rfl, rfl, rfl, by decide⟩, by simp [rowsB, hlen], ⟨by simp [tab, tabOf, nth, fourB]; omega, by simp [fourB]; omega⟩, ?_⟩
    (conv => whnf)
    refine ⟨⟨i + 1, by omega⟩, Wk.of (renOf [(0, 1)]) [] ⟨?_, ?_, ?_, ?_, trivial⟩ (LeH.of ⟨⟨by omega, .inl ⟨by simp, _, rfl, LeB.eq_of ?_ ?_⟩⟩, trivial⟩ (by simp) (fun b hb => by omega) (by omega) (by simp)), by simp only; omega⟩
    · exact .osl_of rfl (by omega) (by simp [fourB]; omega)
    · exact .free (encW_free _ _)
    · exact .int_of rfl
    · exact .int_of (wrap64_succ hc (show l.length ≤ maxLen by unfold maxLen; omega))
    · simp only
      rw [allB_succ hc, List.take_of_length_le (by simp [rowsB, hlen])]
      simp [rowsB]
    · exact rowsB_free _
  · rename_i hc
    have hc : i = l.length := by simp at hc; omega
    subst hc
    (conv => whnf)
    refine Ends.pure [0] ?_ ?_
    · refine LeV.freeze_of (by simp) rfl ?_ (rowsB_free _) ?_
      · simp [rowsB, allB_len]
      · simp only [List.take_length, List.drop_zero]
        exact List.take_of_length_le (by simp [rowsB, allB_len])
    · intro z hz
      obtain rfl := List.mem_singleton.1 hz
      exact ne_none_of rfl
end Go.Proofs.Ytcfkendgjinmiaa
