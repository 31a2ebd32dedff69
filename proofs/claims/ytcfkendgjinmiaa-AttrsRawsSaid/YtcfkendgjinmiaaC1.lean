/- Contracts of small functions. -/
import Derived.Test.YtcfkendgjinmiaaC0
set_option linter.unusedVariables false
set_option linter.unusedSimpArgs false
namespace Go.Proofs.Ytcfkendgjinmiaa
open Go.RowKit
open Go.Proofs.Try (prog)
attribute [local irreducible] CallV RoundV

/-- A number of bytes, the higher ahead. -/
def wordOf (b : List UInt8) : UInt32 := b.foldl (fun n c => n * 256 + c.toUInt32) 0
theorem wordOf_take {b : List UInt8} {i : Nat} (h : i < b.length) : wordOf (b.take (i + 1)) = wordOf (b.take i) * 256 + b[i].toUInt32 := by
  rw [List.take_succ_eq_append_getElem h, wordOf, List.foldl_append]; rfl
set_option maxRecDepth 100000 in
theorem word_ok (fr : Bool) (b : List UInt8) : PCon prog 86 [encB fr b] (.int .u32 (wordOf b).toNat) := by
  refine callV_of (fn := Go.Proofs.Try.f86) (body := _) tab_ok mixed rfl rfl (by decide) (by simp [Go.Proofs.Try.f86]) ?_
  (conv => whnf)
  refine vcg_loop tab_ok mixed (fun i : {i : Nat // i ≤ b.length} => ⟨[(0, encB fr b), (3, .int .u32 (wordOf (b.take i.1)).toNat), (4, .int .i64 i.1)], [], 0⟩) (fun i => b.length - i.1) ⟨0, Nat.zero_le _⟩ (Wk.of id [] ⟨?_, ?_, ?_, trivial⟩ (LeH.nil (Nat.le_refl _) (fun b h => by omega) (by simp))) (fun i => ?_)
  · exact .free (encB_free _ _)
  · exact .int_of rfl
  · exact .int_of rfl
  obtain ⟨i, hi⟩ := i
  (conv => whnf)
  intro hl
  have hl : b.length ≤ maxLen := by simpa [gd] using hl
  (conv => whnf)
  split
  · rename_i hc
    have hc : i < b.length := by simpa using hc
    (conv => whnf)
    refine ⟨rfl, [.int .u8 b[i].toNat], ⟨by omega, by simp [hc]⟩, ?_⟩
    (conv => whnf)
    refine ⟨⟨i + 1, by omega⟩, Wk.of id [] ⟨?_, ?_, ?_, trivial⟩ (LeH.nil (Nat.le_refl _) (fun b h => by omega) (by simp)), by simp only; omega⟩
    · exact .free (encB_free _ _)
    · refine .int_of ?_
      rw [wordOf_take hc, wrap32, wrap32, wrap32]
      simp [UInt32.toNat_add, UInt32.toNat_mul]
    · refine .int_of ?_
      simp only
      rw [wrap64] <;> unfold maxLen at hl <;> omega
  · rename_i hc
    have hc : i = b.length := by simp at hc; omega
    subst hc
    (conv => whnf)
    refine Ends.pure [] (.int_of ?_) (by simp)
    simp

def rises : List UInt32 → Bool
  | a :: b :: r => decide (a < b) && rises (b :: r)
  | _ => true
theorem rises_take_succ {l : List UInt32} : ∀ {i : Nat} (h : i + 1 < l.length), rises (l.take (i + 2)) = (rises (l.take (i + 1)) && decide (l[i] < l[i + 1])) := by
  induction l with
  | nil => intro i h; simp at h
  | cons a l ih =>
    intro i h
    cases l with
    | nil => simp at h
    | cons b r =>
      cases i with
      | zero => simp [rises]
      | succ i =>
        have := ih (i := i) (by simpa using h)
        simp only [List.take_succ_cons, List.getElem_cons_succ] at this ⊢
        cases i with
        | zero => simp [rises] at this ⊢; rw [this]
        | succ i =>
          simp only [List.take_succ_cons, rises] at this ⊢
          rw [this]
          simp [Bool.and_assoc]
theorem rises_take_false {l : List UInt32} {i : Nat} (h : i ≤ l.length) (hf : rises (l.take i) = false) : rises l = false := by
  induction l generalizing i with
  | nil => simp [rises] at hf
  | cons a l ih =>
    cases i with
    | zero => simp [rises] at hf
    | succ i =>
      cases l with
      | nil => simp [rises] at hf
      | cons b r =>
        cases i with
        | zero => simp [rises] at hf
        | succ i =>
          have h2 := ih (i := i + 1) (by simpa using h)
          simp only [List.take_succ_cons, rises, Bool.and_eq_false_iff] at hf h2 ⊢
          rcases hf with hf | hf
          · exact .inl hf
          · exact .inr (h2 hf)

set_option maxRecDepth 100000 in
theorem rise_ok (fr : Bool) (l : List UInt32) : PCon prog 39 [encW fr l] (.bool (rises l)) := by
  refine callV_of (fn := Go.Proofs.Try.f39) (body := _) tab_ok mixed rfl rfl (by decide) (by simp [Go.Proofs.Try.f39]) ?_
  (conv => whnf)
  intro hl
  have hl : l.length ≤ maxLen := by simpa [gd] using hl
  (conv => whnf)
  refine vcg_loop tab_ok mixed (fun i : {i : Nat // i ≤ l.length ∧ rises (l.take i) = true} => ⟨[(0, encW fr l), (5, .int .i64 l.length), (6, .int .i64 i.1)], [], 0⟩) (fun i => l.length - i.1) ⟨0, Nat.zero_le _, rfl⟩ (Wk.of id [] ⟨?_, ?_, ?_, trivial⟩ (LeH.nil (Nat.le_refl _) (fun b h => by omega) (by simp))) (fun i => ?_)
  · exact .free (encW_free _ _)
  · exact .int_of (by simp)
  · exact .int_of rfl
  obtain ⟨i, hi, hr⟩ := i
  (conv => whnf)
  split
  · rename_i hc
    have hc : i < l.length := by simpa using hc
    (conv => whnf)
    split
    · rename_i h0
      obtain ⟨k, rfl⟩ : ∃ k, i = k + 1 := ⟨i - 1, by simp at h0; omega⟩
      have e1 : IntKind.i64.wrap (((k + 1 : Nat) : Int) - 1) = k := by rw [wrap64'] ; unfold maxLen at hl; omega
      refine ⟨rfl, [.int .u32 (l[k]'(by omega)).toNat], ⟨by simp only [e1]; omega, by simp only [e1]; exact idxW _⟩, ?_⟩
      (conv => whnf)
      refine ⟨rfl, [.int .u32 (l[k + 1]).toNat], ⟨by simp only; omega, idxW _⟩, ?_⟩
      (conv => whnf)
      refine ⟨by kernel_rfl, ?_⟩
      (conv => whnf)
      split
      · rename_i h1
        (conv => whnf)
        refine Ends.pure [] (.bool_of ?_) (by simp)
        symm
        refine rises_take_false (i := k + 2) (by omega) ?_
        rw [rises_take_succ hc]
        simp only [Bool.and_eq_false_iff, decide_eq_false_iff_not]
        right
        simpa [UInt32.lt_iff_toNat_lt] using h1
      · rename_i h1
        (conv => whnf)
        refine ⟨⟨k + 2, by omega, ?_⟩, Wk.of id [] ⟨?_, ?_, ?_, trivial⟩ (LeH.nil (Nat.le_refl _) (fun b h => by omega) (by simp)), by simp only; omega⟩
        · rw [rises_take_succ hc, hr]
          simpa [UInt32.lt_iff_toNat_lt] using h1
        · exact .free (encW_free _ _)
        · exact .int_of rfl
        · refine .int_of ?_
          simp only
          rw [wrap64] <;> unfold maxLen at hl <;> omega
    · rename_i h0
      have h0 : i = 0 := by simp at h0; omega
      subst h0
      (conv => whnf)
      refine ⟨by kernel_rfl, ?_⟩
      (conv => whnf)
      refine ⟨⟨1, by omega, ?_⟩, Wk.of id [] ⟨?_, ?_, ?_, trivial⟩ (LeH.nil (Nat.le_refl _) (fun b h => by omega) (by simp)), by simp only; omega⟩
      · cases l with
        | nil => rfl
        | cons a l => simp [rises]
      · exact .free (encW_free _ _)
      · exact .int_of rfl
      · exact .int_of rfl
  · rename_i hc
    have hc : i = l.length := by simp at hc; omega
    subst hc
    (conv => whnf)
    refine Ends.pure [] (.bool_of ?_) (by simp)
    simpa using hr.symm
end Go.Proofs.Ytcfkendgjinmiaa
