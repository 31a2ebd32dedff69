/- Contracts: what may be said (Check, Right). -/
import Derived.Test.YtcfkendgjinmiaaC3
set_option linter.unusedVariables false
set_option linter.unusedSimpArgs false
namespace Go.Proofs.Ytcfkendgjinmiaa
open Go.RowKit
open Go.Proofs.Try (prog)
attribute [local irreducible] CallV RoundV

set_option maxRecDepth 100000 in
theorem indexFunc_ok (fr : Bool) (l : List Leg) : ∃ n : Int, PCon prog 101 [encLegs fr l, .fn (.func 81) [] []] (.int .i64 n) ∧ (0 ≤ n ↔ l.all legOk = false) := by
  refine ⟨if l.all legOk then -1 else (l.findIdx (!legOk ·) : Nat), ?_, by split <;> rename_i h <;> simp [h]⟩
  refine callV_of (fn := Go.Proofs.Try.f101) (body := _) tab_ok mixed rfl rfl (by decide) (by simp [Go.Proofs.Try.f101]) ?_
  (conv => whnf)
  intro hl
  have hl : l.length ≤ maxLen := by simpa [gd] using hl
  (conv => whnf)
  refine vcg_loop tab_ok mixed (fun i : {i : Nat // i ≤ l.length ∧ (l.take i).all legOk = true} => ⟨[(0, encLegs fr l), (1, .fn (.func 81) [] []), (7, cI l.length), (8, cI i.1)], [], 0⟩) (fun i => l.length - i.1) ⟨0, by omega, rfl⟩ (Wk.of id [] ⟨?_, ?_, ?_, ?_, trivial⟩ (LeH.nil (Nat.le_refl _) (fun b h => by omega) (by simp))) (fun i => ?_)
  · exact .free (encLegs_free _ _)
  · exact .free (.fn (by simp) (by simp))
  · exact .int_of (by simp)
  · exact .int_of rfl
  obtain ⟨i, hi, hz⟩ := i
  (conv => whnf)
  split
  · rename_i hc
    have hc : i < l.length := by simpa using hc
    (conv => whnf)
    refine ⟨rfl, _, ⟨by simp only; omega, idxL hc⟩, ?_⟩
    (conv => whnf)
    refine callV_pure (path1_ok fr l[i]) ⟨.free (.agg (encLeg_free _ _)), trivial⟩ ?_
    (conv => whnf)
    split
    · rename_i h1
      (conv => whnf)
      refine Ends.pure [] (.int_of ?_) (by simp)
      have h1 : legOk l[i] = false := by simpa using h1
      have := all_false (p := legOk) hc h1
      rw [if_neg (by rw [this]; simp)]
      congr 1
      symm
      rw [List.findIdx_eq hc]
      refine ⟨by simp [h1], fun j hj => ?_⟩
      rw [List.all_eq_true] at hz
      have := hz (l[j]'(by omega)) (by rw [List.mem_take_iff_getElem]; exact ⟨j, by omega, rfl⟩)
      simpa using this
    · rename_i h1
      (conv => whnf)
      refine ⟨⟨i + 1, by omega, ?_⟩, Wk.of id [] ⟨?_, ?_, ?_, ?_, trivial⟩ (LeH.nil (Nat.le_refl _) (fun b h => by omega) (by simp)), by simp only; omega⟩
      · rw [all_take_succ hc, hz]; simpa using h1
      · exact .free (encLegs_free _ _)
      · exact .free (.fn (by simp) (by simp))
      · exact .int_of rfl
      · exact .int_of (wrap64_succ hc hl)
  · rename_i hc
    have hc : i = l.length := by simp at hc; omega
    subst hc
    (conv => whnf)
    refine Ends.pure [] (.int_of ?_) (by simp)
    rw [List.take_length] at hz
    rw [if_pos hz]
set_option maxRecDepth 100000 in
theorem containsFunc_ok (fr : Bool) (l : List Leg) : PCon prog 83 [encLegs fr l, .fn (.func 81) [] []] (.bool (!l.all legOk)) := by
  obtain ⟨n, hn, hiff⟩ := indexFunc_ok fr l
  refine callV_of (fn := Go.Proofs.Try.f83) (body := _) tab_ok mixed rfl rfl (by decide) (by simp [Go.Proofs.Try.f83]) ?_
  (conv => whnf)
  refine callV_pure hn ⟨.free (encLegs_free _ _), .free (.fn (by simp) (by simp)), trivial⟩ ?_
  (conv => whnf)
  refine Ends.pure [] (.bool_of ?_) (by simp)
  cases hb : l.all legOk with
  | true => rw [hb] at hiff; simp at hiff; simp; omega
  | false => have := hiff.2 hb; simp; omega
set_option maxRecDepth 100000 in
theorem path_ok (fr : Bool) (l : List Leg) : PCon prog 38 [encLegs fr l] (.bool (pathOk l)) := by
  refine callV_of (fn := Go.Proofs.Try.f38) (body := _) tab_ok mixed rfl rfl (by decide) (by simp [Go.Proofs.Try.f38]) ?_
  (conv => whnf)
  intro hl
  (conv => whnf)
  split
  · rename_i h0
    (conv => whnf)
    refine callV_pure (containsFunc_ok fr l) ⟨.free (encLegs_free _ _), .free (.fn (by simp) (by simp)), trivial⟩ ?_
    (conv => whnf)
    refine Ends.pure [] (.bool_of ?_) (by simp)
    simp at h0
    simp [pathOk]
    omega
  · rename_i h0
    (conv => whnf)
    refine Ends.pure [] (.bool_of ?_) (by simp)
    simp at h0
    simp [pathOk]
    omega

def rightA (a : Attrs) : Bool := decide ((a.origin.toNat : Int) ≤ 2) && pathOk a.path && a.next != 0 && (a.hasMed || a.med == 0) && (a.hasPref || a.pref == 0) && decide ((a.tags.length : Int) ≤ 16) && rises a.tags
theorem u32_ne {x : UInt32} : ((x.toNat : Int) != 0) = (x != 0) := by
  cases h : x != 0 with
  | true => simp only [bne_iff_ne, ne_eq] at h ⊢; intro e; exact h (UInt32.toNat_inj.1 (by simp; omega))
  | false => simp only [bne_eq_false_iff_eq] at h ⊢; subst h; rfl
theorem u32_eq {x : UInt32} : ((x.toNat : Int) == 0) = (x == 0) := by
  have := congrArg (!·) (u32_ne (x := x))
  simpa [bne] using this

set_option maxRecDepth 100000 in
set_option maxHeartbeats 4000000 in
theorem right_ok (fr : Bool) (a : Attrs) : PCon prog 17 [encA fr a] (.bool (rightA a)) := by
  refine callV_of (fn := Go.Proofs.Try.f17) (body := _) tab_ok mixed rfl rfl (by decide) (by simp [Go.Proofs.Try.f17]) ?_
  have fin : ∀ {s : St} {b : Bool}, rightA a = b → ∃ v1 h' nx', Ends 0 s (.bool b) v1 h' nx' ∧ (v1 = .bool (rightA a) ∧ h' = [] ∧ nx' = 0) := fun h => Ends.pure [] (.bool_of h.symm) (by simp)
  (conv => whnf)
  split
  case' h_1 =>
    (conv => whnf)
    refine callV_pure (ref_path_ok fr a.path) ⟨.free (encLegs_free _ _), trivial⟩ ?_
    (conv => whnf)
  repeat' first
    | refine fin ?_
    | (split <;> (conv => whnf))
    | (intro _; (conv => whnf))
    | (refine callV_pure (ref_rise_ok fr a.tags) ⟨.free (encW_free _ _), trivial⟩ ?_; (conv => whnf))
  all_goals (clear fin; try simp only [u32_ne, u32_eq] at *)
  all_goals (try simp_all [rightA])
  all_goals (intros; exfalso; omega)

def checkA (a : Attrs) : Int := if rightA a then 0 else 2
theorem checkA_no {a : Attrs} (h : rightA a = false) : checkA a = 2 := by simp [checkA, h]
theorem checkA_yes {a : Attrs} (h : rightA a = true) : checkA a = 0 := by simp [checkA, h]
set_option maxRecDepth 100000 in
set_option maxHeartbeats 8000000 in
theorem check_ok (fr : Bool) (a : Attrs) : PCon prog 15 [encA fr a] (.int .i64 (checkA a)) := by
  refine callV_of (fn := Go.Proofs.Try.f15) (body := _) tab_ok mixed rfl rfl (by decide) (by simp [Go.Proofs.Try.f15]) ?_
  have fin0 : ∀ {s : St}, rightA a = true → ∃ v1 h' nx', Ends 0 s (.int .i64 0) v1 h' nx' ∧ (v1 = .int .i64 (checkA a) ∧ h' = [] ∧ nx' = 0) := fun h => Ends.pure [] (.int_of (checkA_yes h).symm) (by simp)
  have fin2 : ∀ {s : St}, rightA a = false → ∃ v1 h' nx', Ends 0 s (.int .i64 2) v1 h' nx' ∧ (v1 = .int .i64 (checkA a) ∧ h' = [] ∧ nx' = 0) := fun h => Ends.pure [] (.int_of (checkA_no h).symm) (by simp)
  (conv => whnf)
  repeat' first
    | refine fin0 ?_
    | refine fin2 ?_
    | (split <;> (conv => whnf))
    | (intro _; (conv => whnf))
    | (refine ⟨by kernel_rfl, ?_⟩; (conv => whnf))
    | (refine callV_pure (path_ok fr a.path) ⟨.free (encLegs_free _ _), trivial⟩ ?_; (conv => whnf))
    | (refine callV_pure (rise_ok fr a.tags) ⟨.free (encW_free _ _), trivial⟩ ?_; (conv => whnf))
  all_goals (clear fin0 fin2; try simp only [u32_ne, u32_eq] at *)
  all_goals (try simp_all [rightA])
  all_goals (try (intros; exfalso; omega))
end Go.Proofs.Ytcfkendgjinmiaa
