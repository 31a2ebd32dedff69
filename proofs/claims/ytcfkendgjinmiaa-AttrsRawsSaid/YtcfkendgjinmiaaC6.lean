/- Contracts of the law's own helpers. -/
import Derived.Test.YtcfkendgjinmiaaC5
set_option linter.unusedVariables false
set_option linter.unusedSimpArgs false
namespace Go.Proofs.Ytcfkendgjinmiaa
open Go.RowKit
open Go.Proofs.Try (prog)
attribute [local irreducible] CallV RoundV

set_option maxRecDepth 100000 in
theorem num_ok (n : Int) : PCon prog 18 [.int .i64 n] (.int .i64 n) := by
  refine callV_of (fn := Go.Proofs.Try.f18) (body := _) tab_ok mixed rfl rfl (by decide) (by simp [Go.Proofs.Try.f18]) ?_
  (conv => whnf)
  exact Ends.pure [] (.int_of rfl) (by simp)

def fewA (a : Attrs) : Bool := a.path.all (fun p => decide (p.ns.length ≤ 60)) && decide (a.path.length ≤ 20) && decide (a.tags.length ≤ 60)
set_option maxRecDepth 100000 in
theorem few_ok (fr : Bool) (a : Attrs) : PCon prog 11 [encA fr a] (.bool (fewA a)) := by
  refine callV_of (fn := Go.Proofs.Try.f11) (body := _) tab_ok mixed rfl rfl (by decide) (by simp [Go.Proofs.Try.f11]) ?_
  have fin : ∀ {s : St} {r : Bool}, fewA a = r → ∃ v1 h' nx', Ends 0 s (.bool r) v1 h' nx' ∧ (v1 = .bool (fewA a) ∧ h' = [] ∧ nx' = 0) := fun h => Ends.pure [] (.bool_of h.symm) (by simp)
  have cell : ∀ {fr0 : Bool} {x : Attrs}, FreeB (.var true 26 (cellsA fr0 x)) := fun {fr0 x} => cellsA_free fr0 x
  (conv => whnf)
  refine vcg_loop tab_ok mixed (fun i : {i : Nat // i ≤ a.path.length ∧ (a.path.take i).all (fun p => decide (p.ns.length ≤ 60)) = true} => ⟨[(1, .ptr 0 0), (3, cI i.1)], [(0, some (.var true 26 (cellsA fr a)))], 1⟩) (fun i => a.path.length - i.1) ⟨0, by omega, rfl⟩ (Wk.of id [] ⟨?_, ?_, trivial⟩ (LeH.same ⟨⟨rfl, cell, by omega⟩, trivial⟩ (by omega))) (fun i => ?_)
  · exact .ptr rfl (by omega)
  · exact .int_of rfl
  obtain ⟨i, hi, hr⟩ := i
  (conv => whnf)
  intro hl
  have hl : a.path.length ≤ maxLen := by simpa [gd] using hl
  (conv => whnf)
  split
  · rename_i hc
    have hc : i < a.path.length := by simpa using hc
    (conv => whnf)
    refine ⟨rfl, _, ⟨by simp only; omega, idxL hc⟩, ?_⟩
    (conv => whnf)
    refine fun (_ : gd none _) => ?_
    (conv => whnf)
    split
    · rename_i h1
      (conv => whnf)
      refine fin ?_
      have := all_false (p := fun p => decide (p.ns.length ≤ 60)) hc (by simp at h1; simp; omega)
      simp only [fewA, this, Bool.false_and]
    · rename_i h1
      (conv => whnf)
      refine ⟨⟨i + 1, by omega, ?_⟩, Wk.of id [] ⟨?_, ?_, trivial⟩ (LeH.same ⟨⟨rfl, cell, by omega⟩, trivial⟩ (by omega)), by simp only; omega⟩
      · rw [all_take_succ hc, hr]; simp at h1; simp; omega
      · exact .ptr rfl (by omega)
      · exact .int_of (wrap64_succ hc hl)
  · rename_i hc
    have hc : i = a.path.length := by simp at hc; omega
    subst hc
    (conv => whnf)
    refine fun (_ : gd none _) => ?_
    (conv => whnf)
    rw [List.take_length] at hr
    split
    · rename_i h1
      (conv => whnf)
      refine fun (_ : gd none _) => ?_
      (conv => whnf)
      refine fin ?_
      simp at h1
      simp only [fewA, hr, Bool.true_and, List.length_map]
      rw [decide_eq_true (show a.path.length ≤ 20 by omega), Bool.true_and]
      congr 1
      simp only [eq_iff_iff]
      omega
    · rename_i h1
      (conv => whnf)
      refine fin ?_
      simp at h1
      simp only [fewA, hr, Bool.true_and, Bool.and_eq_false_iff, decide_eq_false_iff_not]
      left; omega

/-- The cells of what says nothing. -/
def zeroA : List V := [.int .u8 0, .snil, .int .u32 0, .bool false, .int .u32 0, .bool false, .int .u32 0, .snil]
theorem zeroA_free : ∀ v ∈ zeroA, Free v := by
  intro v hv
  simp [zeroA] at hv
  rcases hv with rfl | rfl | rfl | rfl | rfl | rfl | rfl | rfl <;> first | exact .int | exact .bool | exact .snil

def rowsAt (fr : Bool) (l : List Leg) (i : Nat) : List (List V) := (l.take i).map (encLeg true) ++ (l.drop i).map (encLeg fr)
theorem rowsAt_len (fr : Bool) (l : List Leg) (i : Nat) : (rowsAt fr l i).length = l.length := by simp [rowsAt]; omega
theorem rowsAt_free (fr : Bool) (l : List Leg) (i : Nat) : ∀ x ∈ rowsAt fr l i, ∀ v ∈ x, Free v := by
  intro x hx v hv
  rcases List.mem_append.1 hx with hx | hx
  · exact rowsLegs_free true _ x hx v hv
  · exact rowsLegs_free fr _ x hx v hv
theorem rowsAt_get {fr : Bool} {l : List Leg} {i : Nat} (h : i < l.length) : (rowsAt fr l i)[i]? = some (encLeg fr l[i]) := by
  unfold rowsAt
  rw [List.getElem?_append_right (by simp; omega)]
  simp [List.length_take, Nat.min_eq_left (Nat.le_of_lt h), h]
theorem rowsAt_succ {fr : Bool} {l : List Leg} {i : Nat} (h : i < l.length) : rowsAt fr l (i + 1) = (rowsAt fr l i).set i (encLeg true l[i]) := by
  unfold rowsAt
  rw [List.take_succ_eq_append_getElem h, List.drop_eq_getElem_cons h, List.map_append, List.set_append_right _ _ (by simp; omega)]
  have e : (List.map (encLeg true) (List.take i l)).length = i := by simp; omega
  rw [e, Nat.sub_self]
  simp only [List.map_cons, List.map_nil, List.set_cons_zero, List.append_assoc, List.cons_append, List.nil_append]
theorem rowsAt_all (fr : Bool) (l : List Leg) : rowsAt fr l l.length = l.map (encLeg true) := by simp [rowsAt]

theorem fewA_out {a : Attrs} (h : fewA a = true) : (∀ p ∈ a.path, p.ns.length ≤ 60) ∧ a.path.length ≤ 20 ∧ a.tags.length ≤ 60 := by
  simp only [fewA, Bool.and_eq_true, List.all_eq_true, decide_eq_true_eq] at h
  exact ⟨h.1.1, h.1.2, h.2⟩
set_option maxRecDepth 100000 in
theorem lent_ok (fr : Bool) (a : Attrs) (hf : fewA a = true) : PCon prog 13 [encA fr a] (encA true a) := by
  obtain ⟨hp, hpl, htl⟩ := fewA_out hf
  refine callV_of (fn := Go.Proofs.Try.f13) (body := _) tab_ok mixed rfl rfl (by decide) (by simp [Go.Proofs.Try.f13]) ?_
  have cell : ∀ {fr0 : Bool} {x : Attrs}, FreeB (.var true 26 (cellsA fr0 x)) := fun {fr0 x} => cellsA_free fr0 x
  (conv => whnf)
  refine ⟨⟨rfl, rfl, rfl, rfl, by decide⟩, Nat.zero_le _, ⟨by simp [tab, tabOf, nth]; omega, by simp; omega⟩, ?_⟩
  (conv => whnf)
  refine vcg_loop tab_ok mixed (fun i : {i : Nat // i ≤ a.path.length} => ⟨[(1, .ptr 0 0), (2, .ptr 1 0), (3, .osl 3 2 0 a.path.length), (4, cI i.1)], [(0, some (.var true 26 (cellsA fr a))), (1, some (.var true 26 zeroA)), (3, some (.arr true false 54 2 (rowsAt fr a.path i.1)))], 4⟩) (fun i => a.path.length - i.1) ⟨0, by omega⟩ ?_ (fun i => ?_)
  · refine Wk.of id [] ⟨?_, ?_, ?_, ?_, trivial⟩ (LeH.same ⟨⟨rfl, cell, by omega⟩, ⟨rfl, zeroA_free, by omega⟩, ⟨?_, rowsAt_free _ _ _, by omega⟩, trivial⟩ (by omega))
    · exact .ptr rfl (by omega)
    · exact .ptr rfl (by omega)
    · exact .osl_of rfl (by omega) (by simp)
    · exact .int_of rfl
    · simp only [rowsAt, List.take_zero, List.map_nil, List.nil_append, List.drop_zero]
      rfl
  obtain ⟨i, hi⟩ := i
  (conv => whnf)
  intro _
  (conv => whnf)
  split
  · rename_i hc
    have hc : i < a.path.length := by simpa using hc
    have hpi := hp a.path[i] (List.getElem_mem hc)
    have hget : (rowsAt fr a.path i)[0 + (i : Int).toNat]? = some (encLeg fr a.path[i]) := by simpa using rowsAt_get hc
    (conv => whnf)
    refine ⟨rfl, ⟨by simp only; omega, by simp only; omega⟩, ?_⟩
    (conv => whnf)
    refine ⟨rfl, encLeg fr a.path[i], hget, ?_⟩
    (conv => whnf)
    refine ⟨⟨rfl, rfl, rfl, rfl, by decide⟩, Nat.zero_le _, ⟨by simp [tab, tabOf, nth]; omega, by simp; omega⟩, ?_⟩
    (conv => whnf)
    refine ⟨rfl, ⟨by simp only; omega, by simp only; omega⟩, ?_⟩
    (conv => whnf)
    refine ⟨rfl, encLeg fr a.path[i], hget, ?_⟩
    (conv => whnf)
    refine ⟨⟨i + 1, by omega⟩, Wk.of id [5] ⟨?_, ?_, ?_, ?_, trivial⟩ (LeH.of ⟨⟨by omega, .inl ⟨by simp, _, rfl, LeB.free cell⟩⟩, ⟨by omega, .inl ⟨by simp, _, rfl, LeB.free zeroA_free⟩⟩, ⟨by omega, .inl ⟨by simp, _, rfl, ?_⟩⟩, trivial⟩ (fun _ _ _ _ h => h) (fun _ _ => rfl) (by omega) (fun z hz => by obtain rfl := List.mem_singleton.1 hz; exact ne_none_of rfl)), by simp only; omega⟩
    · exact .ptr rfl (by omega)
    · exact .ptr rfl (by omega)
    · exact .osl_of rfl (by omega) (by simp)
    · exact .int_of (wrap64_succ hc (show a.path.length ≤ maxLen by unfold maxLen; omega))
    · simp only
      rw [rowsAt_succ hc]
      simp only [Nat.zero_add, Int.toNat_natCast]
      refine LeB.set (rowsAt_free _ _ _) ⟨.free .bool, ?_, trivial⟩
      refine LeV.freeze_of (by simp) rfl ?_ ?_ ?_
      · simp
      · intro x hx v hv
        exact rowsW_free _ x (by simpa using hx) v hv
      · exact List.take_of_length_le (by simp)
  · rename_i hc
    have hc : i = a.path.length := by simp at hc; omega
    subst hc
    (conv => whnf)
    refine ⟨⟨rfl, rfl, rfl, rfl, by decide⟩, Nat.zero_le _, ⟨by simp [tab, tabOf, nth]; omega, by simp; omega⟩, ?_⟩
    (conv => whnf)
    refine Ends.pure [3, 5] (LeV.aggL ⟨.free .int, ?_, .free .int, .free .bool, .free .int, .free .bool, .free .int, ?_, trivial⟩) ?_
    · refine LeV.freeze_of (by simp) rfl ?_ ?_ ?_
      · simp only [rowsAt_len]; omega
      · exact rowsAt_free _ _ _
      · simp only [rowsAt_all, List.drop_zero]
        exact List.take_of_length_le (by simp)
    · refine LeV.freeze_of (by simp) rfl ?_ ?_ ?_
      · simp
      · intro x hx v hv
        exact rowsW_free _ x (by simpa using hx) v hv
      · exact List.take_of_length_le (by simp)
    · intro z hz
      rcases List.mem_cons.1 hz with rfl | hz
      · exact ne_none_of rfl
      · obtain rfl := List.mem_singleton.1 hz
        exact ne_none_of rfl
end Go.Proofs.Ytcfkendgjinmiaa
