/- Contract: the reference's Raw. -/
import Derived.Test.YtcfkendgjinmiaaC9
set_option linter.unusedVariables false
set_option linter.unusedSimpArgs false
namespace Go.Proofs.Ytcfkendgjinmiaa
open Go.RowKit
open Go.Proofs.Try (prog)
attribute [local irreducible] CallV RoundV

def kindB (p : Leg) : UInt8 := if p.set then 1 else 2
def legB (p : Leg) : List UInt8 := [kindB p, UInt8.ofNat p.ns.length] ++ allB p.ns
def pathB (l : List Leg) : List UInt8 := l.flatMap legB
theorem pathB_succ {l : List Leg} {i : Nat} (h : i < l.length) : pathB (l.take (i + 1)) = pathB (l.take i) ++ legB l[i] := by
  unfold pathB
  rw [List.take_succ_eq_append_getElem h, List.flatMap_append, List.flatMap_cons, List.flatMap_nil, List.append_nil]
theorem legB_len (p : Leg) : (legB p).length = 2 + 4 * p.ns.length := by simp [legB, allB_len]; omega
theorem pathB_len {l : List Leg} (h : ∀ p ∈ l, p.ns.length ≤ 60) : (pathB l).length ≤ 242 * l.length := by
  induction l with
  | nil => simp [pathB]
  | cons p l ih =>
    have e : pathB (p :: l) = legB p ++ pathB l := by unfold pathB; rw [List.flatMap_cons]
    have := ih (fun q hq => h q (by simp [hq]))
    have := h p (by simp)
    rw [e, List.length_append, legB_len, List.length_cons]
    omega
theorem rowsB_ff (b : List UInt8) : ∀ x ∈ rowsB b, ∀ v ∈ x, Free v ∧ Fresh v := by
  intro x hx v hv
  obtain ⟨y, _, rfl⟩ := List.mem_map.1 hx
  simp at hv; subst hv; exact ⟨.int, .int⟩
theorem attr_cold {f c : Int} {v : List UInt8} : ∀ x ∈ [V.int .i64 f, V.int .i64 c, encB false v], Cold x := by
  intro x hx
  simp at hx
  rcases hx with rfl | rfl | rfl
  · exact .int
  · exact .int
  · exact encB_cold _

def rawO (a : Attrs) : List UInt8 := attrB 64 1 [a.origin] ++ attrB 64 2 (pathB a.path) ++ attrB 64 3 (fourB a.next) ++ (if a.hasMed then attrB 128 4 (fourB a.med) else []) ++ (if a.hasPref then attrB 64 5 (fourB a.pref) else [])
def rawA (a : Attrs) : List UInt8 := rawO a ++ (if 0 < a.tags.length then attrB 192 8 (allB a.tags) else [])

set_option maxRecDepth 100000 in
set_option maxHeartbeats 4000000 in
theorem ref_raw_ok (fr : Bool) (a : Attrs) (hf : fewA a = true) : PCon prog 19 [encA fr a] (encB true (rawA a)) := by
  obtain ⟨hp, hpl, htl⟩ := fewA_out hf
  have cell : ∀ {fr0 : Bool} {x : Attrs}, FreeB (.var true 26 (cellsA fr0 x)) := fun {fr0 x} => cellsA_free fr0 x
  have hA1 : (attrB 64 1 [a.origin]).length = 4 := rfl
  refine callV_of (fn := Go.Proofs.Try.f19) (body := _) tab_ok mixed rfl rfl (by decide) (by simp [Go.Proofs.Try.f19]) ?_
  (conv => whnf)
  refine callV_own [1] (ref_attribute_ok false 64 1 [a.origin] (by simp)) ⟨.int_of rfl, .int_of rfl, LeV.fresh_off (.freezeB (by simp) rfl rfl rfl), trivial⟩ attr_cold (one_none rfl) (rowsB_ff _) ?_
  (conv => whnf)
  refine vcg_loop tab_ok mixed (fun i : {i : Nat // i ≤ a.path.length} => ⟨[(1, .ptr 0 0), (3, .osl 2 1 0 4), (4, .osl 3 1 0 (pathB (a.path.take i.1)).length), (5, cI i.1)], [(0, some (.var true 26 (cellsA fr a))), (2, some (.arr true false 5 1 (rowsB (attrB 64 1 [a.origin])))), (3, some (.arr true false 5 1 (rowsB (pathB (a.path.take i.1)))))], 4⟩) (fun i => a.path.length - i.1) ⟨0, by omega⟩ ?_ (fun i => ?_)
  · refine Wk.of id [] ⟨?_, ?_, ?_, ?_, trivial⟩ (LeH.of ⟨⟨by omega, .inl ⟨by simp, _, rfl, LeB.free cell⟩⟩, ⟨by omega, .inl ⟨by simp, _, rfl, LeB.free (rowsB_free _)⟩⟩, ⟨by omega, .inr ⟨by simp, _, _, _, _, rfl⟩⟩, trivial⟩ (fun _ _ _ _ h => h) (fun _ _ => rfl) (by omega) (by simp))
    · exact .ptr rfl (by omega)
    · exact .osl_of rfl (by omega) rfl
    · exact .osl0
    · exact .int_of rfl
  obtain ⟨i, hi⟩ := i
  (conv => whnf)
  intro hl
  have hl : a.path.length ≤ maxLen := by simpa [gd] using hl
  (conv => whnf)
  split
  · rename_i hc
    have hc : i < a.path.length := by simpa using hc
    have hpi := hp a.path[i] (List.getElem_mem hc)
    have hpb : (pathB (a.path.take i)).length ≤ 242 * i := by
      have := pathB_len (l := a.path.take i) (fun p hp' => hp p (List.mem_of_mem_take hp'))
      rw [List.length_take, Nat.min_eq_left hi] at this
      exact this
    (conv => whnf)
    refine ⟨rfl, _, ⟨by first | omega | (simp only; omega), idxL hc⟩, ?_⟩
    (conv => whnf)
    split
    case' h_1 => rename_i hk; have hkind : kindB a.path[i] = 1 := by simp [kindB, hk]
    case' h_2 => rename_i hk; have hkind : kindB a.path[i] = 2 := by simp [kindB, hk]
    all_goals
      (conv => whnf)
      refine ⟨rfl, _, ⟨by first | omega | (simp only; omega), idxL hc⟩, ?_⟩
      (conv => whnf)
      refine fun (_ : gd none _) => ?_
      (conv => whnf)
      refine ⟨rfl, by simp, ⟨rfl, rfl, rfl, rfl, by decide⟩, by simp, ⟨by simp [tab, tabOf, nth]; omega, by simp; omega⟩, ?_⟩
      (conv => whnf)
      refine vcg_loop tab_ok mixed (fun j : {j : Nat // j ≤ a.path[i].ns.length} => ⟨[(1, .ptr 0 0), (3, .osl 2 1 0 4), (4, .osl 3 1 0 ((pathB (a.path.take i)).length + 2 + 4 * j.1)), (5, cI i), (7, cI j.1)], [(0, some (.var true 26 (cellsA fr a))), (2, some (.arr true false 5 1 (rowsB (attrB 64 1 [a.origin])))), (3, some (.arr true false 5 1 (rowsB (pathB (a.path.take i) ++ [kindB a.path[i], UInt8.ofNat a.path[i].ns.length] ++ allB (a.path[i].ns.take j.1)))))], 4⟩) (fun j => a.path[i].ns.length - j.1) ⟨0, by omega⟩ ?_ (fun j => ?_)
      · refine Wk.of (renOf [(3, 5)]) [] ⟨?_, ?_, ?_, ?_, ?_, trivial⟩ (LeH.of ⟨⟨by omega, .inl ⟨by simp, _, rfl, LeB.free cell⟩⟩, ⟨by omega, .inl ⟨by simp, _, rfl, LeB.free (rowsB_free _)⟩⟩, ⟨by omega, .inl ⟨by simp, _, rfl, LeB.eq_of ?_ (rowsB_free _)⟩⟩, trivial⟩ (show ∀ b ∈ [0, 2, 3], ∀ b' ∈ [0, 2, 3], renOf [(3, 5)] b = renOf [(3, 5)] b' → b = b' by decide) (fun b hb => by omega) (by omega) (by simp))
        · exact .ptr rfl (by omega)
        · exact .osl_of rfl (by omega) rfl
        · exact .osl_of rfl (by omega) (by simp)
        · exact .int_of rfl
        · exact .int_of rfl
        · simp only [List.length_map, u8_nat, hkind]
          rw [List.take_of_length_le (by simp)]
          simp [rowsB, allB]
      obtain ⟨j, hj⟩ := j
      (conv => whnf)
      refine ⟨rfl, _, ⟨by first | omega | (simp only; omega), idxL hc⟩, ?_⟩
      (conv => whnf)
      refine fun (_ : gd none _) => ?_
      (conv => whnf)
      split
      · rename_i hcj
        have hcj : j < a.path[i].ns.length := by simpa using hcj
        have hall : (allB (a.path[i].ns.take j)).length = 4 * j := by rw [allB_len, List.length_take, Nat.min_eq_left hj]
        (conv => whnf)
        refine ⟨rfl, _, ⟨by first | omega | (simp only; omega), idxL hc⟩, ?_⟩
        (conv => whnf)
        refine ⟨rfl, _, ⟨by first | omega | (simp only; omega), idxW hcj⟩, ?_⟩
        (conv => whnf)
        refine callV_pure (ref_four_ok _) ⟨.free .int, trivial⟩ ?_
        (conv => whnf)
        refine ⟨⟨rfl, rfl, rfl, rfl, by decide⟩, by simp [hall]; omega, ⟨by simp [tab, tabOf, nth, fourB]; omega, by simp [fourB]; omega⟩, ?_⟩
        (conv => whnf)
        refine ⟨⟨j + 1, by omega⟩, Wk.of (renOf [(3, 4)]) [] ⟨?_, ?_, ?_, ?_, ?_, trivial⟩ (LeH.of ⟨⟨by omega, .inl ⟨by simp, _, rfl, LeB.free cell⟩⟩, ⟨by omega, .inl ⟨by simp, _, rfl, LeB.free (rowsB_free _)⟩⟩, ⟨by omega, .inl ⟨by simp, _, rfl, LeB.eq_of ?_ (rowsB_free _)⟩⟩, trivial⟩ (show ∀ b ∈ [0, 2, 3], ∀ b' ∈ [0, 2, 3], renOf [(3, 4)] b = renOf [(3, 4)] b' → b = b' by decide) (fun b hb => by omega) (by omega) (by simp)), by simp only; omega⟩
        · exact .ptr rfl (by omega)
        · exact .osl_of rfl (by omega) rfl
        · exact .osl_of rfl (by omega) (by simp [fourB]; omega)
        · exact .int_of rfl
        · exact .int_of (wrap64_succ hcj (show a.path[i].ns.length ≤ maxLen by unfold maxLen; omega))
        · simp only
          rw [allB_succ hcj, List.take_of_length_le (by simp [hall]; omega)]
          simp [rowsB]
      · rename_i hcj
        have hcj : j = a.path[i].ns.length := by simp at hcj; omega
        subst hcj
        (conv => whnf)
        refine ⟨⟨i + 1, by omega⟩, Wk.of id [] ⟨?_, ?_, ?_, ?_, trivial⟩ (LeH.of ⟨⟨by omega, .inl ⟨by simp, _, rfl, LeB.free cell⟩⟩, ⟨by omega, .inl ⟨by simp, _, rfl, LeB.free (rowsB_free _)⟩⟩, ⟨by omega, .inl ⟨by simp, _, rfl, LeB.eq_of ?_ (rowsB_free _)⟩⟩, trivial⟩ (fun _ _ _ _ h => h) (fun _ _ => rfl) (by omega) (by simp)), by simp only; omega⟩
        · exact .ptr rfl (by omega)
        · exact .osl_of rfl (by omega) rfl
        · exact .osl_of rfl (by omega) (by simp only; rw [pathB_succ hc, List.length_append, legB_len]; omega)
        · exact .int_of (wrap64_succ hc hl)
        · simp only
          rw [pathB_succ hc, List.take_length]
          simp [rowsB, legB]
  · rename_i hc
    have hc : i = a.path.length := by simp at hc; omega
    subst hc
    (conv => whnf)
    have hpb : (pathB a.path).length ≤ 242 * a.path.length := pathB_len hp
    have app : ∀ {n m : Nat}, n ≤ 20000 → m ≤ 20000 → (n + m) * (tab 5).bytes ≤ 140737488355328 ∧ n + m ≤ 140737488355328 := fun h1 h2 => ⟨by simp [tab, tabOf, nth]; omega, by omega⟩
    have al : ∀ {f c : UInt8} {v : List UInt8}, (attrB f c v).length ≤ 4 + v.length := fun {f c v} => by unfold attrB; split <;> simp <;> omega
    have hA2 := al (f := 64) (c := 2) (v := pathB a.path)
    have hA3 := al (f := 64) (c := 3) (v := fourB a.next)
    have hA4 := al (f := 128) (c := 4) (v := fourB a.med)
    have hA5 := al (f := 64) (c := 5) (v := fourB a.pref)
    have f4 : ∀ x, (fourB x).length = 4 := fun _ => rfl
    rw [f4] at hA3 hA4 hA5
    refine callV_own [3] (ref_attribute_ok false 64 2 (pathB a.path) (by omega)) ⟨.int_of rfl, .int_of rfl, LeV.fresh_off (.freezeB (by simp) rfl (by simp) (by simp)), trivial⟩ attr_cold (one_none rfl) (rowsB_ff _) ?_
    (conv => whnf)
    refine ⟨rfl, by simp, ⟨rfl, rfl, rfl, rfl, by decide⟩, by simp [hA1], app (by omega) (by simp; omega), ?_⟩
    (conv => whnf)
    refine callV_pure (ref_four_ok _) ⟨.free .int, trivial⟩ ?_
    (conv => whnf)
    refine callV_own [] (ref_attribute_ok false 64 3 (fourB a.next) (by rw [f4]; omega)) ⟨.int_of rfl, .int_of rfl, LeV.fresh_off (.free (encB_free _ _)), trivial⟩ attr_cold (by simp) (rowsB_ff _) ?_
    (conv => whnf)
    refine ⟨rfl, by simp, ⟨rfl, rfl, rfl, rfl, by decide⟩, by simp [hA1], app (by simp; omega) (by simp; omega), ?_⟩
    (conv => whnf)
    split
    case' h_1 =>
      rename_i hm
      (conv => whnf)
      refine callV_pure (ref_four_ok _) ⟨.free .int, trivial⟩ ?_
      (conv => whnf)
      refine callV_own [] (ref_attribute_ok false 128 4 (fourB a.med) (by rw [f4]; omega)) ⟨.int_of rfl, .int_of rfl, LeV.fresh_off (.free (encB_free _ _)), trivial⟩ attr_cold (by simp) (rowsB_ff _) ?_
      (conv => whnf)
      refine ⟨rfl, by simp, ⟨rfl, rfl, rfl, rfl, by decide⟩, by simp [hA1], app (by simp; omega) (by simp; omega), ?_⟩
      (conv => whnf)
    case' h_2 =>
      rename_i hm
      (conv => whnf)
    all_goals
      split
      case' h_1 =>
        rename_i hf2
        (conv => whnf)
        refine callV_pure (ref_four_ok _) ⟨.free .int, trivial⟩ ?_
        (conv => whnf)
        refine callV_own [] (ref_attribute_ok false 64 5 (fourB a.pref) (by rw [f4]; omega)) ⟨.int_of rfl, .int_of rfl, LeV.fresh_off (.free (encB_free _ _)), trivial⟩ attr_cold (by simp) (rowsB_ff _) ?_
        (conv => whnf)
        refine ⟨rfl, by simp, ⟨rfl, rfl, rfl, rfl, by decide⟩, by simp [hA1], app (by simp; omega) (by simp; omega), ?_⟩
        (conv => whnf)
      case' h_2 =>
        rename_i hf2
        (conv => whnf)
    all_goals
      have tk : ∀ {n : Nat} {b : List UInt8}, b.length ≤ n → List.take n (rowsB b) = rowsB b := fun h => List.take_of_length_le (by simpa using h)
      refine vcg_loop tab_ok mixed (fun i : {i : Nat // i ≤ a.tags.length} => ⟨[(1, .ptr 0 0), (3, .osl 2 1 0 (rawO a).length), (8, .osl 3 1 0 (4 * i.1)), (9, cI i.1)], [(0, some (.var true 26 (cellsA fr a))), (2, some (.arr true false 5 1 (rowsB (rawO a)))), (3, some (.arr true false 5 1 (rowsB (allB (a.tags.take i.1)))))], 4⟩) (fun i => a.tags.length - i.1) ⟨0, by omega⟩ ?_ (fun i => ?_)
      · first
        | (refine Wk.of (renOf [(2, 7), (3, 50)]) [] ⟨?_, ?_, ?_, ?_, trivial⟩ (LeH.of ⟨⟨by omega, .inl ⟨by simp, _, rfl, LeB.free cell⟩⟩, ⟨by omega, .inl ⟨by simp, _, rfl, LeB.eq_of ?_ (rowsB_free _)⟩⟩, ⟨by omega, .inr ⟨by simp [renOf, Nat.beq], _, _, _, _, rfl⟩⟩, trivial⟩ (show ∀ b ∈ [0, 2, 3], ∀ b' ∈ [0, 2, 3], renOf [(2, 7), (3, 50)] b = renOf [(2, 7), (3, 50)] b' → b = b' by decide) (fun b hb => by omega) (by omega) (by simp))
           · exact .ptr rfl (by omega)
           · exact .osl_of rfl (by omega) (by simp [rawO, hm, hf2, hA1]; try omega)
           · exact .osl0
           · exact .int_of rfl
           · simp [rowsB, rawO, hm, hf2, hA1, List.take_of_length_le, Nat.add_assoc])
        | (refine Wk.of (renOf [(2, 9), (3, 50)]) [] ⟨?_, ?_, ?_, ?_, trivial⟩ (LeH.of ⟨⟨by omega, .inl ⟨by simp, _, rfl, LeB.free cell⟩⟩, ⟨by omega, .inl ⟨by simp, _, rfl, LeB.eq_of ?_ (rowsB_free _)⟩⟩, ⟨by omega, .inr ⟨by simp [renOf, Nat.beq], _, _, _, _, rfl⟩⟩, trivial⟩ (show ∀ b ∈ [0, 2, 3], ∀ b' ∈ [0, 2, 3], renOf [(2, 9), (3, 50)] b = renOf [(2, 9), (3, 50)] b' → b = b' by decide) (fun b hb => by omega) (by omega) (by simp))
           · exact .ptr rfl (by omega)
           · exact .osl_of rfl (by omega) (by simp [rawO, hm, hf2, hA1]; try omega)
           · exact .osl0
           · exact .int_of rfl
           · simp [rowsB, rawO, hm, hf2, hA1, List.take_of_length_le, Nat.add_assoc])
        | (refine Wk.of (renOf [(2, 11), (3, 50)]) [] ⟨?_, ?_, ?_, ?_, trivial⟩ (LeH.of ⟨⟨by omega, .inl ⟨by simp, _, rfl, LeB.free cell⟩⟩, ⟨by omega, .inl ⟨by simp, _, rfl, LeB.eq_of ?_ (rowsB_free _)⟩⟩, ⟨by omega, .inr ⟨by simp [renOf, Nat.beq], _, _, _, _, rfl⟩⟩, trivial⟩ (show ∀ b ∈ [0, 2, 3], ∀ b' ∈ [0, 2, 3], renOf [(2, 11), (3, 50)] b = renOf [(2, 11), (3, 50)] b' → b = b' by decide) (fun b hb => by omega) (by omega) (by simp))
           · exact .ptr rfl (by omega)
           · exact .osl_of rfl (by omega) (by simp [rawO, hm, hf2, hA1]; try omega)
           · exact .osl0
           · exact .int_of rfl
           · simp [rowsB, rawO, hm, hf2, hA1, List.take_of_length_le, Nat.add_assoc])
      obtain ⟨i, hi⟩ := i
      (conv => whnf)
      refine fun (_ : gd none _) => ?_
      (conv => whnf)
      have hO : (rawO a).length ≤ 5000 := by
        simp only [rawO, List.length_append, hA1]
        have h4 : (if a.hasMed then attrB 128 4 (fourB a.med) else []).length ≤ 8 := by split <;> first | omega | simp
        have h5 : (if a.hasPref then attrB 64 5 (fourB a.pref) else []).length ≤ 8 := by split <;> first | omega | simp
        omega
      split
      · rename_i hc2
        have hc2 : i < a.tags.length := by simpa using hc2
        have hall : (allB (a.tags.take i)).length = 4 * i := by rw [allB_len, List.length_take, Nat.min_eq_left hi]
        (conv => whnf)
        refine ⟨rfl, _, ⟨by first | omega | (simp only; omega), idxW hc2⟩, ?_⟩
        (conv => whnf)
        refine callV_pure (ref_four_ok _) ⟨.free .int, trivial⟩ ?_
        (conv => whnf)
        refine ⟨⟨rfl, rfl, rfl, rfl, by decide⟩, by simp [hall], ⟨by simp [tab, tabOf, nth, fourB]; omega, by simp [fourB]; omega⟩, ?_⟩
        (conv => whnf)
        refine ⟨⟨i + 1, by omega⟩, Wk.of (renOf [(3, 4)]) [] ⟨?_, ?_, ?_, ?_, trivial⟩ (LeH.of ⟨⟨by omega, .inl ⟨by simp, _, rfl, LeB.free cell⟩⟩, ⟨by omega, .inl ⟨by simp, _, rfl, LeB.free (rowsB_free _)⟩⟩, ⟨by omega, .inl ⟨by simp, _, rfl, LeB.eq_of ?_ (rowsB_free _)⟩⟩, trivial⟩ (show ∀ b ∈ [0, 2, 3], ∀ b' ∈ [0, 2, 3], renOf [(3, 4)] b = renOf [(3, 4)] b' → b = b' by decide) (fun b hb => by omega) (by omega) (by simp)), by simp only; omega⟩
        · exact .ptr rfl (by omega)
        · exact .osl_of rfl (by omega) rfl
        · exact .osl_of rfl (by omega) (by simp [fourB]; omega)
        · exact .int_of (wrap64_succ hc2 (show a.tags.length ≤ maxLen by unfold maxLen; omega))
        · simp only
          rw [allB_succ hc2, List.take_of_length_le (by simp [hall])]
          simp [rowsB]
      · rename_i hc2
        have hc2 : i = a.tags.length := by simp at hc2; omega
        subst hc2
        (conv => whnf)
        refine fun (_ : gd none _) => ?_
        (conv => whnf)
        split
        · rename_i ht
          have ht : 0 < a.tags.length := by simp at ht; omega
          (conv => whnf)
          refine callV_own [3] (ref_attribute_ok false 192 8 (allB a.tags) (by rw [allB_len]; omega)) ⟨.int_of rfl, .int_of rfl, LeV.fresh_off (.freezeB (by simp) rfl (by simp) (by simp [allB_len])), trivial⟩ attr_cold (one_none rfl) (rowsB_ff _) ?_
          (conv => whnf)
          have hA8 := al (f := 192) (c := 8) (v := allB a.tags)
          rw [allB_len] at hA8
          refine ⟨rfl, by simp, ⟨rfl, rfl, rfl, rfl, by decide⟩, by simp, app (by omega) (by simp; omega), ?_⟩
          (conv => whnf)
          refine Ends.pure [5] (.freezeB (bs := rawA a) (by simp) rfl ?_ ?_) (one_none rfl)
          · simp [rawA, ht, rowsB, List.take_of_length_le]
          · simp [rawA, ht]
        · rename_i ht
          have ht : ¬ 0 < a.tags.length := by simp at ht; omega
          (conv => whnf)
          refine Ends.pure [2] (.freezeB (bs := rawA a) (by simp) rfl ?_ ?_) (one_none rfl)
          · simp [rawA, ht]
          · simp [rawA, ht]
end Go.Proofs.Ytcfkendgjinmiaa
