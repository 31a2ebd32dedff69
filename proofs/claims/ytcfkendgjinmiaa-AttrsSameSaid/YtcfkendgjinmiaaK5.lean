/- Joined: G1, G2, G3. -/
import Derived.Test.YtcfkendgjinmiaaK3
/- Contracts: the reference's length; a copy, of which the path is the caller's own. -/
set_option linter.unusedVariables false
set_option linter.unusedSimpArgs false
namespace Go.Proofs.Ytcfkendgjinmiaa
open Go.RowKit
open Go.Proofs.Try (prog)
attribute [local irreducible] CallV RoundV

set_option maxRecDepth 100000 in
theorem ref_length_ok (fr : Bool) (l : List Leg) (hl0 : l.length ≤ 1000) (hp : ∀ p ∈ l, p.ns.length ≤ 60) : PCon prog 26 [encLegs fr l] (cI (lengthOf l)) := by
  refine callV_of (fn := Go.Proofs.Try.f26) (body := _) tab_ok mixed rfl rfl (by decide) (by simp [Go.Proofs.Try.f26]) ?_
  (conv => whnf)
  refine vcg_loop tab_ok mixed (fun i : {i : Nat // i ≤ l.length} => ⟨[(0, encLegs fr l), (3, cI (lengthOf (l.take i.1))), (4, cI i.1)], [], 0⟩) (fun i => l.length - i.1) ⟨0, by omega⟩ (Wk.of id [] ⟨.free (encLegs_free _ _), .int_of rfl, .int_of rfl, trivial⟩ (LeH.nil (Nat.le_refl _) (fun b h => by omega) (by simp))) (fun i => ?_)
  obtain ⟨i, hi⟩ := i
  (conv => whnf)
  intro hl
  have hl : l.length ≤ maxLen := by simpa [gd] using hl
  (conv => whnf)
  split
  · rename_i hc
    have hc : i < l.length := by simpa using hc
    have hpi := hp l[i] (List.getElem_mem hc)
    have hb := lengthOf_le (l := l.take i) (fun p hp' => hp p (List.mem_of_mem_take hp'))
    rw [List.length_take, Nat.min_eq_left hi] at hb
    (conv => whnf)
    refine ⟨rfl, _, ⟨by first | omega | (simp only; omega), idxL hc⟩, ?_⟩
    (conv => whnf)
    split
    · rename_i hs
      (conv => whnf)
      refine ⟨⟨i + 1, by omega⟩, Wk.of id [] ⟨.free (encLegs_free _ _), .int_of ?_, .int_of (wrap64_succ hc hl), trivial⟩ (LeH.nil (Nat.le_refl _) (fun b h => by omega) (by simp)), by simp only; omega⟩
      rw [lengthOf_succ hc]
      simp only [lenOf, hs, if_true]
      rw [wrap64] <;> omega
    · rename_i hs
      (conv => whnf)
      refine ⟨rfl, _, ⟨by first | omega | (simp only; omega), idxL hc⟩, ?_⟩
      (conv => whnf)
      intro _
      (conv => whnf)
      refine ⟨⟨i + 1, by omega⟩, Wk.of id [] ⟨.free (encLegs_free _ _), .int_of ?_, .int_of (wrap64_succ hc hl), trivial⟩ (LeH.nil (Nat.le_refl _) (fun b h => by omega) (by simp)), by simp only; omega⟩
      rw [lengthOf_succ hc]
      simp only [lenOf, hs, List.length_map, Bool.false_eq_true, if_false]
      rw [wrap64] <;> omega
  · rename_i hc
    have hc : i = l.length := by simp at hc; omega
    subst hc
    (conv => whnf)
    exact Ends.pure [] (.int_of (by simp)) (by simp)

theorem less_encW (fr : Bool) {l : List UInt32} : Less (encW fr l) (encW false l) := by
  cases fr with
  | true => exact .encW
  | false => exact .refl _
theorem rowsW_ff (b : List UInt32) : ∀ x ∈ rowsW b, ∀ v ∈ x, Free v ∧ Fresh v := by
  intro x hx v hv
  obtain ⟨y, _, rfl⟩ := List.mem_map.1 hx
  simp at hv; subst hv; exact ⟨.int, .int⟩
/-- What is said, its path the caller's own. -/
def ownA (a : Attrs) (b : Nat) : V := .agg [cB a.origin, .osl b 2 0 a.path.length, cW a.next, .bool a.hasMed, cW a.med, .bool a.hasPref, cW a.pref, encW true a.tags]
/-- The tags the caller's own. -/
def ownT (a : Attrs) (b : Nat) : V := .agg [cB a.origin, encLegs true a.path, cW a.next, .bool a.hasMed, cW a.med, .bool a.hasPref, cW a.pref, .osl b 1 0 a.tags.length]
/-- Both. -/
def rawC (a : Attrs) : V := .agg [cB a.origin, .osl 0 2 0 a.path.length, cW a.next, .bool a.hasMed, cW a.med, .bool a.hasPref, cW a.pref, .osl 1 1 0 a.tags.length]
theorem ownT_mov (a : Attrs) : Mov (ownT a) := by
  refine Mov.agg (cs := [fun _ => cB a.origin, fun _ => encLegs true a.path, fun _ => cW a.next, fun _ => .bool a.hasMed, fun _ => cW a.med, fun _ => .bool a.hasPref, fun _ => cW a.pref, fun b => .osl b 1 0 a.tags.length]) ?_
  intro c hc
  simp only [List.mem_cons, List.not_mem_nil, or_false] at hc
  rcases hc with rfl | rfl | rfl | rfl | rfl | rfl | rfl | rfl
  · exact .const .int .int
  · exact .const (encLegs_free _ _) (encLegs_fresh _)
  · exact .const .int .int
  · exact .const .bool .bool
  · exact .const .int .int
  · exact .const .bool .bool
  · exact .const .int .int
  · exact .osl
theorem ownA_mov (a : Attrs) : Mov (ownA a) := by
  refine Mov.agg (cs := [fun _ => cB a.origin, fun b => .osl b 2 0 a.path.length, fun _ => cW a.next, fun _ => .bool a.hasMed, fun _ => cW a.med, fun _ => .bool a.hasPref, fun _ => cW a.pref, fun _ => encW true a.tags]) ?_
  intro c hc
  simp only [List.mem_cons, List.not_mem_nil, or_false] at hc
  rcases hc with rfl | rfl | rfl | rfl | rfl | rfl | rfl | rfl
  · exact .const .int .int
  · exact .osl
  · exact .const .int .int
  · exact .const .bool .bool
  · exact .const .int .int
  · exact .const .bool .bool
  · exact .const .int .int
  · exact .const (encW_free _ _) (encW_fresh _)
set_option maxRecDepth 100000 in
theorem cloneL_ok (fr : Bool) (l : List Leg) (hl : l.length ≤ 1000) : OCon prog 52 [encLegs fr l] true false 54 2 l.length (l.map (encLeg fr)) := by
  rcases l with _ | ⟨x, l⟩
  · refine callV_of (fn := Go.Proofs.Try.f52) (body := _) tab_ok mixed rfl rfl (by decide) (by simp [Go.Proofs.Try.f52]) ?_
    (conv => whnf)
    refine ⟨?_, ?_⟩
    · (conv => whnf)
      exact Ends.ownNil
    · (conv => whnf)
      refine ⟨⟨rfl, rfl, rfl, rfl, by decide⟩, by simp, ⟨by simp [tab, tabOf, nth], by simp⟩, ?_⟩
      (conv => whnf)
      exact Ends.own rfl (by simp) rfl rfl
  · refine callV_of (fn := Go.Proofs.Try.f52) (body := _) tab_ok mixed rfl rfl (by decide) (by simp [Go.Proofs.Try.f52]) ?_
    (conv => whnf)
    refine ⟨⟨rfl, rfl, rfl, rfl, by decide⟩, by simp, ⟨by simp [tab, tabOf, nth] at *; omega, by simp at *; omega⟩, ?_⟩
    (conv => whnf)
    exact Ends.own rfl (rowsLegs_free fr (x :: l)) (by simp) rfl
set_option maxRecDepth 100000 in
theorem copy_raw (fr : Bool) (a : Attrs) (hpl : a.path.length ≤ 1000) (hp : ∀ p ∈ a.path, p.ns.length ≤ 1000) (htl : a.tags.length ≤ 1000) : CallV prog 32 [encA fr a] [] 0 (fun v h' nx' => v = rawC a ∧ h' = [(0, some (.arr true false 54 2 (a.path.map (encLeg true)))), (1, some (.arr true false 23 1 (rowsW a.tags)))] ∧ nx' = 2) := by
  have cell : ∀ {fr0 : Bool} {x : Attrs}, FreeB (.var true 26 (cellsA fr0 x)) := fun {fr0 x} => cellsA_free fr0 x
  refine callV_of (fn := Go.Proofs.Try.f32) (body := _) tab_ok mixed rfl rfl (by decide) (by simp [Go.Proofs.Try.f32]) ?_
  (conv => whnf)
  refine callV_own0 (nx := 2) (cloneL_ok fr a.path hpl) ⟨.free (encLegs_free _ _), trivial⟩ (rowsLegs_free _ _) ?_
  (conv => whnf)
  intro _
  (conv => whnf)
  refine vcg_loop tab_ok mixed (fun i : {i : Nat // i ≤ a.path.length} => ⟨[(1, .ptr 0 0), (2, .ptr 1 0), (3, .osl 2 2 0 a.path.length), (9, cI a.path.length), (10, cI i.1)], [(0, some (.var true 26 (cellsA fr a))), (1, some (.var true 26 zeroA)), (2, some (.arr true false 54 2 (rowsAt fr a.path i.1)))], 3⟩) (fun i => a.path.length - i.1) ⟨0, by omega⟩ ?_ (fun i => ?_)
  · refine Wk.of id [] ⟨.ptr rfl (by omega), .ptr rfl (by omega), .osl rfl (by omega), .int_of rfl, .int_of rfl, trivial⟩ (LeH.of ⟨⟨by omega, .inl ⟨by simp, _, rfl, LeB.free cell⟩⟩, ⟨by omega, .inl ⟨by simp, _, rfl, LeB.free zeroA_free⟩⟩, ⟨by omega, .inl ⟨by simp, _, rfl, LeB.eq_of (by simp [rowsAt]) (rowsAt_free _ _ _)⟩⟩, trivial⟩ (fun _ _ _ _ h => h) (fun _ _ => rfl) (by omega) (by simp))
  obtain ⟨i, hi⟩ := i
  (conv => whnf)
  split
  · rename_i hc
    have hc : i < a.path.length := by simpa using hc
    have hpi := hp a.path[i] (List.getElem_mem hc)
    have hget : (rowsAt fr a.path i)[0 + (i : Int).toNat]? = some (encLeg fr a.path[i]) := by simpa using rowsAt_get hc
    (conv => whnf)
    refine ⟨rfl, ⟨by simp only; omega, by simp only; omega⟩, ?_⟩
    (conv => whnf)
    refine ⟨rfl, encLeg fr a.path[i], hget, ?_⟩
    (conv => whnf)
    refine callV_own (nx := 3) [] (cloneW_ok false _ a.path[i].ns (.inl rfl) (by omega)) ⟨.less (.free (encW_free fr _)) (less_encW fr), trivial⟩ (by intro v hv; simp at hv; subst hv; exact encW_cold _) (by simp) (rowsW_ff _) ?_
    (conv => whnf)
    refine ⟨rfl, ⟨by simp only; omega, by simp only; omega⟩, ?_⟩
    (conv => whnf)
    refine ⟨rfl, encLeg fr a.path[i], hget, ?_⟩
    (conv => whnf)
    refine ⟨⟨i + 1, by omega⟩, Wk.of id [3] ⟨.ptr rfl (by omega), .ptr rfl (by omega), .osl rfl (by omega), .int_of rfl, .int_of (wrap64_succ hc (show a.path.length ≤ maxLen by unfold maxLen; omega)), trivial⟩ (LeH.of ⟨⟨by omega, .inl ⟨by simp, _, rfl, LeB.free cell⟩⟩, ⟨by omega, .inl ⟨by simp, _, rfl, LeB.free zeroA_free⟩⟩, ⟨by omega, .inl ⟨by simp, _, rfl, ?_⟩⟩, trivial⟩ (fun _ _ _ _ h => h) (fun _ _ => rfl) (by omega) (fun z hz => by obtain rfl := List.mem_singleton.1 hz; exact ne_none_of rfl)), by simp only; omega⟩
    simp only
    rw [rowsAt_succ hc]
    simp only [Nat.zero_add, Int.toNat_natCast]
    refine LeB.set (rowsAt_free _ _ _) ⟨.free .bool, ?_, trivial⟩
    refine LeV.freeze_of (by simp) rfl (by simp) (rowsW_free _) ?_
    exact List.take_of_length_le (by simp)
  · rename_i hc
    have hc : i = a.path.length := by simp at hc; omega
    subst hc
    (conv => whnf)
    refine callV_own (nx := 3) [] (cloneW_ok false _ a.tags (.inl rfl) (by omega)) ⟨.less (.free (encW_free fr _)) (less_encW fr), trivial⟩ (by intro v hv; simp at hv; subst hv; exact encW_cold _) (by simp) (rowsW_ff _) ?_
    (conv => whnf)
    refine ⟨rawC a, _, 2, Ends.of (fun b => b + 2) [] (.aggL ⟨.free .int, .osl rfl (by omega), .free .int, .free .bool, .free .int, .free .bool, .free .int, .osl rfl (by omega), trivial⟩) (LeH.of (h' := [(0, some (.arr true false 54 2 (a.path.map (encLeg true)))), (1, some (.arr true false 23 1 (rowsW a.tags)))]) ⟨⟨by omega, .inl ⟨by simp, _, rfl, LeB.eq_of ?_ (rowsLegs_free _ _)⟩⟩, ⟨by omega, .inl ⟨by simp, _, rfl, LeB.free (rowsW_free _)⟩⟩, trivial⟩ (by simp) (fun b hb => by omega) (by omega) (by simp)), rfl, rfl, rfl⟩
    simp only [rowsAt_all]
theorem copy_ok (fr : Bool) (a : Attrs) (hpl : a.path.length ≤ 1000) (hp : ∀ p ∈ a.path, p.ns.length ≤ 1000) (htl : a.tags.length ≤ 1000) : VCon prog 32 [encA fr a] (ownA a) (.arr true false 54 2 (a.path.map (encLeg true))) :=
  (copy_raw fr a hpl hp htl).ends fun v h' nx' ⟨e1, e2, e3⟩ => by
    subst e1 e2 e3
    exact ⟨ownA a 0, _, 1, Ends.of id [1] (.aggL ⟨.free .int, .osl rfl (by omega), .free .int, .free .bool, .free .int, .free .bool, .free .int, LeV.freeze_of (by simp) rfl (by simp) (rowsW_free _) (List.take_of_length_le (by simp)), trivial⟩) (LeH.of (h' := [(0, some (.arr true false 54 2 (a.path.map (encLeg true))))]) ⟨⟨by omega, .inl ⟨by simp, _, rfl, LeB.free (rowsLegs_free _ _)⟩⟩, trivial⟩ (by simp) (fun b hb => by omega) (by omega) (one_none rfl)), rfl, rfl, rfl⟩
theorem copyT_ok (fr : Bool) (a : Attrs) (hpl : a.path.length ≤ 1000) (hp : ∀ p ∈ a.path, p.ns.length ≤ 1000) (htl : a.tags.length ≤ 1000) : VCon prog 32 [encA fr a] (ownT a) (.arr true false 23 1 (rowsW a.tags)) :=
  (copy_raw fr a hpl hp htl).ends fun v h' nx' ⟨e1, e2, e3⟩ => by
    subst e1 e2 e3
    exact ⟨ownT a 0, _, 1, Ends.of (fun _ => 1) [0] (.aggL ⟨.free .int, LeV.freeze_of (by simp) rfl (by simp) (rowsLegs_free _ _) (List.take_of_length_le (by simp)), .free .int, .free .bool, .free .int, .free .bool, .free .int, .osl rfl (by omega), trivial⟩) (LeH.of (h' := [(0, some (.arr true false 23 1 (rowsW a.tags)))]) ⟨⟨by omega, .inl ⟨by simp, _, rfl, LeB.free (rowsW_free _)⟩⟩, trivial⟩ (by simp) (fun b hb => by omega) (by omega) (one_none rfl)), rfl, rfl, rfl⟩
theorem ownA_freeze {h : Heap} {nx nx' b : Nat} {ρ : Nat → Nat} {Z : List Nat} {fr ex : Bool} {a : Attrs} (hz : b ∈ Z) (hb : hget h b = some (.arr true ex 54 2 (a.path.map (encLeg true)))) : LeV h nx ρ nx' Z (ownA a b) (encA true a) :=
  .aggL ⟨.free .int, LeV.freeze_of hz hb (by simp) (rowsLegs_free _ _) (List.take_of_length_le (by simp)), .free .int, .free .bool, .free .int, .free .bool, .free .int, .free (encW_free _ _), trivial⟩
theorem copy_pure (fr : Bool) (a : Attrs) (hpl : a.path.length ≤ 1000) (hp : ∀ p ∈ a.path, p.ns.length ≤ 1000) (htl : a.tags.length ≤ 1000) : PCon prog 32 [encA fr a] (encA true a) :=
  (copy_ok fr a hpl hp htl).ends fun v h' nx' ⟨e1, e2, e3⟩ => by
    subst e1 e2 e3
    exact Ends.pure (s := ⟨[], [(0, some (.arr true false 54 2 (a.path.map (encLeg true))))], 1⟩) [0] (ownA_freeze (fr := true) (by simp) rfl) (by intro z hz; simp at hz; subst hz; simp [hget])
set_option maxRecDepth 100000 in
theorem systems_ok (fr : Bool) (a : Attrs) (hpl : a.path.length ≤ 1000) (hp : ∀ p ∈ a.path, p.ns.length ≤ 1000) (htl : a.tags.length ≤ 1000) : PCon prog 31 [encA fr a] (.fn (.func 51) [] [.iptr true [encLegs true a.path]]) := by
  refine callV_of (fn := Go.Proofs.Try.f31) (body := _) tab_ok mixed rfl rfl (by decide) (by simp [Go.Proofs.Try.f31]) ?_
  (conv => whnf)
  refine callV_pure (copy_pure fr a hpl hp htl) ⟨.free (encA_free _ _), trivial⟩ ?_
  (conv => whnf)
  refine Ends.pure [1] ?_ (one_none rfl)
  refine LeV.fnL trivial ⟨?_, trivial⟩
  exact LeV.freezeP (cells := [encLegs true a.path]) (by simp) rfl (by intro v hv; simp at hv; subst hv; exact encLegs_free _ _)
end Go.Proofs.Ytcfkendgjinmiaa
/- Contracts: is a system in the path? -/
set_option linter.unusedVariables false
set_option linter.unusedSimpArgs false
namespace Go.Proofs.Ytcfkendgjinmiaa
open Go.RowKit
open Go.Proofs.Try (prog)
attribute [local irreducible] CallV RoundV

def hasN (l : List UInt32) (x : UInt32) : Bool := l.any (· == x)
def hasA (l : List Leg) (x : UInt32) : Bool := l.any (fun p => hasN p.ns x)
theorem hasN_succ {l : List UInt32} {x : UInt32} {k : Nat} (hk : k < l.length) (h : hasN (l.take k) x = false) (he : (l[k] == x) = false) : hasN (l.take (k + 1)) x = false := by
  unfold hasN at *
  rw [List.take_succ_eq_append_getElem hk, List.any_append, h]
  simpa using he
theorem hasA_succ {l : List Leg} {x : UInt32} {i : Nat} (hi : i < l.length) (h : hasA (l.take i) x = false) (he : hasN l[i].ns x = false) : hasA (l.take (i + 1)) x = false := by
  unfold hasA at *
  rw [List.take_succ_eq_append_getElem hi, List.any_append, h]
  simpa using he
theorem hasA_yes {l : List Leg} {x : UInt32} {i k : Nat} (hi : i < l.length) (hk : k < l[i].ns.length) (he : l[i].ns[k] = x) : hasA l x = true := by
  unfold hasA hasN
  rw [List.any_eq_true]
  exact ⟨l[i], List.getElem_mem hi, List.any_eq_true.2 ⟨_, List.getElem_mem hk, by simp [he]⟩⟩
set_option maxRecDepth 100000 in
theorem has_ok (fr : Bool) (a : Attrs) (x : UInt32) (hpl : a.path.length ≤ 1000) (hp : ∀ p ∈ a.path, p.ns.length ≤ 1000) (htl : a.tags.length ≤ 1000) : PCon prog 29 [encA fr a, cW x] (.bool (hasA a.path x)) := by
  have fin : ∀ {s : St} {r : Bool}, hasA a.path x = r → ∃ v1 h' nx', Ends 0 s (.bool r) v1 h' nx' ∧ (v1 = .bool (hasA a.path x) ∧ h' = [] ∧ nx' = 0) := fun h => Ends.pure [] (.bool_of h.symm) (by simp)
  refine callV_of (fn := Go.Proofs.Try.f29) (body := _) tab_ok mixed rfl rfl (by decide) (by simp [Go.Proofs.Try.f29]) ?_
  (conv => whnf)
  refine callV_pure (systems_ok fr a hpl hp htl) ⟨.free (encA_free _ _), trivial⟩ ?_
  (conv => whnf)
  refine callV_loop [(3, .ptr 1 0), (4, .ptr 2 0)] ⟨rfl, rfl, trivial⟩ fun asg' body' hasg hbody => ?_
  refine callV_of (fn := Go.Proofs.Try.f51) (body := _) tab_ok mixed rfl rfl (by decide) (by simp [Go.Proofs.Try.f51]) ?_
  (conv => whnf)
  intro _
  (conv => whnf)
  refine vcg_loop tab_ok mixed (fun i : {i : Nat // i ≤ a.path.length ∧ hasA (a.path.take i) x = false} => ⟨[(0, .yld 3), (7, encLegs true a.path), (8, cI a.path.length), (9, cI i.1)], [(3, some (.loop 14 [(3, .ptr 1 0), (4, .ptr 2 0)] [9, 10] asg' body' .ready none)), (1, some (.var true 23 [cW x])), (2, some (.var true 4 [.bool false]))], 4⟩) (fun i => a.path.length - i.1) ⟨0, by omega, rfl⟩ ?_ (fun i => ?_)
  · exact Wk.of id [] ⟨.yld rfl (by omega), .free (encLegs_free _ _), .int_of (by simp), .int_of rfl, trivial⟩ (LeH.of ⟨⟨by omega, .inl ⟨by simp, _, rfl, rfl, rfl, rfl, rfl, rfl, rfl, .ptr rfl (by omega), .ptr rfl (by omega), trivial⟩⟩, ⟨by omega, .inl ⟨by simp, _, rfl, id, rfl, .int_of rfl, trivial⟩⟩, ⟨by omega, .inl ⟨by simp, _, rfl, id, rfl, .bool_of rfl, trivial⟩⟩, trivial⟩ (fun _ _ _ _ h => h) (fun _ _ => rfl) (by omega) (by simp))
  obtain ⟨i, hi, hn⟩ := i
  (conv => whnf)
  split
  · rename_i hc
    have hc : i < a.path.length := by simpa using hc
    have hpi := hp a.path[i] (List.getElem_mem hc)
    (conv => whnf)
    refine ⟨rfl, _, ⟨by first | omega | (simp only; omega), idxL hc⟩, ?_⟩
    (conv => whnf)
    intro _
    (conv => whnf)
    refine vcg_loop tab_ok mixed (fun k : {k : Nat // k ≤ a.path[i].ns.length ∧ hasN (a.path[i].ns.take k) x = false} => ⟨[(0, .yld 3), (3, cI i), (7, encLegs true a.path), (8, cI a.path.length), (9, cI i), (15, encW true a.path[i].ns), (16, cI a.path[i].ns.length), (17, cI k.1)], [(3, some (.loop 14 [(3, .ptr 1 0), (4, .ptr 2 0)] [9, 10] asg' body' .ready none)), (1, some (.var true 23 [cW x])), (2, some (.var true 4 [.bool false]))], 5⟩) (fun k => a.path[i].ns.length - k.1) ⟨0, by omega, rfl⟩ ?_ (fun k => ?_)
    · exact Wk.of id [] ⟨.yld rfl (by omega), .int_of rfl, .free (encLegs_free _ _), .int_of rfl, .int_of rfl, .free (encW_free _ _), .int_of (by simp), .int_of rfl, trivial⟩ (LeH.of ⟨⟨by omega, .inl ⟨by simp, _, rfl, rfl, rfl, rfl, rfl, rfl, rfl, .ptr rfl (by omega), .ptr rfl (by omega), trivial⟩⟩, ⟨by omega, .inl ⟨by simp, _, rfl, id, rfl, .int_of rfl, trivial⟩⟩, ⟨by omega, .inl ⟨by simp, _, rfl, id, rfl, .bool_of rfl, trivial⟩⟩, trivial⟩ (fun _ _ _ _ h => h) (fun _ _ => rfl) (by omega) (by simp))
    obtain ⟨k, hk, hnk⟩ := k
    (conv => whnf)
    split
    · rename_i hck
      have hck : k < a.path[i].ns.length := by simpa using hck
      (conv => whnf)
      refine ⟨rfl, _, ⟨by first | omega | (simp only; omega), idxW hck⟩, ?_⟩
      (conv => whnf)
      subst hasg hbody
      refine roundV_of tab_ok mixed rfl (by simp) (show 3 < 5 by omega) ?_
      (conv => whnf)
      refine ⟨rfl, ?_⟩
      (conv => whnf)
      split
      · rename_i he
        (conv => whnf)
        refine ⟨rfl, ?_⟩
        (conv => whnf)
        refine ⟨_, _, _, Ends.here, ?_⟩
        (conv => whnf)
        refine fin (hasA_yes hc hck ?_)
        refine UInt32.toNat_inj.1 ?_
        simp at he
        omega
      · rename_i he
        have he : (a.path[i].ns[k] == x) = false := by
          rw [beq_eq_false_iff_ne]
          intro e
          rw [e] at he
          simp at he
        (conv => whnf)
        refine ⟨rfl, ?_⟩
        (conv => whnf)
        refine ⟨⟨k + 1, by omega, hasN_succ hck hnk he⟩, Wk.of id [] ⟨.yld rfl (by omega), .int_of rfl, .free (encLegs_free _ _), .int_of rfl, .int_of rfl, .free (encW_free _ _), .int_of rfl, .int_of (wrap64_succ hck (show a.path[i].ns.length ≤ maxLen by unfold maxLen; omega)), trivial⟩ (LeH.of ⟨⟨by omega, .inl ⟨by simp, _, rfl, rfl, rfl, rfl, rfl, rfl, rfl, .ptr rfl (by omega), .ptr rfl (by omega), trivial⟩⟩, ⟨by omega, .inl ⟨by simp, _, rfl, id, rfl, .int_of rfl, trivial⟩⟩, ⟨by omega, .inl ⟨by simp, _, rfl, id, rfl, .bool_of rfl, trivial⟩⟩, trivial⟩ (fun _ _ _ _ h => h) (fun _ _ => rfl) (by omega) (by simp)), by simp only; omega⟩
    · rename_i hck
      have hck : k = a.path[i].ns.length := by simp at hck; omega
      (conv => whnf)
      refine ⟨⟨i + 1, by omega, ?_⟩, Wk.of id [] ⟨.yld rfl (by omega), .free (encLegs_free _ _), .int_of rfl, .int_of (wrap64_succ hc (show a.path.length ≤ maxLen by unfold maxLen; omega)), trivial⟩ (LeH.of ⟨⟨by omega, .inl ⟨by simp, _, rfl, rfl, rfl, rfl, rfl, rfl, rfl, .ptr rfl (by omega), .ptr rfl (by omega), trivial⟩⟩, ⟨by omega, .inl ⟨by simp, _, rfl, id, rfl, .int_of rfl, trivial⟩⟩, ⟨by omega, .inl ⟨by simp, _, rfl, id, rfl, .bool_of rfl, trivial⟩⟩, trivial⟩ (fun _ _ _ _ h => h) (fun _ _ => rfl) (by omega) (by simp)), by simp only; omega⟩
      rw [hck, List.take_length] at hnk
      exact hasA_succ hc hn hnk
  · rename_i hc
    have hc : i = a.path.length := by simp at hc; omega
    rw [hc, List.take_length] at hn
    (conv => whnf)
    refine ⟨_, _, _, Ends.here, ?_⟩
    (conv => whnf)
    exact fin hn
set_option maxRecDepth 100000 in
theorem ref_has_ok (fr : Bool) (a : Attrs) (x : UInt32) (hpl : a.path.length ≤ 1000) (hp : ∀ p ∈ a.path, p.ns.length ≤ 1000) : PCon prog 30 [encA fr a, cW x] (.bool (hasA a.path x)) := by
  have fin : ∀ {s : St} {r : Bool}, hasA a.path x = r → ∃ v1 h' nx', Ends 0 s (.bool r) v1 h' nx' ∧ (v1 = .bool (hasA a.path x) ∧ h' = [] ∧ nx' = 0) := fun h => Ends.pure [] (.bool_of h.symm) (by simp)
  have cell : ∀ {fr0 : Bool} {x : Attrs}, FreeB (.var true 26 (cellsA fr0 x)) := fun {fr0 x} => cellsA_free fr0 x
  refine callV_of (fn := Go.Proofs.Try.f30) (body := _) tab_ok mixed rfl rfl (by decide) (by simp [Go.Proofs.Try.f30]) ?_
  (conv => whnf)
  refine vcg_loop tab_ok mixed (fun i : {i : Nat // i ≤ a.path.length ∧ hasA (a.path.take i) x = false} => ⟨[(1, cW x), (2, .ptr 0 0), (5, cI i.1)], [(0, some (.var true 26 (cellsA fr a)))], 1⟩) (fun i => a.path.length - i.1) ⟨0, by omega, rfl⟩ (Wk.of id [] ⟨.int_of rfl, .ptr rfl (by omega), .int_of rfl, trivial⟩ (LeH.of ⟨⟨by omega, .inl ⟨by simp, _, rfl, LeB.free cell⟩⟩, trivial⟩ (fun _ _ _ _ h => h) (fun _ _ => rfl) (by omega) (by simp))) (fun i => ?_)
  obtain ⟨i, hi, hn⟩ := i
  (conv => whnf)
  intro hl
  have hl : a.path.length ≤ maxLen := by simpa [gd] using hl
  (conv => whnf)
  split
  · rename_i hc
    have hc : i < a.path.length := by simpa using hc
    have hpi := hp a.path[i] (List.getElem_mem hc)
    (conv => whnf)
    refine vcg_loop tab_ok mixed (fun k : {k : Nat // k ≤ a.path[i].ns.length ∧ hasN (a.path[i].ns.take k) x = false} => ⟨[(1, cW x), (2, .ptr 0 0), (5, cI i), (6, cI k.1)], [(0, some (.var true 26 (cellsA fr a)))], 1⟩) (fun k => a.path[i].ns.length - k.1) ⟨0, by omega, rfl⟩ (Wk.of id [] ⟨.int_of rfl, .ptr rfl (by omega), .int_of rfl, .int_of rfl, trivial⟩ (LeH.of ⟨⟨by omega, .inl ⟨by simp, _, rfl, LeB.free cell⟩⟩, trivial⟩ (fun _ _ _ _ h => h) (fun _ _ => rfl) (by omega) (by simp))) (fun k => ?_)
    obtain ⟨k, hk, hnk⟩ := k
    (conv => whnf)
    refine ⟨rfl, _, ⟨by first | omega | (simp only; omega), idxL hc⟩, ?_⟩
    (conv => whnf)
    intro _
    (conv => whnf)
    split
    · rename_i hck
      have hck : k < a.path[i].ns.length := by simpa using hck
      (conv => whnf)
      refine ⟨rfl, _, ⟨by first | omega | (simp only; omega), idxL hc⟩, ?_⟩
      (conv => whnf)
      refine ⟨rfl, _, ⟨by first | omega | (simp only; omega), idxW hck⟩, ?_⟩
      (conv => whnf)
      split
      · rename_i he
        (conv => whnf)
        refine fin (hasA_yes hc hck ?_)
        refine UInt32.toNat_inj.1 ?_
        simp at he
        omega
      · rename_i he
        have he : (a.path[i].ns[k] == x) = false := by
          rw [beq_eq_false_iff_ne]
          intro e
          rw [e] at he
          simp at he
        (conv => whnf)
        exact ⟨⟨k + 1, by omega, hasN_succ hck hnk he⟩, Wk.of id [] ⟨.int_of rfl, .ptr rfl (by omega), .int_of rfl, .int_of (wrap64_succ hck (show a.path[i].ns.length ≤ maxLen by unfold maxLen; omega)), trivial⟩ (LeH.of ⟨⟨by omega, .inl ⟨by simp, _, rfl, LeB.free cell⟩⟩, trivial⟩ (fun _ _ _ _ h => h) (fun _ _ => rfl) (by omega) (by simp)), by simp only; omega⟩
    · rename_i hck
      have hck : k = a.path[i].ns.length := by simp at hck; omega
      (conv => whnf)
      refine ⟨⟨i + 1, by omega, ?_⟩, Wk.of id [] ⟨.int_of rfl, .ptr rfl (by omega), .int_of (wrap64_succ hc (show a.path.length ≤ maxLen by unfold maxLen; omega)), trivial⟩ (LeH.of ⟨⟨by omega, .inl ⟨by simp, _, rfl, LeB.free cell⟩⟩, trivial⟩ (fun _ _ _ _ h => h) (fun _ _ => rfl) (by omega) (by simp)), by simp only; omega⟩
      rw [hck, List.take_length] at hnk
      exact hasA_succ hc hn hnk
  · rename_i hc
    have hc : i = a.path.length := by simp at hc; omega
    rw [hc, List.take_length] at hn
    (conv => whnf)
    exact fin hn
end Go.Proofs.Ytcfkendgjinmiaa
/- Contract: the law AttrsPaths. -/
set_option linter.unusedVariables false
set_option linter.unusedSimpArgs false
namespace Go.Proofs.Ytcfkendgjinmiaa
open Go.RowKit
open Go.Proofs.Try (prog)
attribute [local irreducible] CallV RoundV

def rowsI (l : List Nat) : List (List V) := l.map fun n => [cI n]
theorem rowsI_free (l : List Nat) : ∀ x ∈ rowsI l, ∀ v ∈ x, Free v := by
  intro x hx v hv
  obtain ⟨y, _, rfl⟩ := List.mem_map.1 hx
  simp at hv; subst hv; exact .int
def allOf (l : List Leg) : List UInt32 := l.flatMap (·.ns)
def idxOf (l : List Leg) : List Nat := (l.mapIdx fun i p => List.replicate p.ns.length i).flatten
theorem allOf_app (l m : List Leg) : allOf (l ++ m) = allOf l ++ allOf m := by simp [allOf]
theorem allOf_succ {l : List Leg} {i : Nat} (h : i < l.length) : allOf (l.take (i + 1)) = allOf (l.take i) ++ l[i].ns := by
  rw [List.take_succ_eq_append_getElem h, allOf_app]; simp [allOf]
theorem idxOf_succ {l : List Leg} {i : Nat} (h : i < l.length) : idxOf (l.take (i + 1)) = idxOf (l.take i) ++ List.replicate l[i].ns.length i := by
  rw [List.take_succ_eq_append_getElem h]
  unfold idxOf
  rw [List.mapIdx_append]
  simp [List.length_take, Nat.min_eq_left (Nat.le_of_lt h)]
theorem idxOf_pre (l m : List Leg) : ∃ r, idxOf (l ++ m) = idxOf l ++ r := by
  unfold idxOf
  rw [List.mapIdx_append, List.flatten_append]
  exact ⟨_, rfl⟩
theorem idxOf_len : ∀ (l : List Leg) (i : Nat), i ≤ l.length → (idxOf (l.take i)).length = (allOf (l.take i)).length
  | l, 0, _ => by simp [idxOf, allOf]
  | l, i + 1, h => by rw [idxOf_succ h, allOf_succ h, List.length_append, List.length_append, List.length_replicate, idxOf_len l i (by omega)]
theorem idxOf_length (l : List Leg) : (idxOf l).length = (allOf l).length := by
  have := idxOf_len l l.length (Nat.le_refl _)
  rwa [List.take_length] at this
theorem allOf_le {l : List Leg} (h : ∀ p ∈ l, p.ns.length ≤ 60) : (allOf l).length ≤ 60 * l.length := by
  induction l with
  | nil => simp [allOf]
  | cons p l ih =>
    have h1 := ih (fun q hq => h q (by simp [hq]))
    have h2 := h p (by simp)
    have e : allOf (p :: l) = p.ns ++ allOf l := by simp [allOf]
    rw [e, List.length_append, List.length_cons]
    omega
theorem allOf_at {l : List Leg} {i k : Nat} (hi : i < l.length) (hk : k < l[i].ns.length) : (allOf l)[(allOf (l.take i)).length + k]? = some l[i].ns[k] := by
  have e : allOf l = allOf (l.take i) ++ (l[i].ns ++ allOf (l.drop (i + 1))) := by
    rw [← List.append_assoc, ← allOf_succ hi, ← allOf_app, List.take_append_drop]
  rw [e, List.getElem?_append_right (by omega), Nat.add_sub_cancel_left, List.getElem?_append_left hk, List.getElem?_eq_getElem hk]
theorem idxOf_at {l : List Leg} {i k : Nat} (hi : i < l.length) (hk : k < l[i].ns.length) : (idxOf l)[(allOf (l.take i)).length + k]? = some i := by
  obtain ⟨r, hr⟩ := idxOf_pre (l.take (i + 1)) (l.drop (i + 1))
  rw [List.take_append_drop, idxOf_succ hi] at hr
  rw [hr, List.append_assoc, ← idxOf_len l i (by omega), List.getElem?_append_right (by omega), Nat.add_sub_cancel_left, List.getElem?_append_left (by simpa using hk)]
  simp [hk]
theorem stop_eq {n M : Nat} {many : Int} (hlt : n < M) (hgo : n = 0 ∨ (n : Int) < many) (hm : many ≤ (n : Int) + 1) : (if (if 1 < many then many else 1) < (M : Int) then (if 1 < many then many else 1) else (M : Int)) = (n : Int) + 1 := by
  split <;> split at * <;> omega
theorem end_eq {M : Nat} {many : Int} (hgo : M = 0 ∨ (M : Int) < many) : (if (if 1 < many then many else 1) < (M : Int) then (if 1 < many then many else 1) else (M : Int)) = (M : Int) := by
  split <;> split at * <;> omega
theorem rowsI_at {l : List Leg} {i k : Nat} (hi : i < l.length) (hk : k < l[i].ns.length) : (rowsI (idxOf l))[0 + ((((allOf (l.take i)).length + k : Nat) : Int)).toNat]? = some [cI i] := by
  rw [Int.toNat_natCast, Nat.zero_add]
  simp only [rowsI, List.getElem?_map, idxOf_at hi hk, Option.map_some]
theorem rowsW_at {l : List Leg} {i k : Nat} (hi : i < l.length) (hk : k < l[i].ns.length) : (rowsW (allOf l))[0 + ((((allOf (l.take i)).length + k : Nat) : Int)).toNat]? = some [cW l[i].ns[k]] := by
  rw [Int.toNat_natCast, Nat.zero_add]
  simp only [rowsW, List.getElem?_map, allOf_at hi hk, Option.map_some]
/-- The first going over goes on. -/
def Go (tn : Nat) (many : Int) (n : Nat) : Prop := tn = 0 → n = 0 ∨ (n : Int) < many
set_option maxRecDepth 100000 in
theorem paths_ok (a : Attrs) (x : UInt32) (many : Int) : PCon prog 7 [encA false a, cW x, .int .i64 many] (.bool true) := by
  have cell : ∀ {fr0 : Bool} {x : Attrs}, FreeB (.var true 26 (cellsA fr0 x)) := fun {fr0 x} => cellsA_free fr0 x
  refine callV_of (fn := Go.Proofs.Try.f7) (body := _) tab_ok mixed rfl rfl (by decide) (by simp [Go.Proofs.Try.f7]) ?_
  (conv => whnf)
  refine callV_pure (few_ok false a) ⟨.free (encA_free _ _), trivial⟩ ?_
  cases hf : fewA a with
  | false =>
    (conv => whnf)
    refine callV_pure works_ok trivial ?_
    (conv => whnf)
    exact Ends.pure [] (.free .bool) (by simp)
  | true =>
    obtain ⟨hp, hpl, htl⟩ := fewA_out hf
    have hp' : ∀ p ∈ a.path, p.ns.length ≤ 1000 := fun p h => by have := hp p h; omega
    (conv => whnf)
    refine ⟨cI (lengthOf a.path), [], fun h nx _ => pureV_pure (length_ok false a.path (by omega) hp) ⟨.free (encLegs_free _ _), trivial⟩, by simp, ?_⟩
    (conv => whnf)
    refine ⟨cI (lengthOf a.path), [], fun h nx _ => pureV_pure (ref_length_ok false a.path (by omega) hp) ⟨.free (encLegs_free _ _), trivial⟩, by simp, ?_⟩
    (conv => whnf)
    split
    case h_1 h => exact absurd h (by simp)
    (conv => whnf)
    refine ⟨cW (firstOf a), [], fun h nx _ => pureV_pure (first_ok false a) ⟨.free (encA_free _ _), trivial⟩, by simp, ?_⟩
    (conv => whnf)
    refine ⟨cW (firstOf a), [], fun h nx _ => pureV_pure (ref_first_ok false a) ⟨.free (encA_free _ _), trivial⟩, by simp, ?_⟩
    (conv => whnf)
    split
    case h_1 h => exact absurd h (by simp)
    (conv => whnf)
    refine ⟨.bool (hasA a.path x), [], fun h nx _ => pureV_pure (has_ok false a x (by omega) hp' (by omega)) ⟨.free (encA_free _ _), .int_of rfl, trivial⟩, by simp, ?_⟩
    (conv => whnf)
    refine ⟨.bool (hasA a.path x), [], fun h nx _ => pureV_pure (ref_has_ok false a x (by omega) hp') ⟨.free (encA_free _ _), .int_of rfl, trivial⟩, by simp, ?_⟩
    (conv => whnf)
    refine ⟨by kernel_rfl, ?_⟩
    (conv => whnf)
    split
    case h_1 h => exact absurd h (by simp)
    (conv => whnf)
    refine vcg_loop tab_ok mixed (fun i : {i : Nat // i ≤ a.path.length} => ⟨[(3, .ptr 0 0), (5, .ptr 1 0), (6, .ptr 2 0), (7, .ptr 3 0), (8, .ptr 4 0), (9, cI i.1)],
      [(0, some (.var true 26 (cellsA false a))), (1, some (.var true 3 [.int .i64 many])), (2, some (.var true 4 [.bool false])), (3, some (.var true 52 [.osl 5 1 0 (allOf (a.path.take i.1)).length])), (4, some (.var true 24 [.osl 6 1 0 (allOf (a.path.take i.1)).length])), (5, some (.arr true false 3 1 (rowsI (idxOf (a.path.take i.1))))), (6, some (.arr true false 23 1 (rowsW (allOf (a.path.take i.1)))))], 7⟩) (fun i => a.path.length - i.1) ⟨0, by omega⟩ ?_ (fun i => ?_)
    · refine Wk.of (renOf [(5, 50), (6, 51)]) [] ⟨.ptr rfl (by omega), .ptr rfl (by omega), .ptr rfl (by omega), .ptr rfl (by omega), .ptr rfl (by omega), .int_of rfl, trivial⟩ (LeH.of ⟨⟨by omega, .inl ⟨by simp, _, rfl, LeB.free cell⟩⟩, ⟨by omega, .inl ⟨by simp, _, rfl, id, rfl, .int_of rfl, trivial⟩⟩, ⟨by omega, .inl ⟨by simp, _, rfl, id, rfl, .bool_of rfl, trivial⟩⟩, ⟨by omega, .inl ⟨by simp, _, rfl, id, rfl, .osl0, trivial⟩⟩, ⟨by omega, .inl ⟨by simp, _, rfl, id, rfl, .osl0, trivial⟩⟩, ⟨by omega, .inr ⟨by simp [renOf, Nat.beq], _, _, _, _, rfl⟩⟩, ⟨by omega, .inr ⟨by simp [renOf, Nat.beq], _, _, _, _, rfl⟩⟩, trivial⟩
        (show ∀ b ∈ [0, 1, 2, 3, 4, 5, 6], ∀ b' ∈ [0, 1, 2, 3, 4, 5, 6], renOf [(5, 50), (6, 51)] b = renOf [(5, 50), (6, 51)] b' → b = b' by decide) (fun _ h => by omega) (by omega) (by simp))
    obtain ⟨i, hi⟩ := i
    (conv => whnf)
    intro hl
    have hl : a.path.length ≤ maxLen := by simpa [gd] using hl
    (conv => whnf)
    split
    · rename_i hc
      have hc : i < a.path.length := by simpa using hc
      have hpi := hp a.path[i] (List.getElem_mem hc)
      (conv => whnf)
      refine vcg_loop tab_ok mixed (fun k : {k : Nat // k ≤ a.path[i].ns.length} => ⟨[(3, .ptr 0 0), (5, .ptr 1 0), (6, .ptr 2 0), (7, .ptr 3 0), (8, .ptr 4 0), (9, cI i), (10, cI k.1)],
        [(0, some (.var true 26 (cellsA false a))), (1, some (.var true 3 [.int .i64 many])), (2, some (.var true 4 [.bool false])), (3, some (.var true 52 [.osl 5 1 0 ((allOf (a.path.take i)).length + k.1)])), (4, some (.var true 24 [.osl 6 1 0 ((allOf (a.path.take i)).length + k.1)])), (5, some (.arr true false 3 1 (rowsI (idxOf (a.path.take i) ++ List.replicate k.1 i)))), (6, some (.arr true false 23 1 (rowsW (allOf (a.path.take i) ++ a.path[i].ns.take k.1))))], 7⟩) (fun k => a.path[i].ns.length - k.1) ⟨0, by omega⟩ ?_ (fun k => ?_)
      · refine Wk.of id [] ⟨.ptr rfl (by omega), .ptr rfl (by omega), .ptr rfl (by omega), .ptr rfl (by omega), .ptr rfl (by omega), .int_of rfl, .int_of rfl, trivial⟩ (LeH.of ⟨⟨by omega, .inl ⟨by simp, _, rfl, LeB.free cell⟩⟩, ⟨by omega, .inl ⟨by simp, _, rfl, id, rfl, .int_of rfl, trivial⟩⟩, ⟨by omega, .inl ⟨by simp, _, rfl, id, rfl, .bool_of rfl, trivial⟩⟩, ⟨by omega, .inl ⟨by simp, _, rfl, id, rfl, .osl_of rfl (by omega) rfl, trivial⟩⟩, ⟨by omega, .inl ⟨by simp, _, rfl, id, rfl, .osl_of rfl (by omega) rfl, trivial⟩⟩, ⟨by omega, .inl ⟨by simp, _, rfl, LeB.eq_of (by simp) (rowsI_free _)⟩⟩, ⟨by omega, .inl ⟨by simp, _, rfl, LeB.eq_of (by simp) (rowsW_free _)⟩⟩, trivial⟩ (fun _ _ _ _ h => h) (fun _ _ => rfl) (by omega) (by simp))
      obtain ⟨k, hk⟩ := k
      (conv => whnf)
      refine ⟨rfl, _, ⟨by first | omega | (simp only; omega), idxL hc⟩, ?_⟩
      (conv => whnf)
      intro _
      (conv => whnf)
      split
      · rename_i hck
        have hck : k < a.path[i].ns.length := by simpa using hck
        (conv => whnf)
        have hN := allOf_le (l := a.path.take i) (fun p h => hp p (List.mem_of_mem_take h))
        rw [List.length_take, Nat.min_eq_left hi] at hN
        have hil := idxOf_len a.path i hi
        refine ⟨rfl, by simp, ?_⟩
        (conv => whnf)
        refine ⟨⟨rfl, rfl, rfl, rfl, by decide⟩, by simp [rowsI, hil], ⟨by simp [tab, tabOf, nth]; omega, by simp; omega⟩, ?_⟩
        (conv => whnf)
        refine ⟨rfl, _, ⟨by first | omega | (simp only; omega), idxL hc⟩, ?_⟩
        (conv => whnf)
        refine ⟨rfl, _, ⟨by first | omega | (simp only; omega), idxW hck⟩, ?_⟩
        (conv => whnf)
        refine ⟨rfl, by simp, ?_⟩
        (conv => whnf)
        refine ⟨⟨rfl, rfl, rfl, rfl, by decide⟩, by simp [rowsW, Nat.min_eq_left hk], ⟨by simp [tab, tabOf, nth]; omega, by simp; omega⟩, ?_⟩
        (conv => whnf)
        refine ⟨by kernel_rfl, ?_⟩
        (conv => whnf)
        refine ⟨⟨k + 1, by omega⟩, Wk.of (renOf [(5, 8), (6, 10)]) [] ⟨.ptr rfl (by omega), .ptr rfl (by omega), .ptr rfl (by omega), .ptr rfl (by omega), .ptr rfl (by omega), .int_of rfl, .int_of (wrap64_succ hck (show a.path[i].ns.length ≤ maxLen by unfold maxLen; omega)), trivial⟩ (LeH.of ⟨⟨by omega, .inl ⟨by simp, _, rfl, LeB.free cell⟩⟩, ⟨by omega, .inl ⟨by simp, _, rfl, id, rfl, .int_of rfl, trivial⟩⟩, ⟨by omega, .inl ⟨by simp, _, rfl, id, rfl, .bool_of rfl, trivial⟩⟩, ⟨by omega, .inl ⟨by simp, _, rfl, id, rfl, .osl_of rfl (by omega) ?_, trivial⟩⟩, ⟨by omega, .inl ⟨by simp, _, rfl, id, rfl, .osl_of rfl (by omega) ?_, trivial⟩⟩, ⟨by omega, .inl ⟨by simp, _, rfl, LeB.eq_of ?_ (rowsI_free _)⟩⟩, ⟨by omega, .inl ⟨by simp, _, rfl, LeB.eq_of ?_ (rowsW_free _)⟩⟩, trivial⟩
          (show ∀ b ∈ [0, 1, 2, 3, 4, 5, 6], ∀ b' ∈ [0, 1, 2, 3, 4, 5, 6], renOf [(5, 8), (6, 10)] b = renOf [(5, 8), (6, 10)] b' → b = b' by decide) (fun _ h => by omega) (by omega) (by simp)), by simp only; omega⟩
        · simp; omega
        · simp; omega
        · simp only
          rw [List.take_of_length_le (by simp [rowsI, hil])]
          simp [rowsI, List.replicate_succ']
        · simp only
          rw [List.take_of_length_le (by simp [rowsW, Nat.min_eq_left hk]), List.take_succ_eq_append_getElem hck]
          simp only [rowsW, List.map_append, List.append_assoc, List.map_cons, List.map_nil]
          rfl
      · rename_i hck
        have hck : k = a.path[i].ns.length := by simp at hck; omega
        (conv => whnf)
        refine ⟨⟨i + 1, by omega⟩, Wk.of id [] ⟨.ptr rfl (by omega), .ptr rfl (by omega), .ptr rfl (by omega), .ptr rfl (by omega), .ptr rfl (by omega), .int_of (wrap64_succ hc hl), trivial⟩ (LeH.of ⟨⟨by omega, .inl ⟨by simp, _, rfl, LeB.free cell⟩⟩, ⟨by omega, .inl ⟨by simp, _, rfl, id, rfl, .int_of rfl, trivial⟩⟩, ⟨by omega, .inl ⟨by simp, _, rfl, id, rfl, .bool_of rfl, trivial⟩⟩, ⟨by omega, .inl ⟨by simp, _, rfl, id, rfl, .osl_of rfl (by omega) ?_, trivial⟩⟩, ⟨by omega, .inl ⟨by simp, _, rfl, id, rfl, .osl_of rfl (by omega) ?_, trivial⟩⟩, ⟨by omega, .inl ⟨by simp, _, rfl, LeB.eq_of ?_ (rowsI_free _)⟩⟩, ⟨by omega, .inl ⟨by simp, _, rfl, LeB.eq_of ?_ (rowsW_free _)⟩⟩, trivial⟩ (fun _ _ _ _ h => h) (fun _ _ => rfl) (by omega) (by simp)), by simp only; omega⟩
        · simp only
          rw [allOf_succ hc, List.length_append, hck]
        · simp only
          rw [allOf_succ hc, List.length_append, hck]
        · simp only
          rw [idxOf_succ hc, hck]
        · simp only
          rw [allOf_succ hc, hck, List.take_length]
    · rename_i hc
      have hc : i = a.path.length := by simp at hc; omega
      subst hc
      have hM := allOf_le hp
      have hil := idxOf_length a.path
      (conv => whnf)
      simp only [List.take_length]
      refine callV_pure (lent_ok false a hf) ⟨.free (encA_free _ _), trivial⟩ ?_
      (conv => whnf)
      refine callV_pure (systems_ok true a (by omega) hp' (by omega)) ⟨.free (encA_free _ _), trivial⟩ ?_
      (conv => whnf)
      refine vcg_loop tab_ok mixed (fun tn : {t : Nat // t ≤ 2} => ⟨[(5, .ptr 0 0), (6, .ptr 1 0), (7, .ptr 2 0), (8, .ptr 3 0), (11, .fn (.func 51) [] [.iptr true [encLegs true a.path]]), (12, .ptr 6 0)],
        [(0, some (.var true 3 [.int .i64 many])), (1, some (.var true 4 [.bool false])), (2, some (.var true 52 [.osl 4 1 0 (allOf a.path).length])), (3, some (.var true 24 [.osl 5 1 0 (allOf a.path).length])), (4, some (.arr true false 3 1 (rowsI (idxOf a.path)))), (5, some (.arr true false 23 1 (rowsW (allOf a.path)))), (6, some (.var true 3 [cI tn.1]))], 7⟩) (fun tn => 2 - tn.1) ⟨0, by omega⟩ ?_ (fun tn => ?_)
      · refine Wk.of (renOf [(0, 1), (1, 2), (2, 3), (3, 4), (4, 5), (5, 6), (6, 7)]) [] ⟨.ptr rfl (by omega), .ptr rfl (by omega), .ptr rfl (by omega), .ptr rfl (by omega), .free (.fn (by simp) (by intro v hv; simp at hv; subst hv; exact .iptr (by intro v hv; simp at hv; subst hv; exact encLegs_free _ _))), .ptr rfl (by omega), trivial⟩
          (LeH.of ⟨⟨by omega, .inl ⟨by simp, _, rfl, id, rfl, .int_of rfl, trivial⟩⟩, ⟨by omega, .inl ⟨by simp, _, rfl, id, rfl, .bool_of rfl, trivial⟩⟩, ⟨by omega, .inl ⟨by simp, _, rfl, id, rfl, .osl_of rfl (by omega) rfl, trivial⟩⟩, ⟨by omega, .inl ⟨by simp, _, rfl, id, rfl, .osl_of rfl (by omega) rfl, trivial⟩⟩, ⟨by omega, .inl ⟨by simp, _, rfl, LeB.eq_of rfl (rowsI_free _)⟩⟩, ⟨by omega, .inl ⟨by simp, _, rfl, LeB.eq_of rfl (rowsW_free _)⟩⟩, ⟨by omega, .inl ⟨by simp, _, rfl, id, rfl, .int_of rfl, trivial⟩⟩, trivial⟩
          (show ∀ b ∈ [0, 1, 2, 3, 4, 5, 6], ∀ b' ∈ [0, 1, 2, 3, 4, 5, 6], renOf [(0, 1), (1, 2), (2, 3), (3, 4), (4, 5), (5, 6), (6, 7)] b = renOf [(0, 1), (1, 2), (2, 3), (3, 4), (4, 5), (5, 6), (6, 7)] b' → b = b' by decide) (fun _ h => by omega) (by omega) (by simp))
      obtain ⟨tn, htn⟩ := tn
      (conv => whnf)
      split
      · rename_i htn2
        have htn2 : tn < 2 := by simp at htn2; omega
        (conv => whnf)
        refine callV_loop [(5, .ptr 0 0), (6, .ptr 1 0), (7, .ptr 2 0), (8, .ptr 3 0), (12, .ptr 6 0), (13, .ptr 7 0)] ⟨rfl, rfl, rfl, rfl, rfl, rfl, trivial⟩ fun asg' body' hasg hbody => ?_
        refine callV_of (fn := Go.Proofs.Try.f51) (body := _) tab_ok mixed rfl rfl (by decide) (by simp [Go.Proofs.Try.f51]) ?_
        (conv => whnf)
        intro _
        (conv => whnf)
        refine vcg_loop tab_ok mixed (fun i : {i : Nat // i ≤ a.path.length ∧ Go tn many (allOf (a.path.take i)).length} => ⟨[(0, .yld 8), (7, encLegs true a.path), (8, cI a.path.length), (9, cI i.1)], [(8, some (.loop 141 [(5, .ptr 0 0), (6, .ptr 1 0), (7, .ptr 2 0), (8, .ptr 3 0), (12, .ptr 6 0), (13, .ptr 7 0)] [87, 88] asg' body' .ready none)), (0, some (.var true 3 [.int .i64 many])), (1, some (.var true 4 [.bool false])), (2, some (.var true 52 [.osl 4 1 0 (allOf a.path).length])), (3, some (.var true 24 [.osl 5 1 0 (allOf a.path).length])), (4, some (.arr true false 3 1 (rowsI (idxOf a.path)))), (5, some (.arr true false 23 1 (rowsW (allOf a.path)))), (6, some (.var true 3 [cI tn])), (7, some (.var true 3 [cI (allOf (a.path.take i.1)).length]))], 9⟩) (fun i => a.path.length - i.1) ⟨0, by omega, fun _ => .inl rfl⟩ ?_ (fun i => ?_)
        · exact Wk.of id [] ⟨.yld rfl (by omega), .free (encLegs_free _ _), .int_of (by simp), .int_of rfl, trivial⟩ (LeH.of ⟨⟨by omega, .inl ⟨by simp, _, rfl, rfl, rfl, rfl, rfl, rfl, rfl, .ptr rfl (by omega), .ptr rfl (by omega), .ptr rfl (by omega), .ptr rfl (by omega), .ptr rfl (by omega), .ptr rfl (by omega), trivial⟩⟩, ⟨by omega, .inl ⟨by simp, _, rfl, id, rfl, .int_of rfl, trivial⟩⟩, ⟨by omega, .inl ⟨by simp, _, rfl, id, rfl, .bool_of rfl, trivial⟩⟩, ⟨by omega, .inl ⟨by simp, _, rfl, id, rfl, .osl_of rfl (by omega) rfl, trivial⟩⟩, ⟨by omega, .inl ⟨by simp, _, rfl, id, rfl, .osl_of rfl (by omega) rfl, trivial⟩⟩, ⟨by omega, .inl ⟨by simp, _, rfl, LeB.eq_of rfl (rowsI_free _)⟩⟩, ⟨by omega, .inl ⟨by simp, _, rfl, LeB.eq_of rfl (rowsW_free _)⟩⟩, ⟨by omega, .inl ⟨by simp, _, rfl, id, rfl, .int_of rfl, trivial⟩⟩, ⟨by omega, .inl ⟨by simp, _, rfl, id, rfl, .int_of (rfl), trivial⟩⟩, trivial⟩ (fun _ _ _ _ h => h) (fun _ _ => rfl) (by omega) (by simp))
        obtain ⟨i, hi, hgo⟩ := i
        (conv => whnf)
        split
        · rename_i hc0
          have hc : i < a.path.length := by simpa using hc0
          have hpi := hp a.path[i] (List.getElem_mem hc)
          (conv => whnf)
          refine ⟨rfl, _, ⟨by first | omega | (simp only; omega), idxL hc⟩, ?_⟩
          (conv => whnf)
          intro _
          (conv => whnf)
          refine vcg_loop tab_ok mixed (fun k : {k : Nat // k ≤ a.path[i].ns.length ∧ Go tn many ((allOf (a.path.take i)).length + k)} => ⟨[(0, .yld 8), (3, cI i), (7, encLegs true a.path), (8, cI a.path.length), (9, cI i), (15, encW true a.path[i].ns), (16, cI a.path[i].ns.length), (17, cI k.1)], [(8, some (.loop 141 [(5, .ptr 0 0), (6, .ptr 1 0), (7, .ptr 2 0), (8, .ptr 3 0), (12, .ptr 6 0), (13, .ptr 7 0)] [87, 88] asg' body' .ready none)), (0, some (.var true 3 [.int .i64 many])), (1, some (.var true 4 [.bool false])), (2, some (.var true 52 [.osl 4 1 0 (allOf a.path).length])), (3, some (.var true 24 [.osl 5 1 0 (allOf a.path).length])), (4, some (.arr true false 3 1 (rowsI (idxOf a.path)))), (5, some (.arr true false 23 1 (rowsW (allOf a.path)))), (6, some (.var true 3 [cI tn])), (7, some (.var true 3 [cI ((allOf (a.path.take i)).length + k.1)]))], 10⟩) (fun k => a.path[i].ns.length - k.1) ⟨0, by omega, hgo⟩ ?_ (fun k => ?_)
          · exact Wk.of id [] ⟨.yld rfl (by omega), .int_of rfl, .free (encLegs_free _ _), .int_of rfl, .int_of rfl, .free (encW_free _ _), .int_of (by simp), .int_of rfl, trivial⟩ (LeH.of ⟨⟨by omega, .inl ⟨by simp, _, rfl, rfl, rfl, rfl, rfl, rfl, rfl, .ptr rfl (by omega), .ptr rfl (by omega), .ptr rfl (by omega), .ptr rfl (by omega), .ptr rfl (by omega), .ptr rfl (by omega), trivial⟩⟩, ⟨by omega, .inl ⟨by simp, _, rfl, id, rfl, .int_of rfl, trivial⟩⟩, ⟨by omega, .inl ⟨by simp, _, rfl, id, rfl, .bool_of rfl, trivial⟩⟩, ⟨by omega, .inl ⟨by simp, _, rfl, id, rfl, .osl_of rfl (by omega) rfl, trivial⟩⟩, ⟨by omega, .inl ⟨by simp, _, rfl, id, rfl, .osl_of rfl (by omega) rfl, trivial⟩⟩, ⟨by omega, .inl ⟨by simp, _, rfl, LeB.eq_of rfl (rowsI_free _)⟩⟩, ⟨by omega, .inl ⟨by simp, _, rfl, LeB.eq_of rfl (rowsW_free _)⟩⟩, ⟨by omega, .inl ⟨by simp, _, rfl, id, rfl, .int_of rfl, trivial⟩⟩, ⟨by omega, .inl ⟨by simp, _, rfl, id, rfl, .int_of (rfl), trivial⟩⟩, trivial⟩ (fun _ _ _ _ h => h) (fun _ _ => rfl) (by omega) (by simp))
          obtain ⟨k, hk, hgok⟩ := k
          (conv => whnf)
          split
          · rename_i hck0
            have hck : k < a.path[i].ns.length := by simpa using hck0
            (conv => whnf)
            refine ⟨rfl, _, ⟨by first | omega | (simp only; omega), idxW hck⟩, ?_⟩
            (conv => whnf)
            subst hasg hbody
            refine roundV_of tab_ok mixed rfl (by simp) (show 8 < 10 by omega) ?_
            (conv => whnf)
            refine ⟨rfl, ?_⟩
            have hat := allOf_at hc hck
            have hlt : (allOf (a.path.take i)).length + k < (allOf a.path).length := (List.getElem?_eq_some_iff.1 hat).1
            (conv => whnf)
            intro _
            (conv => whnf)
            split
            case h_1 h => exact absurd h (by simp; omega)
            (conv => whnf)
            refine ⟨rfl, ⟨by first | omega | (simp only; omega), by first | omega | (simp only; omega)⟩, ?_⟩
            (conv => whnf)
            refine ⟨rfl, [cI i], rowsI_at hc hck, ?_⟩
            (conv => whnf)
            split
            case h_1 h => exact absurd h (by simp)
            (conv => whnf)
            refine ⟨rfl, ⟨by first | omega | (simp only; omega), by first | omega | (simp only; omega)⟩, ?_⟩
            (conv => whnf)
            refine ⟨rfl, [cW a.path[i].ns[k]], rowsW_at hc hck, ?_⟩
            (conv => whnf)
            split
            case h_1 h => exact absurd h (by simp)
            (conv => whnf)
            split
            · rename_i h0
              have h0 : tn = 0 := by simp at h0; omega
              subst h0
              (conv => whnf)
              split
              · rename_i hm
                (conv => whnf)
                refine ⟨rfl, ?_⟩
                (conv => whnf)
                refine ⟨_, _, _, Ends.here, ?_⟩
                (conv => whnf)
                intro _
                have hw : IntKind.i64.wrap (((allOf (a.path.take i)).length + k : Nat) + 1 : Int) = ((allOf (a.path.take i)).length + k : Nat) + 1 := wrap64 (by omega) (by omega)
                have hm : many ≤ IntKind.i64.wrap (((allOf (a.path.take i)).length + k : Nat) + 1 : Int) := of_decide_eq_true hm
                rw [hw] at hm
                have hst := stop_eq hlt (hgok rfl) hm
                (conv => whnf)
                split
                case h_1 h =>
                  have h : (IntKind.i64.wrap (((allOf (a.path.take i)).length + k : Nat) + 1 : Int) != (if (if 1 < many then many else 1) < ((allOf a.path).length : Int) then (if 1 < many then many else 1) else ((allOf a.path).length : Int))) = true := h
                  rw [hw, hst] at h
                  exact absurd h (by simp)
                (conv => whnf)
                exact ⟨⟨1, by omega⟩, Wk.of (renOf [(6, 10)]) [] ⟨.ptr rfl (by omega), .ptr rfl (by omega), .ptr rfl (by omega), .ptr rfl (by omega), .free (.fn (by simp) (by intro v hv; simp at hv; subst hv; exact .iptr (by intro v hv; simp at hv; subst hv; exact encLegs_free _ _))), .ptr rfl (by omega), trivial⟩ (LeH.of ⟨⟨by omega, .inl ⟨by simp, _, rfl, id, rfl, .int_of rfl, trivial⟩⟩, ⟨by omega, .inl ⟨by simp, _, rfl, id, rfl, .bool_of rfl, trivial⟩⟩, ⟨by omega, .inl ⟨by simp, _, rfl, id, rfl, .osl_of rfl (by omega) rfl, trivial⟩⟩, ⟨by omega, .inl ⟨by simp, _, rfl, id, rfl, .osl_of rfl (by omega) rfl, trivial⟩⟩, ⟨by omega, .inl ⟨by simp, _, rfl, LeB.eq_of rfl (rowsI_free _)⟩⟩, ⟨by omega, .inl ⟨by simp, _, rfl, LeB.eq_of rfl (rowsW_free _)⟩⟩, ⟨by omega, .inl ⟨by simp, _, rfl, id, rfl, .int_of (by simp [wrap64']), trivial⟩⟩, trivial⟩ (show ∀ b ∈ [0, 1, 2, 3, 4, 5, 6], ∀ b' ∈ [0, 1, 2, 3, 4, 5, 6], renOf [(6, 10)] b = renOf [(6, 10)] b' → b = b' by decide) (fun _ h => by omega) (by omega) (by simp)), by simp⟩
              · rename_i hm
                have hw : IntKind.i64.wrap (((allOf (a.path.take i)).length + k : Nat) + 1 : Int) = ((allOf (a.path.take i)).length + k : Nat) + 1 := wrap64 (by omega) (by omega)
                have hm : ¬ many ≤ IntKind.i64.wrap (((allOf (a.path.take i)).length + k : Nat) + 1 : Int) := of_decide_eq_false hm
                rw [hw] at hm
                (conv => whnf)
                refine ⟨rfl, ?_⟩
                (conv => whnf)
                exact ⟨⟨k + 1, by omega, fun _ => .inr (by omega)⟩, Wk.of id [] ⟨.yld rfl (by omega), .int_of rfl, .free (encLegs_free _ _), .int_of rfl, .int_of rfl, .free (encW_free _ _), .int_of rfl, .int_of (wrap64_succ hck (show a.path[i].ns.length ≤ maxLen by unfold maxLen; omega)), trivial⟩ (LeH.of ⟨⟨by omega, .inl ⟨by simp, _, rfl, rfl, rfl, rfl, rfl, rfl, rfl, .ptr rfl (by omega), .ptr rfl (by omega), .ptr rfl (by omega), .ptr rfl (by omega), .ptr rfl (by omega), .ptr rfl (by omega), trivial⟩⟩, ⟨by omega, .inl ⟨by simp, _, rfl, id, rfl, .int_of rfl, trivial⟩⟩, ⟨by omega, .inl ⟨by simp, _, rfl, id, rfl, .bool_of rfl, trivial⟩⟩, ⟨by omega, .inl ⟨by simp, _, rfl, id, rfl, .osl_of rfl (by omega) rfl, trivial⟩⟩, ⟨by omega, .inl ⟨by simp, _, rfl, id, rfl, .osl_of rfl (by omega) rfl, trivial⟩⟩, ⟨by omega, .inl ⟨by simp, _, rfl, LeB.eq_of rfl (rowsI_free _)⟩⟩, ⟨by omega, .inl ⟨by simp, _, rfl, LeB.eq_of rfl (rowsW_free _)⟩⟩, ⟨by omega, .inl ⟨by simp, _, rfl, id, rfl, .int_of rfl, trivial⟩⟩, ⟨by omega, .inl ⟨by simp, _, rfl, id, rfl, .int_of (hw), trivial⟩⟩, trivial⟩ (fun _ _ _ _ h => h) (fun _ _ => rfl) (by omega) (by simp)), by simp only; omega⟩
            · rename_i h0
              have h0 : tn ≠ 0 := by intro e; subst e; simp at h0
              have hw : IntKind.i64.wrap (((allOf (a.path.take i)).length + k : Nat) + 1 : Int) = ((allOf (a.path.take i)).length + k : Nat) + 1 := wrap64 (by omega) (by omega)
              (conv => whnf)
              refine ⟨rfl, ?_⟩
              (conv => whnf)
              exact ⟨⟨k + 1, by omega, fun h => absurd h h0⟩, Wk.of id [] ⟨.yld rfl (by omega), .int_of rfl, .free (encLegs_free _ _), .int_of rfl, .int_of rfl, .free (encW_free _ _), .int_of rfl, .int_of (wrap64_succ hck (show a.path[i].ns.length ≤ maxLen by unfold maxLen; omega)), trivial⟩ (LeH.of ⟨⟨by omega, .inl ⟨by simp, _, rfl, rfl, rfl, rfl, rfl, rfl, rfl, .ptr rfl (by omega), .ptr rfl (by omega), .ptr rfl (by omega), .ptr rfl (by omega), .ptr rfl (by omega), .ptr rfl (by omega), trivial⟩⟩, ⟨by omega, .inl ⟨by simp, _, rfl, id, rfl, .int_of rfl, trivial⟩⟩, ⟨by omega, .inl ⟨by simp, _, rfl, id, rfl, .bool_of rfl, trivial⟩⟩, ⟨by omega, .inl ⟨by simp, _, rfl, id, rfl, .osl_of rfl (by omega) rfl, trivial⟩⟩, ⟨by omega, .inl ⟨by simp, _, rfl, id, rfl, .osl_of rfl (by omega) rfl, trivial⟩⟩, ⟨by omega, .inl ⟨by simp, _, rfl, LeB.eq_of rfl (rowsI_free _)⟩⟩, ⟨by omega, .inl ⟨by simp, _, rfl, LeB.eq_of rfl (rowsW_free _)⟩⟩, ⟨by omega, .inl ⟨by simp, _, rfl, id, rfl, .int_of rfl, trivial⟩⟩, ⟨by omega, .inl ⟨by simp, _, rfl, id, rfl, .int_of (hw), trivial⟩⟩, trivial⟩ (fun _ _ _ _ h => h) (fun _ _ => rfl) (by omega) (by simp)), by simp only; omega⟩
          · rename_i hck
            have hck : k = a.path[i].ns.length := by simp at hck; omega
            have hsum : (allOf (a.path.take (i + 1))).length = (allOf (a.path.take i)).length + k := by rw [allOf_succ hc, List.length_append, hck]
            (conv => whnf)
            exact ⟨⟨i + 1, by omega, by rw [hsum]; exact hgok⟩, Wk.of id [] ⟨.yld rfl (by omega), .free (encLegs_free _ _), .int_of rfl, .int_of (wrap64_succ hc hl), trivial⟩ (LeH.of ⟨⟨by omega, .inl ⟨by simp, _, rfl, rfl, rfl, rfl, rfl, rfl, rfl, .ptr rfl (by omega), .ptr rfl (by omega), .ptr rfl (by omega), .ptr rfl (by omega), .ptr rfl (by omega), .ptr rfl (by omega), trivial⟩⟩, ⟨by omega, .inl ⟨by simp, _, rfl, id, rfl, .int_of rfl, trivial⟩⟩, ⟨by omega, .inl ⟨by simp, _, rfl, id, rfl, .bool_of rfl, trivial⟩⟩, ⟨by omega, .inl ⟨by simp, _, rfl, id, rfl, .osl_of rfl (by omega) rfl, trivial⟩⟩, ⟨by omega, .inl ⟨by simp, _, rfl, id, rfl, .osl_of rfl (by omega) rfl, trivial⟩⟩, ⟨by omega, .inl ⟨by simp, _, rfl, LeB.eq_of rfl (rowsI_free _)⟩⟩, ⟨by omega, .inl ⟨by simp, _, rfl, LeB.eq_of rfl (rowsW_free _)⟩⟩, ⟨by omega, .inl ⟨by simp, _, rfl, id, rfl, .int_of rfl, trivial⟩⟩, ⟨by omega, .inl ⟨by simp, _, rfl, id, rfl, .int_of (by simp only [hsum]), trivial⟩⟩, trivial⟩ (fun _ _ _ _ h => h) (fun _ _ => rfl) (by omega) (by simp)), by simp only; omega⟩
        · rename_i hc
          have hc : i = a.path.length := by simp at hc; omega
          subst hc
          rw [List.take_length] at hgo
          (conv => whnf)
          refine ⟨_, _, _, Ends.here, ?_⟩
          (conv => whnf)
          simp only [List.take_length]
          split
          · rename_i h0
            have h0 : tn = 0 := by simp at h0; omega
            subst h0
            have hen := end_eq (hgo rfl)
            (conv => whnf)
            intro _
            (conv => whnf)
            split
            case h_1 h =>
              rw [hen] at h
              exact absurd h (by simp)
            (conv => whnf)
            exact ⟨⟨1, by omega⟩, Wk.of (renOf [(6, 9)]) [] ⟨.ptr rfl (by omega), .ptr rfl (by omega), .ptr rfl (by omega), .ptr rfl (by omega), .free (.fn (by simp) (by intro v hv; simp at hv; subst hv; exact .iptr (by intro v hv; simp at hv; subst hv; exact encLegs_free _ _))), .ptr rfl (by omega), trivial⟩ (LeH.of ⟨⟨by omega, .inl ⟨by simp, _, rfl, id, rfl, .int_of rfl, trivial⟩⟩, ⟨by omega, .inl ⟨by simp, _, rfl, id, rfl, .bool_of rfl, trivial⟩⟩, ⟨by omega, .inl ⟨by simp, _, rfl, id, rfl, .osl_of rfl (by omega) rfl, trivial⟩⟩, ⟨by omega, .inl ⟨by simp, _, rfl, id, rfl, .osl_of rfl (by omega) rfl, trivial⟩⟩, ⟨by omega, .inl ⟨by simp, _, rfl, LeB.eq_of rfl (rowsI_free _)⟩⟩, ⟨by omega, .inl ⟨by simp, _, rfl, LeB.eq_of rfl (rowsW_free _)⟩⟩, ⟨by omega, .inl ⟨by simp, _, rfl, id, rfl, .int_of (by simp [wrap64']), trivial⟩⟩, trivial⟩ (show ∀ b ∈ [0, 1, 2, 3, 4, 5, 6], ∀ b' ∈ [0, 1, 2, 3, 4, 5, 6], renOf [(6, 9)] b = renOf [(6, 9)] b' → b = b' by decide) (fun _ h => by omega) (by omega) (by simp)), by simp⟩
          · rename_i h0
            have h0 : tn = 1 := by
              have : tn ≠ 0 := by intro e; subst e; simp at h0
              omega
            subst h0
            (conv => whnf)
            intro _
            (conv => whnf)
            split
            case h_1 h => exact absurd h (by simp)
            (conv => whnf)
            exact ⟨⟨2, by omega⟩, Wk.of (renOf [(6, 9)]) [] ⟨.ptr rfl (by omega), .ptr rfl (by omega), .ptr rfl (by omega), .ptr rfl (by omega), .free (.fn (by simp) (by intro v hv; simp at hv; subst hv; exact .iptr (by intro v hv; simp at hv; subst hv; exact encLegs_free _ _))), .ptr rfl (by omega), trivial⟩ (LeH.of ⟨⟨by omega, .inl ⟨by simp, _, rfl, id, rfl, .int_of rfl, trivial⟩⟩, ⟨by omega, .inl ⟨by simp, _, rfl, id, rfl, .bool_of rfl, trivial⟩⟩, ⟨by omega, .inl ⟨by simp, _, rfl, id, rfl, .osl_of rfl (by omega) rfl, trivial⟩⟩, ⟨by omega, .inl ⟨by simp, _, rfl, id, rfl, .osl_of rfl (by omega) rfl, trivial⟩⟩, ⟨by omega, .inl ⟨by simp, _, rfl, LeB.eq_of rfl (rowsI_free _)⟩⟩, ⟨by omega, .inl ⟨by simp, _, rfl, LeB.eq_of rfl (rowsW_free _)⟩⟩, ⟨by omega, .inl ⟨by simp, _, rfl, id, rfl, .int_of (by simp [wrap64']), trivial⟩⟩, trivial⟩ (show ∀ b ∈ [0, 1, 2, 3, 4, 5, 6], ∀ b' ∈ [0, 1, 2, 3, 4, 5, 6], renOf [(6, 9)] b = renOf [(6, 9)] b' → b = b' by decide) (fun _ h => by omega) (by omega) (by simp)), by simp⟩
      · (conv => whnf)
        refine callV_pure works_ok trivial ?_
        (conv => whnf)
        exact Ends.pure [] (.free .bool) (by simp)
end Go.Proofs.Ytcfkendgjinmiaa
