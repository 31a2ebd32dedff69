/- Joined: P5, P6, P7. -/
import Derived.Test.YtjpfofmkgdjelaaGreatK5
/- Contracts: what passes by a policy, as the program tells. -/
set_option linter.unusedVariables false
set_option linter.unusedSimpArgs false
namespace Go.Proofs.YtjpfofmkgdjelaaGreat
open Go.RowKit
open Go.Proofs.Tryz (prog)
attribute [local irreducible] CallV RoundV

def setPref (r : Rule) (a : Attrs) : Attrs := if r.hasPref then { a with hasPref := true, pref := r.pref } else a
def setR (r : Rule) (a : Attrs) : Attrs := if r.hasMed then { setPref r a with hasMed := true, med := r.med } else setPref r a
def addE (r : Rule) (a : Attrs) : Int := if r.hasAdd then tagE a r.add else 0
def addA (r : Rule) (a : Attrs) : Attrs := if r.hasAdd then tagA a r.add else a
def doneA (r : Rule) (own : UInt32) (a : Attrs) : Attrs := prepA (addA r (setR r a)) own r.times.toNat
def doneE (r : Rule) (own : UInt32) (a : Attrs) : Int := prepE (addA r (setR r a)) own r.times.toNat
def passR (r : Rule) (own : UInt32) (a : Attrs) : Bool := !r.deny && decide (addE r (setR r a) = 0) && decide (doneE r own a = 0)
def byE (p : Policy) (own : UInt32) (to : Prefix) (a : Attrs) : Int := if checkP p = 2 ∨ prefOk to = false ∨ rightA a = false ∨ own = 0 then 2 else checkP p
def byOk (p : Policy) (own : UInt32) (to : Prefix) (a : Attrs) : Bool := match p.rules.find? (fun r => fits r to a) with
  | none => p.els
  | some r => passR r own a
def byA (p : Policy) (own : UInt32) (to : Prefix) (a : Attrs) : Attrs := match p.rules.find? (fun r => fits r to a) with
  | none => if p.els then a else noA
  | some r => if passR r own a then doneA r own a else noA
def byV (fr : Bool) (p : Policy) (own : UInt32) (to : Prefix) (a : Attrs) : V :=
  if byE p own to a ≠ 0 then .tup [encA fr noA, .bool false, .int .i64 (byE p own to a)] else .tup [encA fr (byA p own to a), .bool (byOk p own to a), .int .i64 0]
theorem which_cases (p : Policy) (to : Prefix) (a : Attrs) : (whichP p to a = -1 ∧ p.rules.find? (fun r => fits r to a) = none) ∨ ∃ (i : Nat) (hi : i < p.rules.length), whichP p to a = i ∧ p.rules.find? (fun r => fits r to a) = some p.rules[i] ∧ fits p.rules[i] to a = true := by
  cases h : p.rules.any (fun r => fits r to a) with
  | false =>
    refine .inl ⟨by rw [whichP, h]; rfl, ?_⟩
    rw [List.find?_eq_none]
    rw [List.any_eq_false] at h
    exact fun r hr => h r hr
  | true =>
    have hlt : p.rules.findIdx (fun r => fits r to a) < p.rules.length := List.findIdx_lt_length.2 (by rw [List.any_eq_true] at h; exact h)
    have hf := List.findIdx_getElem (w := hlt)
    refine .inr ⟨p.rules.findIdx (fun r => fits r to a), hlt, by rw [whichP, h]; rfl, ?_, hf⟩
    have := List.find?_eq_some_iff_getElem (xs := p.rules) (p := fun r => fits r to a) (b := p.rules[p.rules.findIdx (fun r => fits r to a)])
    rw [this]
    refine ⟨hf, _, hlt, rfl, fun j hj => ?_⟩
    have := List.not_of_lt_findIdx hj
    simpa using this
/-- What stands behind k of the closures. -/
def curA (r : Rule) (own : UInt32) (a : Attrs) : Nat → Attrs
  | 0 => a
  | 1 => a
  | 2 => setR r a
  | 3 => addA r (setR r a)
  | _ => doneA r own a
def okA (r : Rule) (own : UInt32) (a : Attrs) : Nat → Prop
  | 0 => True
  | 1 => r.deny = false
  | 2 => r.deny = false
  | 3 => r.deny = false ∧ addE r (setR r a) = 0
  | _ => r.deny = false ∧ addE r (setR r a) = 0 ∧ doneE r own a = 0
def byRows : List (List V) := [
  [.fn (.func 42) [] [.ptr 5 0]],
  [.fn (.func 43) [] [.ptr 5 0, .ptr 3 0]],
  [.fn (.func 44) [] [.ptr 5 0, .ptr 3 0]],
  [.fn (.func 46) [] [.ptr 3 0, .ptr 1 0, .ptr 5 0]]]
theorem byRows_le {h : Heap} {nx nx' : Nat} {Z : List Nat} (hn : 6 < nx') : LeR h nx id nx' Z byRows byRows :=
  ⟨⟨.fnL trivial ⟨.ptr rfl (by omega), trivial⟩, trivial⟩, ⟨.fnL trivial ⟨.ptr rfl (by omega), .ptr rfl (by omega), trivial⟩, trivial⟩, ⟨.fnL trivial ⟨.ptr rfl (by omega), .ptr rfl (by omega), trivial⟩, trivial⟩, ⟨.fnL trivial ⟨.ptr rfl (by omega), .ptr rfl (by omega), .ptr rfl (by omega), trivial⟩, trivial⟩, trivial⟩
set_option maxRecDepth 100000 in
set_option maxHeartbeats 8000000 in
theorem by_ok (fr fr' : Bool) (p : Policy) (own : UInt32) (to : Prefix) (a : Attrs) : PCon prog 19 [encPo fr p, cW own, encP to, encA fr' a] (byV true p own to a) := by
  have bad : ∀ {s : St} {v : V} {e : Int}, byE p own to a = e → e ≠ 0 → LeV s.h s.nx id 0 [] v (encA true noA) → ∃ v1 h' nx', Ends 0 s (.tup [v, .bool false, .int .i64 e]) v1 h' nx' ∧ (v1 = byV true p own to a ∧ h' = [] ∧ nx' = 0) := fun he hne hv => by
    rw [byV, he, if_pos hne]
    exact Ends.pure [] (.tupL ⟨hv, .free .bool, .free .int, trivial⟩) (by simp)
  refine callV_of (fn := Go.Proofs.Tryz.f19) (body := _) tab_ok mixed rfl rfl (by decide) (by simp [Go.Proofs.Tryz.f19]) ?_
  (conv => whnf)
  refine callV_pure (check23_ok fr p) ⟨.free (encPo_free _ _), trivial⟩ ?_
  (conv => whnf)
  cases h0 : (checkP p == 2) with
  | true =>
    (conv => whnf)
    exact bad (by rw [byE, if_pos (.inl (by simpa using h0))]) (by decide) .noA
  | false =>
  (conv => whnf)
  refine callV_pure (uRight_ok to) ⟨.free (encP_free _), trivial⟩ ?_
  cases h1 : prefOk to with
  | false =>
    (conv => whnf)
    exact bad (by rw [byE, if_pos (.inr (.inl h1))]) (by decide) .noA
  | true =>
  (conv => whnf)
  refine callV_pure (check_ok fr' a) ⟨.free (encA_free _ _), trivial⟩ ?_
  cases h2 : rightA a with
  | false =>
    rw [checkA_no h2]
    (conv => whnf)
    exact bad (by rw [byE, if_pos (.inr (.inr (.inl h2)))]) (by decide) .noA
  | true =>
  rw [checkA_yes h2]
  (conv => whnf)
  cases h3 : ((own.toNat : Int) == 0) with
  | true =>
    (conv => whnf)
    exact bad (by rw [byE, if_pos (.inr (.inr (.inr (by rw [u32_eq] at h3; simpa using h3))))]) (by decide) .noA
  | false =>
  have hb : byE p own to a = checkP p := by
    rw [byE, if_neg]
    rw [u32_eq] at h3
    simp only [beq_eq_false_iff_ne, ne_eq] at h0 h3
    simp [h0, h1, h2, h3]
  (conv => whnf)
  cases h4 : (checkP p != 0) with
  | true =>
    (conv => whnf)
    exact bad hb (by simpa using h4) .noA
  | false =>
  have h4 : checkP p = 0 := by simpa using h4
  rw [h4] at hb
  have fin : ∀ {s : St} {v : V} {b : Bool}, byOk p own to a = b → LeV s.h s.nx id 0 [] v (encA true (byA p own to a)) → ∃ v1 h' nx', Ends 0 s (.tup [v, .bool b, .int .i64 0]) v1 h' nx' ∧ (v1 = byV true p own to a ∧ h' = [] ∧ nx' = 0) := fun he hv => by
    rw [byV, hb, if_neg (by simp)]
    exact Ends.pure [] (.tupL ⟨hv, .bool_of he.symm, .free .int, trivial⟩) (by simp)
  obtain ⟨q1, q2, q3, _⟩ := few_of_right h2
  (conv => whnf)
  refine callV_pure (copy_pure fr' a (by omega) (fun p hp => by have := q2 p hp; omega) (by omega)) ⟨.free (encA_free _ _), trivial⟩ ?_
  (conv => whnf)
  refine callV_pure (which_ok fr true p to a) ⟨.free (encPo_free _ _), .free (encP_free _), .free (encA_free _ _), trivial⟩ ?_
  rcases which_cases p to a with ⟨hw, hfi⟩ | ⟨i, hi, hw, hfi, hft⟩
  · rw [hw]
    (conv => whnf)
    cases he : p.els with
    | false =>
      (conv => whnf)
      refine ⟨by kernel_rfl, ?_⟩
      (conv => whnf)
      exact fin (by simp [byOk, hfi, he]) (by rw [byA, hfi]; simp only [he]; exact .noA)
    | true =>
      (conv => whnf)
      refine ⟨by kernel_rfl, ?_⟩
      (conv => whnf)
      exact fin (by simp [byOk, hfi, he]) (by rw [byA, hfi]; simp only [he]; exact .free (encA_free true a))
  · rw [hw]
    (conv => whnf)
    refine ⟨rfl, _, ⟨by first | omega | (simp only; omega), idxRu hi⟩, ?_⟩
    have hown : (own.toNat : Int) ≠ 0 := by simpa using h3
    generalize hrr : p.rules[i] = r at *
    have yes : okA r own a 4 → byOk p own to a = true ∧ byA p own to a = doneA r own a := fun ⟨h1, h2, h3⟩ => by
      have : passR r own a = true := by simp [passR, h1, h2, h3]
      simp [byOk, byA, hfi, this]
    have nay : passR r own a = false → byOk p own to a = false ∧ byA p own to a = noA := fun h => by simp [byOk, byA, hfi, h]
    obtain ⟨cov, least, most, hasTag, tag, sys, deny, hasPref, hasMed, hasAdd, pref, med, add, times⟩ := r
    (conv => whnf)
    intro _
    (conv => whnf)
    refine vcg_loop tab_ok mixed (fun k : {k : Nat // k ≤ 4 ∧ okA (⟨cov, least, most, hasTag, tag, sys, deny, hasPref, hasMed, hasAdd, pref, med, add, times⟩ : Rule) own a k} => ⟨[(7, .ptr 3 0), (8, .ptr 4 0), (67, .osl 6 1 0 4), (68, .int .i64 4), (69, cI k.1)], [(1, some (.var true 22 [cW own])), (3, some (.var true 33 (cellsA true (curA (⟨cov, least, most, hasTag, tag, sys, deny, hasPref, hasMed, hasAdd, pref, med, add, times⟩ : Rule) own a k.1)))), (4, some (.var true 33 zeroA)), (5, some (.var true 26 (cellsRu (⟨cov, least, most, hasTag, tag, sys, deny, hasPref, hasMed, hasAdd, pref, med, add, times⟩ : Rule)))), (6, some (.arr true true 35 1 byRows))], 7⟩) (fun k => 4 - k.1) ⟨0, by omega, trivial⟩ (Wk.i (by repeat' (first | exact True.intro | exact id | exact rfl | decide | exact Nat.le_of_ble_eq_true rfl | exact ⟨id, id, rfl, rfl, LeR.out (byRows_le (by omega))⟩ | exact .ptr rfl (by omega) | exact .osl_of rfl (by omega) rfl | exact .fr rfl | exact LeL.fr rfl | exact .yld rfl (by omega) | exact .eptr rfl (by omega) | exact .osl0 | exact .snil_sl | exact .to_any | exact LeV.nineA | exact LeV.noA | exact LeB.fr rfl id id | exact LeB.fr (by simp; done) id id | refine Or.inl ⟨by simp, _, rfl, ?_⟩ | exact Or.inr ⟨by simp, _, _, _, _, rfl⟩ | refine ⟨rfl, rfl, rfl, rfl, rfl, rfl, ?_⟩ | refine ⟨?_, ?_⟩)) (by omega)) (fun k => ?_)
    obtain ⟨k, hk, hok⟩ := k
    have hk' : k = 0 ∨ k = 1 ∨ k = 2 ∨ k = 3 ∨ k = 4 := by omega
    rcases hk' with rfl | rfl | rfl | rfl | rfl
    · (conv => whnf)
      refine ⟨rfl, ⟨by simp, by simp⟩, ?_⟩
      (conv => whnf)
      refine ⟨rfl, _, rfl, ?_⟩
      (conv => whnf)
      refine callV_of (fn := Go.Proofs.Tryz.f42) (body := _) tab_ok mixed rfl rfl (by decide) (by simp [Go.Proofs.Tryz.f42]) ?_
      (conv => whnf)
      refine ⟨_, _, _, Ends.here, ?_⟩
      cases deny with
      | true =>
        (conv => whnf)
        obtain ⟨n1, n2⟩ := nay (by simp [passR])
        exact fin n1 (by rw [n2]; exact .noA)
      | false =>
        (conv => whnf)
        exact ⟨⟨1, by omega, rfl⟩, (Wk.i (by repeat' (first | exact True.intro | exact id | exact rfl | decide | exact Nat.le_of_ble_eq_true rfl | exact ⟨id, id, rfl, rfl, LeR.out (byRows_le (by omega))⟩ | exact .ptr rfl (by omega) | exact .osl_of rfl (by omega) rfl | exact .fr rfl | exact LeL.fr rfl | exact .yld rfl (by omega) | exact .eptr rfl (by omega) | exact .osl0 | exact .snil_sl | exact .to_any | exact LeV.nineA | exact LeV.noA | exact LeB.fr rfl id id | exact LeB.fr (by simp; done) id id | refine Or.inl ⟨by simp, _, rfl, ?_⟩ | exact Or.inr ⟨by simp, _, _, _, _, rfl⟩ | refine ⟨rfl, rfl, rfl, rfl, rfl, rfl, ?_⟩ | refine ⟨?_, ?_⟩)) (by omega)), by simp only; omega⟩
    · (conv => whnf)
      refine ⟨rfl, ⟨by simp, by simp⟩, ?_⟩
      (conv => whnf)
      refine ⟨rfl, _, rfl, ?_⟩
      (conv => whnf)
      refine callV_of (fn := Go.Proofs.Tryz.f43) (body := _) tab_ok mixed rfl rfl (by decide) (by simp [Go.Proofs.Tryz.f43]) ?_
      (conv => whnf)
      cases hasPref
      case' true =>
        (conv => whnf)
        refine ⟨by kernel_rfl, ?_⟩
      all_goals
        (conv => whnf)
        cases hasMed
        case' true =>
          (conv => whnf)
          refine ⟨by kernel_rfl, ?_⟩
        all_goals
          (conv => whnf)
          refine ⟨_, _, _, Ends.here, ?_⟩
          (conv => whnf)
          exact ⟨⟨2, by omega, hok⟩, (Wk.i (by repeat' (first | exact True.intro | exact id | exact rfl | decide | exact Nat.le_of_ble_eq_true rfl | exact ⟨id, id, rfl, rfl, LeR.out (byRows_le (by omega))⟩ | exact LeL.of_eq rfl (cellsA_free true _) | exact .ptr rfl (by omega) | exact .osl_of rfl (by omega) rfl | exact .fr rfl | exact LeL.fr rfl | exact .yld rfl (by omega) | exact .eptr rfl (by omega) | exact .osl0 | exact .snil_sl | exact .to_any | exact LeV.nineA | exact LeV.noA | exact LeB.fr rfl id id | exact LeB.fr (by simp; done) id id | refine Or.inl ⟨by simp, _, rfl, ?_⟩ | exact Or.inr ⟨by simp, _, _, _, _, rfl⟩ | refine ⟨rfl, rfl, rfl, rfl, rfl, rfl, ?_⟩ | refine ⟨?_, ?_⟩)) (by omega)), by simp only; omega⟩
    · (conv => whnf)
      refine ⟨rfl, ⟨by simp, by simp⟩, ?_⟩
      (conv => whnf)
      refine ⟨rfl, _, rfl, ?_⟩
      (conv => whnf)
      refine callV_of (fn := Go.Proofs.Tryz.f44) (body := _) tab_ok mixed rfl rfl (by decide) (by simp [Go.Proofs.Tryz.f44]) ?_
      (conv => whnf)
      cases hasAdd with
      | false =>
        (conv => whnf)
        refine ⟨_, _, _, Ends.here, ?_⟩
        (conv => whnf)
        exact ⟨⟨3, by omega, hok, rfl⟩, (Wk.i (by repeat' (first | exact True.intro | exact id | exact rfl | decide | exact Nat.le_of_ble_eq_true rfl | exact ⟨id, id, rfl, rfl, LeR.out (byRows_le (by omega))⟩ | exact LeL.of_eq rfl (cellsA_free true _) | exact .ptr rfl (by omega) | exact .osl_of rfl (by omega) rfl | exact .fr rfl | exact LeL.fr rfl | exact .yld rfl (by omega) | exact .eptr rfl (by omega) | exact .osl0 | exact .snil_sl | exact .to_any | exact LeV.nineA | exact LeV.noA | exact LeB.fr rfl id id | exact LeB.fr (by simp; done) id id | refine Or.inl ⟨by simp, _, rfl, ?_⟩ | exact Or.inr ⟨by simp, _, _, _, _, rfl⟩ | refine ⟨rfl, rfl, rfl, rfl, rfl, rfl, ?_⟩ | refine ⟨?_, ?_⟩)) (by omega)), by simp only; omega⟩
      | true =>
        (conv => whnf)
        refine callV_pure (tag_ok true (setR (⟨cov, least, most, hasTag, tag, sys, deny, hasPref, hasMed, true, pref, med, add, times⟩ : Rule) a) add) ⟨.free (encA_free _ _), .free .int, trivial⟩ ?_
        (conv => whnf)
        refine ⟨_, _, _, Ends.here, ?_⟩
        (conv => whnf)
        cases hte : (tagE (setR (⟨cov, least, most, hasTag, tag, sys, deny, hasPref, hasMed, true, pref, med, add, times⟩ : Rule) a) add == 0) with
        | true =>
          (conv => whnf)
          exact ⟨⟨3, by omega, hok, eq_of_beq hte⟩, (Wk.i (by repeat' (first | exact True.intro | exact id | exact rfl | decide | exact Nat.le_of_ble_eq_true rfl | exact ⟨id, id, rfl, rfl, LeR.out (byRows_le (by omega))⟩ | exact LeL.of_eq rfl (cellsA_free true _) | exact .ptr rfl (by omega) | exact .osl_of rfl (by omega) rfl | exact .fr rfl | exact LeL.fr rfl | exact .yld rfl (by omega) | exact .eptr rfl (by omega) | exact .osl0 | exact .snil_sl | exact .to_any | exact LeV.nineA | exact LeV.noA | exact LeB.fr rfl id id | exact LeB.fr (by simp; done) id id | refine Or.inl ⟨by simp, _, rfl, ?_⟩ | exact Or.inr ⟨by simp, _, _, _, _, rfl⟩ | refine ⟨rfl, rfl, rfl, rfl, rfl, rfl, ?_⟩ | refine ⟨?_, ?_⟩)) (by omega)), by simp only; omega⟩
        | false =>
          have hte : tagE (setR (⟨cov, least, most, hasTag, tag, sys, deny, hasPref, hasMed, true, pref, med, add, times⟩ : Rule) a) add ≠ 0 := by simpa using hte
          (conv => whnf)
          obtain ⟨n1, n2⟩ := nay (by simp only [passR, addE, if_true, hte, decide_false, Bool.and_false, Bool.false_and])
          exact fin n1 (by rw [n2]; exact .noA)
    · (conv => whnf)
      refine ⟨rfl, ⟨by simp, by simp⟩, ?_⟩
      (conv => whnf)
      refine ⟨rfl, _, rfl, ?_⟩
      (conv => whnf)
      refine callV_of (fn := Go.Proofs.Tryz.f46) (body := _) tab_ok mixed rfl rfl (by decide) (by simp [Go.Proofs.Tryz.f46]) ?_
      (conv => whnf)
      refine callV_pure (prepend_ok true (addA (⟨cov, least, most, hasTag, tag, sys, deny, hasPref, hasMed, hasAdd, pref, med, add, times⟩ : Rule) (setR (⟨cov, least, most, hasTag, tag, sys, deny, hasPref, hasMed, hasAdd, pref, med, add, times⟩ : Rule) a)) own (times.toNat : Int)) ⟨.free (encA_free _ _), .free .int, .int_of (wrap64 (n := (times.toNat : Int)) (by omega) (by have := times.toNat_lt; omega)), trivial⟩ ?_
      (conv => whnf)
      refine ⟨_, _, _, Ends.here, ?_⟩
      (conv => whnf)
      cases hte : (prepE (addA (⟨cov, least, most, hasTag, tag, sys, deny, hasPref, hasMed, hasAdd, pref, med, add, times⟩ : Rule) (setR (⟨cov, least, most, hasTag, tag, sys, deny, hasPref, hasMed, hasAdd, pref, med, add, times⟩ : Rule) a)) own (times.toNat : Int) == 0) with
      | true =>
        (conv => whnf)
        exact ⟨⟨4, by omega, hok.1, hok.2, eq_of_beq hte⟩, (Wk.i (by repeat' (first | exact True.intro | exact id | exact rfl | decide | exact Nat.le_of_ble_eq_true rfl | exact ⟨id, id, rfl, rfl, LeR.out (byRows_le (by omega))⟩ | exact LeL.of_eq rfl (cellsA_free true _) | exact .ptr rfl (by omega) | exact .osl_of rfl (by omega) rfl | exact .fr rfl | exact LeL.fr rfl | exact .yld rfl (by omega) | exact .eptr rfl (by omega) | exact .osl0 | exact .snil_sl | exact .to_any | exact LeV.nineA | exact LeV.noA | exact LeB.fr rfl id id | exact LeB.fr (by simp; done) id id | refine Or.inl ⟨by simp, _, rfl, ?_⟩ | exact Or.inr ⟨by simp, _, _, _, _, rfl⟩ | refine ⟨rfl, rfl, rfl, rfl, rfl, rfl, ?_⟩ | refine ⟨?_, ?_⟩)) (by omega)), by simp only; omega⟩
      | false =>
        have hte : doneE (⟨cov, least, most, hasTag, tag, sys, deny, hasPref, hasMed, hasAdd, pref, med, add, times⟩ : Rule) own a ≠ 0 := ne_of_beq_false hte
        (conv => whnf)
        obtain ⟨n1, n2⟩ := nay (by simp only [passR, hte, decide_false, Bool.and_false])
        exact fin n1 (by rw [n2]; exact .noA)
    · (conv => whnf)
      obtain ⟨y1, y2⟩ := yes hok
      exact fin y1 (by rw [y2]; exact .free (encA_free true _))
end Go.Proofs.YtjpfofmkgdjelaaGreat
/- Contracts: what passes by a policy, by the document. -/
set_option linter.unusedVariables false
set_option linter.unusedSimpArgs false
namespace Go.Proofs.YtjpfofmkgdjelaaGreat
open Go.RowKit
open Go.Proofs.Tryz (prog)
attribute [local irreducible] CallV RoundV

set_option maxRecDepth 100000 in
set_option maxHeartbeats 8000000 in
theorem rby_ok (fr fr' : Bool) (p : Policy) (own : UInt32) (to : Prefix) (a : Attrs) : PCon prog 20 [encPo fr p, cW own, encP to, encA fr' a] (byV fr' p own to a) := by
  have bad : ∀ {s : St} {v : V} {e : Int}, byE p own to a = e → e ≠ 0 → LeV s.h s.nx id 0 [] v (encA fr' noA) → ∃ v1 h' nx', Ends 0 s (.tup [v, .bool false, .int .i64 e]) v1 h' nx' ∧ (v1 = byV fr' p own to a ∧ h' = [] ∧ nx' = 0) := fun he hne hv => by
    rw [byV, he, if_pos hne]
    exact Ends.pure [] (.tupL ⟨hv, .free .bool, .free .int, trivial⟩) (by simp)
  refine callV_of (fn := Go.Proofs.Tryz.f20) (body := _) tab_ok mixed rfl rfl (by decide) (by simp [Go.Proofs.Tryz.f20]) ?_
  (conv => whnf)
  refine callV_pure (rcheck23_ok fr p) ⟨.free (encPo_free _ _), trivial⟩ ?_
  (conv => whnf)
  cases h0 : (checkP p == 2) with
  | true =>
    (conv => whnf)
    exact bad (by rw [byE, if_pos (.inl (by simpa using h0))]) (by decide) .noA
  | false =>
  (conv => whnf)
  refine callV_pure (rRight_ok to) ⟨.free (encP_free _), trivial⟩ ?_
  cases h1 : prefOk to with
  | false =>
    (conv => whnf)
    exact bad (by rw [byE, if_pos (.inr (.inl h1))]) (by decide) .noA
  | true =>
  (conv => whnf)
  refine callV_pure (right_ok fr' a) ⟨.free (encA_free _ _), trivial⟩ ?_
  cases h2 : rightA a with
  | false =>
    (conv => whnf)
    exact bad (by rw [byE, if_pos (.inr (.inr (.inl h2)))]) (by decide) .noA
  | true =>
  (conv => whnf)
  cases h3 : ((own.toNat : Int) == 0) with
  | true =>
    (conv => whnf)
    exact bad (by rw [byE, if_pos (.inr (.inr (.inr (by rw [u32_eq] at h3; simpa using h3))))]) (by decide) .noA
  | false =>
  have hb : byE p own to a = checkP p := by
    rw [byE, if_neg]
    rw [u32_eq] at h3
    simp only [beq_eq_false_iff_ne, ne_eq] at h0 h3
    simp [h0, h1, h2, h3]
  (conv => whnf)
  cases h4 : (checkP p != 0) with
  | true =>
    (conv => whnf)
    exact bad hb (by simpa using h4) .noA
  | false =>
  have h4 : checkP p = 0 := by simpa using h4
  rw [h4] at hb
  have fin : ∀ {s : St} {v : V} {b : Bool}, byOk p own to a = b → LeV s.h s.nx id 0 [] v (encA fr' (byA p own to a)) → ∃ v1 h' nx', Ends 0 s (.tup [v, .bool b, .int .i64 0]) v1 h' nx' ∧ (v1 = byV fr' p own to a ∧ h' = [] ∧ nx' = 0) := fun he hv => by
    rw [byV, hb, if_neg (by simp)]
    exact Ends.pure [] (.tupL ⟨hv, .bool_of he.symm, .free .int, trivial⟩) (by simp)
  (conv => whnf)
  refine callV_pure (rwhich_ok fr fr' p to a) ⟨.free (encPo_free _ _), .free (encP_free _), .free (encA_free _ _), trivial⟩ ?_
  rcases which_cases p to a with ⟨hw, hfi⟩ | ⟨i, hi, hw, hfi, hft⟩
  · rw [hw]
    (conv => whnf)
    cases he : p.els with
    | false =>
      (conv => whnf)
      exact fin (by simp [byOk, hfi, he]) (by rw [byA, hfi]; simp only [he]; exact .noA)
    | true =>
      (conv => whnf)
      exact fin (by simp [byOk, hfi, he]) (by rw [byA, hfi]; simp only [he]; exact .free (encA_free fr' a))
  · rw [hw]
    (conv => whnf)
    refine ⟨rfl, _, ⟨by first | omega | (simp only; omega), idxRu hi⟩, ?_⟩
    generalize hrr : p.rules[i] = r at *
    have yes : okA r own a 4 → byOk p own to a = true ∧ byA p own to a = doneA r own a := fun ⟨h1, h2, h3⟩ => by
      have : passR r own a = true := by simp [passR, h1, h2, h3]
      simp [byOk, byA, hfi, this]
    have nay : passR r own a = false → byOk p own to a = false ∧ byA p own to a = noA := fun h => by simp [byOk, byA, hfi, h]
    obtain ⟨cov, least, most, hasTag, tag, sys, deny, hasPref, hasMed, hasAdd, pref, med, add, times⟩ := r
    (conv => whnf)
    cases deny with
    | true =>
      (conv => whnf)
      obtain ⟨n1, n2⟩ := nay (by simp [passR])
      exact fin n1 (by rw [n2]; exact .noA)
    | false =>
    (conv => whnf)
    cases hasPref with
    | true =>
      (conv => whnf)
      refine ⟨by kernel_rfl, ?_⟩
      (conv => whnf)
      cases hasMed with
      | true =>
        (conv => whnf)
        refine ⟨by kernel_rfl, ?_⟩
        (conv => whnf)
        cases hasAdd with
        | false =>
          (conv => whnf)
          refine callV_pure (ref_prepend_ok fr' (addA ⟨cov, least, most, hasTag, tag, sys, false, true, true, false, pref, med, add, times⟩ (setR ⟨cov, least, most, hasTag, tag, sys, false, true, true, false, pref, med, add, times⟩ a)) own (times.toNat : Int)) ⟨.eq_of rfl (encA_free _ _), .free .int, .int_of (wrap64 (n := (times.toNat : Int)) (by omega) (by have := times.toNat_lt; omega)), trivial⟩ ?_
          (conv => whnf)
          cases hpe : (prepE (addA ⟨cov, least, most, hasTag, tag, sys, false, true, true, false, pref, med, add, times⟩ (setR ⟨cov, least, most, hasTag, tag, sys, false, true, true, false, pref, med, add, times⟩ a)) own (times.toNat : Int) != 0) with
          | true =>
            have hne : doneE ⟨cov, least, most, hasTag, tag, sys, false, true, true, false, pref, med, add, times⟩ own a ≠ 0 := bne_iff_ne.1 hpe
            (conv => whnf)
            obtain ⟨n1, n2⟩ := nay (by simp only [passR, hne, decide_false, Bool.and_false])
            exact fin n1 (by rw [n2]; exact .noA)
          | false =>
            have heq : doneE ⟨cov, least, most, hasTag, tag, sys, false, true, true, false, pref, med, add, times⟩ own a = 0 := by have := hpe; rw [bne_eq_false_iff_eq] at this; exact this
            (conv => whnf)
            obtain ⟨y1, y2⟩ := yes ⟨rfl, rfl, heq⟩
            exact fin y1 (by rw [y2]; exact .free (encA_free fr' _))
        | true =>
          (conv => whnf)
          refine callV_pure (ref_tag_ok fr' (setR ⟨cov, least, most, hasTag, tag, sys, false, true, true, true, pref, med, add, times⟩ a) add) ⟨.eq_of rfl (encA_free _ _), .free .int, trivial⟩ ?_
          (conv => whnf)
          cases hte : (tagE (setR ⟨cov, least, most, hasTag, tag, sys, false, true, true, true, pref, med, add, times⟩ a) add == 0) with
          | false =>
            have hne : addE ⟨cov, least, most, hasTag, tag, sys, false, true, true, true, pref, med, add, times⟩ (setR ⟨cov, least, most, hasTag, tag, sys, false, true, true, true, pref, med, add, times⟩ a) ≠ 0 := ne_of_beq_false hte
            have hne' : (tagE (setR ⟨cov, least, most, hasTag, tag, sys, false, true, true, true, pref, med, add, times⟩ a) add != 0) = true := by rw [bne, hte]; rfl
            (conv => whnf)
            rw [hne']
            (conv => whnf)
            obtain ⟨n1, n2⟩ := nay (by simp only [passR, hne, decide_false, Bool.and_false, Bool.false_and])
            exact fin n1 (by rw [n2]; exact .noA)
          | true =>
            (conv => whnf)
            refine callV_pure (ref_prepend_ok fr' (addA ⟨cov, least, most, hasTag, tag, sys, false, true, true, true, pref, med, add, times⟩ (setR ⟨cov, least, most, hasTag, tag, sys, false, true, true, true, pref, med, add, times⟩ a)) own (times.toNat : Int)) ⟨.eq_of rfl (encA_free _ _), .free .int, .int_of (wrap64 (n := (times.toNat : Int)) (by omega) (by have := times.toNat_lt; omega)), trivial⟩ ?_
            (conv => whnf)
            cases hpe : (prepE (addA ⟨cov, least, most, hasTag, tag, sys, false, true, true, true, pref, med, add, times⟩ (setR ⟨cov, least, most, hasTag, tag, sys, false, true, true, true, pref, med, add, times⟩ a)) own (times.toNat : Int) != 0) with
            | true =>
              have hne : doneE ⟨cov, least, most, hasTag, tag, sys, false, true, true, true, pref, med, add, times⟩ own a ≠ 0 := bne_iff_ne.1 hpe
              (conv => whnf)
              obtain ⟨n1, n2⟩ := nay (by simp only [passR, hne, decide_false, Bool.and_false])
              exact fin n1 (by rw [n2]; exact .noA)
            | false =>
              have heq : doneE ⟨cov, least, most, hasTag, tag, sys, false, true, true, true, pref, med, add, times⟩ own a = 0 := by have := hpe; rw [bne_eq_false_iff_eq] at this; exact this
              (conv => whnf)
              obtain ⟨y1, y2⟩ := yes ⟨rfl, (eq_of_beq hte), heq⟩
              exact fin y1 (by rw [y2]; exact .free (encA_free fr' _))
      | false =>
        (conv => whnf)
        cases hasAdd with
        | false =>
          (conv => whnf)
          refine callV_pure (ref_prepend_ok fr' (addA ⟨cov, least, most, hasTag, tag, sys, false, true, false, false, pref, med, add, times⟩ (setR ⟨cov, least, most, hasTag, tag, sys, false, true, false, false, pref, med, add, times⟩ a)) own (times.toNat : Int)) ⟨.eq_of rfl (encA_free _ _), .free .int, .int_of (wrap64 (n := (times.toNat : Int)) (by omega) (by have := times.toNat_lt; omega)), trivial⟩ ?_
          (conv => whnf)
          cases hpe : (prepE (addA ⟨cov, least, most, hasTag, tag, sys, false, true, false, false, pref, med, add, times⟩ (setR ⟨cov, least, most, hasTag, tag, sys, false, true, false, false, pref, med, add, times⟩ a)) own (times.toNat : Int) != 0) with
          | true =>
            have hne : doneE ⟨cov, least, most, hasTag, tag, sys, false, true, false, false, pref, med, add, times⟩ own a ≠ 0 := bne_iff_ne.1 hpe
            (conv => whnf)
            obtain ⟨n1, n2⟩ := nay (by simp only [passR, hne, decide_false, Bool.and_false])
            exact fin n1 (by rw [n2]; exact .noA)
          | false =>
            have heq : doneE ⟨cov, least, most, hasTag, tag, sys, false, true, false, false, pref, med, add, times⟩ own a = 0 := by have := hpe; rw [bne_eq_false_iff_eq] at this; exact this
            (conv => whnf)
            obtain ⟨y1, y2⟩ := yes ⟨rfl, rfl, heq⟩
            exact fin y1 (by rw [y2]; exact .free (encA_free fr' _))
        | true =>
          (conv => whnf)
          refine callV_pure (ref_tag_ok fr' (setR ⟨cov, least, most, hasTag, tag, sys, false, true, false, true, pref, med, add, times⟩ a) add) ⟨.eq_of rfl (encA_free _ _), .free .int, trivial⟩ ?_
          (conv => whnf)
          cases hte : (tagE (setR ⟨cov, least, most, hasTag, tag, sys, false, true, false, true, pref, med, add, times⟩ a) add == 0) with
          | false =>
            have hne : addE ⟨cov, least, most, hasTag, tag, sys, false, true, false, true, pref, med, add, times⟩ (setR ⟨cov, least, most, hasTag, tag, sys, false, true, false, true, pref, med, add, times⟩ a) ≠ 0 := ne_of_beq_false hte
            have hne' : (tagE (setR ⟨cov, least, most, hasTag, tag, sys, false, true, false, true, pref, med, add, times⟩ a) add != 0) = true := by rw [bne, hte]; rfl
            (conv => whnf)
            rw [hne']
            (conv => whnf)
            obtain ⟨n1, n2⟩ := nay (by simp only [passR, hne, decide_false, Bool.and_false, Bool.false_and])
            exact fin n1 (by rw [n2]; exact .noA)
          | true =>
            (conv => whnf)
            refine callV_pure (ref_prepend_ok fr' (addA ⟨cov, least, most, hasTag, tag, sys, false, true, false, true, pref, med, add, times⟩ (setR ⟨cov, least, most, hasTag, tag, sys, false, true, false, true, pref, med, add, times⟩ a)) own (times.toNat : Int)) ⟨.eq_of rfl (encA_free _ _), .free .int, .int_of (wrap64 (n := (times.toNat : Int)) (by omega) (by have := times.toNat_lt; omega)), trivial⟩ ?_
            (conv => whnf)
            cases hpe : (prepE (addA ⟨cov, least, most, hasTag, tag, sys, false, true, false, true, pref, med, add, times⟩ (setR ⟨cov, least, most, hasTag, tag, sys, false, true, false, true, pref, med, add, times⟩ a)) own (times.toNat : Int) != 0) with
            | true =>
              have hne : doneE ⟨cov, least, most, hasTag, tag, sys, false, true, false, true, pref, med, add, times⟩ own a ≠ 0 := bne_iff_ne.1 hpe
              (conv => whnf)
              obtain ⟨n1, n2⟩ := nay (by simp only [passR, hne, decide_false, Bool.and_false])
              exact fin n1 (by rw [n2]; exact .noA)
            | false =>
              have heq : doneE ⟨cov, least, most, hasTag, tag, sys, false, true, false, true, pref, med, add, times⟩ own a = 0 := by have := hpe; rw [bne_eq_false_iff_eq] at this; exact this
              (conv => whnf)
              obtain ⟨y1, y2⟩ := yes ⟨rfl, (eq_of_beq hte), heq⟩
              exact fin y1 (by rw [y2]; exact .free (encA_free fr' _))
    | false =>
      (conv => whnf)
      cases hasMed with
      | true =>
        (conv => whnf)
        refine ⟨by kernel_rfl, ?_⟩
        (conv => whnf)
        cases hasAdd with
        | false =>
          (conv => whnf)
          refine callV_pure (ref_prepend_ok fr' (addA ⟨cov, least, most, hasTag, tag, sys, false, false, true, false, pref, med, add, times⟩ (setR ⟨cov, least, most, hasTag, tag, sys, false, false, true, false, pref, med, add, times⟩ a)) own (times.toNat : Int)) ⟨.eq_of rfl (encA_free _ _), .free .int, .int_of (wrap64 (n := (times.toNat : Int)) (by omega) (by have := times.toNat_lt; omega)), trivial⟩ ?_
          (conv => whnf)
          cases hpe : (prepE (addA ⟨cov, least, most, hasTag, tag, sys, false, false, true, false, pref, med, add, times⟩ (setR ⟨cov, least, most, hasTag, tag, sys, false, false, true, false, pref, med, add, times⟩ a)) own (times.toNat : Int) != 0) with
          | true =>
            have hne : doneE ⟨cov, least, most, hasTag, tag, sys, false, false, true, false, pref, med, add, times⟩ own a ≠ 0 := bne_iff_ne.1 hpe
            (conv => whnf)
            obtain ⟨n1, n2⟩ := nay (by simp only [passR, hne, decide_false, Bool.and_false])
            exact fin n1 (by rw [n2]; exact .noA)
          | false =>
            have heq : doneE ⟨cov, least, most, hasTag, tag, sys, false, false, true, false, pref, med, add, times⟩ own a = 0 := by have := hpe; rw [bne_eq_false_iff_eq] at this; exact this
            (conv => whnf)
            obtain ⟨y1, y2⟩ := yes ⟨rfl, rfl, heq⟩
            exact fin y1 (by rw [y2]; exact .free (encA_free fr' _))
        | true =>
          (conv => whnf)
          refine callV_pure (ref_tag_ok fr' (setR ⟨cov, least, most, hasTag, tag, sys, false, false, true, true, pref, med, add, times⟩ a) add) ⟨.eq_of rfl (encA_free _ _), .free .int, trivial⟩ ?_
          (conv => whnf)
          cases hte : (tagE (setR ⟨cov, least, most, hasTag, tag, sys, false, false, true, true, pref, med, add, times⟩ a) add == 0) with
          | false =>
            have hne : addE ⟨cov, least, most, hasTag, tag, sys, false, false, true, true, pref, med, add, times⟩ (setR ⟨cov, least, most, hasTag, tag, sys, false, false, true, true, pref, med, add, times⟩ a) ≠ 0 := ne_of_beq_false hte
            have hne' : (tagE (setR ⟨cov, least, most, hasTag, tag, sys, false, false, true, true, pref, med, add, times⟩ a) add != 0) = true := by rw [bne, hte]; rfl
            (conv => whnf)
            rw [hne']
            (conv => whnf)
            obtain ⟨n1, n2⟩ := nay (by simp only [passR, hne, decide_false, Bool.and_false, Bool.false_and])
            exact fin n1 (by rw [n2]; exact .noA)
          | true =>
            (conv => whnf)
            refine callV_pure (ref_prepend_ok fr' (addA ⟨cov, least, most, hasTag, tag, sys, false, false, true, true, pref, med, add, times⟩ (setR ⟨cov, least, most, hasTag, tag, sys, false, false, true, true, pref, med, add, times⟩ a)) own (times.toNat : Int)) ⟨.eq_of rfl (encA_free _ _), .free .int, .int_of (wrap64 (n := (times.toNat : Int)) (by omega) (by have := times.toNat_lt; omega)), trivial⟩ ?_
            (conv => whnf)
            cases hpe : (prepE (addA ⟨cov, least, most, hasTag, tag, sys, false, false, true, true, pref, med, add, times⟩ (setR ⟨cov, least, most, hasTag, tag, sys, false, false, true, true, pref, med, add, times⟩ a)) own (times.toNat : Int) != 0) with
            | true =>
              have hne : doneE ⟨cov, least, most, hasTag, tag, sys, false, false, true, true, pref, med, add, times⟩ own a ≠ 0 := bne_iff_ne.1 hpe
              (conv => whnf)
              obtain ⟨n1, n2⟩ := nay (by simp only [passR, hne, decide_false, Bool.and_false])
              exact fin n1 (by rw [n2]; exact .noA)
            | false =>
              have heq : doneE ⟨cov, least, most, hasTag, tag, sys, false, false, true, true, pref, med, add, times⟩ own a = 0 := by have := hpe; rw [bne_eq_false_iff_eq] at this; exact this
              (conv => whnf)
              obtain ⟨y1, y2⟩ := yes ⟨rfl, (eq_of_beq hte), heq⟩
              exact fin y1 (by rw [y2]; exact .free (encA_free fr' _))
      | false =>
        (conv => whnf)
        cases hasAdd with
        | false =>
          (conv => whnf)
          refine callV_pure (ref_prepend_ok fr' (addA ⟨cov, least, most, hasTag, tag, sys, false, false, false, false, pref, med, add, times⟩ (setR ⟨cov, least, most, hasTag, tag, sys, false, false, false, false, pref, med, add, times⟩ a)) own (times.toNat : Int)) ⟨.eq_of rfl (encA_free _ _), .free .int, .int_of (wrap64 (n := (times.toNat : Int)) (by omega) (by have := times.toNat_lt; omega)), trivial⟩ ?_
          (conv => whnf)
          cases hpe : (prepE (addA ⟨cov, least, most, hasTag, tag, sys, false, false, false, false, pref, med, add, times⟩ (setR ⟨cov, least, most, hasTag, tag, sys, false, false, false, false, pref, med, add, times⟩ a)) own (times.toNat : Int) != 0) with
          | true =>
            have hne : doneE ⟨cov, least, most, hasTag, tag, sys, false, false, false, false, pref, med, add, times⟩ own a ≠ 0 := bne_iff_ne.1 hpe
            (conv => whnf)
            obtain ⟨n1, n2⟩ := nay (by simp only [passR, hne, decide_false, Bool.and_false])
            exact fin n1 (by rw [n2]; exact .noA)
          | false =>
            have heq : doneE ⟨cov, least, most, hasTag, tag, sys, false, false, false, false, pref, med, add, times⟩ own a = 0 := by have := hpe; rw [bne_eq_false_iff_eq] at this; exact this
            (conv => whnf)
            obtain ⟨y1, y2⟩ := yes ⟨rfl, rfl, heq⟩
            exact fin y1 (by rw [y2]; exact .free (encA_free fr' _))
        | true =>
          (conv => whnf)
          refine callV_pure (ref_tag_ok fr' (setR ⟨cov, least, most, hasTag, tag, sys, false, false, false, true, pref, med, add, times⟩ a) add) ⟨.eq_of rfl (encA_free _ _), .free .int, trivial⟩ ?_
          (conv => whnf)
          cases hte : (tagE (setR ⟨cov, least, most, hasTag, tag, sys, false, false, false, true, pref, med, add, times⟩ a) add == 0) with
          | false =>
            have hne : addE ⟨cov, least, most, hasTag, tag, sys, false, false, false, true, pref, med, add, times⟩ (setR ⟨cov, least, most, hasTag, tag, sys, false, false, false, true, pref, med, add, times⟩ a) ≠ 0 := ne_of_beq_false hte
            have hne' : (tagE (setR ⟨cov, least, most, hasTag, tag, sys, false, false, false, true, pref, med, add, times⟩ a) add != 0) = true := by rw [bne, hte]; rfl
            (conv => whnf)
            rw [hne']
            (conv => whnf)
            obtain ⟨n1, n2⟩ := nay (by simp only [passR, hne, decide_false, Bool.and_false, Bool.false_and])
            exact fin n1 (by rw [n2]; exact .noA)
          | true =>
            (conv => whnf)
            refine callV_pure (ref_prepend_ok fr' (addA ⟨cov, least, most, hasTag, tag, sys, false, false, false, true, pref, med, add, times⟩ (setR ⟨cov, least, most, hasTag, tag, sys, false, false, false, true, pref, med, add, times⟩ a)) own (times.toNat : Int)) ⟨.eq_of rfl (encA_free _ _), .free .int, .int_of (wrap64 (n := (times.toNat : Int)) (by omega) (by have := times.toNat_lt; omega)), trivial⟩ ?_
            (conv => whnf)
            cases hpe : (prepE (addA ⟨cov, least, most, hasTag, tag, sys, false, false, false, true, pref, med, add, times⟩ (setR ⟨cov, least, most, hasTag, tag, sys, false, false, false, true, pref, med, add, times⟩ a)) own (times.toNat : Int) != 0) with
            | true =>
              have hne : doneE ⟨cov, least, most, hasTag, tag, sys, false, false, false, true, pref, med, add, times⟩ own a ≠ 0 := bne_iff_ne.1 hpe
              (conv => whnf)
              obtain ⟨n1, n2⟩ := nay (by simp only [passR, hne, decide_false, Bool.and_false])
              exact fin n1 (by rw [n2]; exact .noA)
            | false =>
              have heq : doneE ⟨cov, least, most, hasTag, tag, sys, false, false, false, true, pref, med, add, times⟩ own a = 0 := by have := hpe; rw [bne_eq_false_iff_eq] at this; exact this
              (conv => whnf)
              obtain ⟨y1, y2⟩ := yes ⟨rfl, (eq_of_beq hte), heq⟩
              exact fin y1 (by rw [y2]; exact .free (encA_free fr' _))
end Go.Proofs.YtjpfofmkgdjelaaGreat
/- Contracts: the chapter's rows of policies. -/
set_option linter.unusedVariables false
set_option linter.unusedSimpArgs false
namespace Go.Proofs.YtjpfofmkgdjelaaGreat
open Go.RowKit
open Go.Proofs.Tryz (prog)
attribute [local irreducible] CallV RoundV

set_option maxRecDepth 100000 in
theorem num23_ok (n : Int) : PCon prog 15 [.int .i64 n] (.int .i64 n) := by
  refine callV_of (fn := Go.Proofs.Tryz.f15) (body := _) tab_ok mixed rfl rfl (by decide) (by simp [Go.Proofs.Tryz.f15]) ?_
  (conv => whnf)
  exact (Ends.pure [] (by first | exact .ptr rfl (by omega) | exact .osl_of rfl (by omega) rfl | exact .fr rfl | exact LeL.fr rfl | exact .yld rfl (by omega) | exact .eptr rfl (by omega) | exact .osl0 | exact .snil_sl | exact .to_any | exact LeV.nineA | exact LeV.noA) (by simp))
def fewP (p : Policy) (a : Attrs) : Bool := a.path.all (fun p => decide (p.ns.length ≤ 60)) && decide ((p.rules.length : Int) ≤ 60) && decide ((a.path.length : Int) ≤ 20) && decide ((a.tags.length : Int) ≤ 60)
set_option maxRecDepth 100000 in
theorem few23_ok (fr fr' : Bool) (p : Policy) (a : Attrs) : PCon prog 9 [encPo fr p, encA fr' a] (.bool (fewP p a)) := by
  refine callV_of (fn := Go.Proofs.Tryz.f9) (body := _) tab_ok mixed rfl rfl (by decide) (by simp [Go.Proofs.Tryz.f9]) ?_
  have fin : ∀ {s : St} {r : Bool}, fewP p a = r → ∃ v1 h' nx', Ends 0 s (.bool r) v1 h' nx' ∧ (v1 = .bool (fewP p a) ∧ h' = [] ∧ nx' = 0) := fun h => Ends.pure [] (.bool_of h.symm) (by simp)
  (conv => whnf)
  refine vcg_loop tab_ok mixed (fun i : {i : Nat // i ≤ a.path.length ∧ (a.path.take i).all (fun p => decide (p.ns.length ≤ 60)) = true} => ⟨[(2, .ptr 0 0), (3, .ptr 1 0), (5, cI i.1)], [(0, some (.var true 29 (cellsPo fr p))), (1, some (.var true 33 (cellsA fr' a)))], 2⟩) (fun i => a.path.length - i.1) ⟨0, by omega, rfl⟩ (Wk.i (by repeat' (first | exact True.intro | exact id | exact rfl | decide | exact Nat.le_of_ble_eq_true rfl | exact .ptr rfl (by omega) | exact .osl_of rfl (by omega) rfl | exact .fr rfl | exact LeL.fr rfl | exact .yld rfl (by omega) | exact .eptr rfl (by omega) | exact .osl0 | exact .snil_sl | exact .to_any | exact LeV.nineA | exact LeV.noA | exact LeB.fr rfl id id | exact LeB.fr (by simp; done) id id | refine Or.inl ⟨by simp, _, rfl, ?_⟩ | exact Or.inr ⟨by simp, _, _, _, _, rfl⟩ | refine ⟨rfl, rfl, rfl, rfl, rfl, rfl, ?_⟩ | refine ⟨?_, ?_⟩)) (by omega)) (fun i => ?_)
  obtain ⟨i, hi, hz⟩ := i
  (conv => whnf)
  intro hl
  have hl : a.path.length ≤ maxLen := by simpa [gd] using hl
  (conv => whnf)
  split
  · rename_i hc
    have hc : i < a.path.length := by simpa using hc
    (conv => whnf)
    refine ⟨rfl, _, ⟨by first | omega | (simp only; omega), idxL hc⟩, ?_⟩
    (conv => whnf)
    intro _
    (conv => whnf)
    split
    · rename_i h60
      (conv => whnf)
      refine fin ?_
      have : a.path.all (fun p => decide (p.ns.length ≤ 60)) = false := all_false hc (by simp at h60; simp; omega)
      simp [fewP, this]
    · rename_i h60
      (conv => whnf)
      exact ⟨⟨i + 1, by omega, by rw [all_take_succ hc, hz]; simp at h60; simp; omega⟩, (Wk.i (by repeat' (first | exact True.intro | exact id | exact rfl | decide | exact Nat.le_of_ble_eq_true rfl | exact .int_of (wrap64_succ hc hl) | exact .ptr rfl (by omega) | exact .osl_of rfl (by omega) rfl | exact .fr rfl | exact LeL.fr rfl | exact .yld rfl (by omega) | exact .eptr rfl (by omega) | exact .osl0 | exact .snil_sl | exact .to_any | exact LeV.nineA | exact LeV.noA | exact LeB.fr rfl id id | exact LeB.fr (by simp; done) id id | refine Or.inl ⟨by simp, _, rfl, ?_⟩ | exact Or.inr ⟨by simp, _, _, _, _, rfl⟩ | refine ⟨rfl, rfl, rfl, rfl, rfl, rfl, ?_⟩ | refine ⟨?_, ?_⟩)) (by omega)), by simp only; omega⟩
  · rename_i hc
    have hc : i = a.path.length := by simp at hc; omega
    subst hc
    rw [List.take_length] at hz
    (conv => whnf)
    intro _
    (conv => whnf)
    repeat' first
      | refine fin ?_
      | (split <;> (conv => whnf))
      | (intro _; (conv => whnf))
    all_goals clear fin
    all_goals (unfold fewP; rw [hz]; try simp_all)
    all_goals (try (intros; exfalso; omega))
def noPo : Policy := ⟨[], false⟩
set_option maxRecDepth 100000 in
theorem parse23_nil : PCon prog 24 [.snil] (.tup [encPo true noPo, .int .i64 330]) := by
  refine callV_of (fn := Go.Proofs.Tryz.f24) (body := _) tab_ok mixed rfl rfl (by decide) (by simp [Go.Proofs.Tryz.f24]) ?_
  (conv => whnf)
  exact Ends.pure [] (.tupL ⟨.aggL ⟨.snil_sl, .free .bool, trivial⟩, .free .int, trivial⟩) (by simp)
def rowR : Rule := ⟨⟨167772160, 8⟩, 8, 24, false, 0, 0, false, true, false, false, 200, 0, 0, 0⟩
def rowP : Policy := ⟨[rowR], true⟩
theorem row1 : byV true rowP 1 ⟨167837696, 16⟩ nineA = .tup [encA true ⟨0, [], 9, false, 0, true, 200, []⟩, .bool true, .int .i64 0] := by
  have h1 : byE rowP 1 ⟨167837696, 16⟩ nineA = 0 := by decide +kernel
  have h2 : byA rowP 1 ⟨167837696, 16⟩ nineA = ⟨0, [], 9, false, 0, true, 200, []⟩ := by decide +kernel
  have h3 : byOk rowP 1 ⟨167837696, 16⟩ nineA = true := by decide +kernel
  rw [byV, h1, if_neg (by simp), h2, h3]
theorem row2 : byV true rowP 1 ⟨184549376, 8⟩ nineA = .tup [encA true nineA, .bool true, .int .i64 0] := by
  have h1 : byE rowP 1 ⟨184549376, 8⟩ nineA = 0 := by decide +kernel
  have h2 : byA rowP 1 ⟨184549376, 8⟩ nineA = nineA := by decide +kernel
  have h3 : byOk rowP 1 ⟨184549376, 8⟩ nineA = true := by decide +kernel
  rw [byV, h1, if_neg (by simp), h2, h3]
theorem row3 : byV true noPo 1 ⟨167772160, 8⟩ nineA = .tup [encA true noA, .bool false, .int .i64 0] := by
  have h1 : byE noPo 1 ⟨167772160, 8⟩ nineA = 0 := by decide +kernel
  have h2 : byA noPo 1 ⟨167772160, 8⟩ nineA = noA := by decide +kernel
  have h3 : byOk noPo 1 ⟨167772160, 8⟩ nineA = false := by decide +kernel
  rw [byV, h1, if_neg (by simp), h2, h3]
theorem byV_fresh (p : Policy) (own : UInt32) (to : Prefix) (a : Attrs) : Fresh (byV true p own to a) := by
  unfold byV
  split
  · refine .tup ?_
    intro v hv
    simp only [List.mem_cons, List.not_mem_nil, or_false] at hv
    rcases hv with rfl | rfl | rfl
    · exact encA_fresh _
    · exact .bool
    · exact .int
  · refine .tup ?_
    intro v hv
    simp only [List.mem_cons, List.not_mem_nil, or_false] at hv
    rcases hv with rfl | rfl | rfl
    · exact encA_fresh _
    · exact .bool
    · exact .int
theorem byArgs_cold {p : Policy} {own : UInt32} {to : Prefix} {a : Attrs} : ∀ v ∈ [encPo false p, cW own, encP to, encA false a], Cold v := by
  intro v hv
  simp only [List.mem_cons, List.not_mem_nil, or_false] at hv
  rcases hv with rfl | rfl | rfl | rfl
  · exact encPo_cold _
  · exact .int
  · exact encP_cold _
  · exact encA_cold _
def badRow : Rule := ⟨⟨0, 0⟩, 9, 8, false, 0, 0, false, false, false, false, 0, 0, 0, 0⟩
theorem row4 : checkP ⟨[badRow], false⟩ = 2 := by decide +kernel
set_option maxRecDepth 100000 in
set_option maxHeartbeats 4000000 in
theorem works23_ok : PCon prog 10 [] (.bool true) := by
  refine callV_of (fn := Go.Proofs.Tryz.f10) (body := _) tab_ok mixed rfl rfl (by decide) (by simp [Go.Proofs.Tryz.f10]) ?_
  (conv => whnf)
  refine callV_lend [2] (by_ok false false rowP 1 ⟨167837696, 16⟩ nineA) ⟨.aggL ⟨.fresh_off (LeV.freezeE (ys := rowsRu [rowR]) (by simp) rfl (by decide) rfl (rowsRu_free _)), .free .bool, trivial⟩, .int_of rfl, .eq_of rfl (encP_free _), .nineA, trivial⟩ byArgs_cold (one_none rfl) (byV_fresh _ _ _ _) ?_
  rw [row1]
  (conv => whnf)
  refine callV_lend [2] (by_ok false false rowP 1 ⟨184549376, 8⟩ nineA) ⟨.aggL ⟨.fresh_off (LeV.freezeE (ys := rowsRu [rowR]) (by simp) rfl (by decide) rfl (rowsRu_free _)), .free .bool, trivial⟩, .int_of rfl, .eq_of rfl (encP_free _), .nineA, trivial⟩ byArgs_cold (one_none rfl) (byV_fresh _ _ _ _) ?_
  rw [row2]
  (conv => whnf)
  refine callV_lend [] (by_ok false false noPo 1 ⟨167772160, 8⟩ nineA) ⟨.aggL ⟨.snil_sl, .free .bool, trivial⟩, .int_of rfl, .eq_of rfl (encP_free _), .nineA, trivial⟩ byArgs_cold (by simp) (byV_fresh _ _ _ _) ?_
  rw [row3]
  (conv => whnf)
  refine callV_pure parse23_nil ⟨.free .snil, trivial⟩ ?_
  (conv => whnf)
  refine callV_pure (num23_ok 0) ⟨.int_of rfl, trivial⟩ ?_
  (conv => whnf)
  refine callV_pure (num23_ok 0) ⟨.int_of rfl, trivial⟩ ?_
  (conv => whnf)
  refine callV_pure (num23_ok 0) ⟨.int_of rfl, trivial⟩ ?_
  (conv => whnf)
  refine callV_pure (num23_ok 330) ⟨.int_of rfl, trivial⟩ ?_
  (conv => whnf)
  refine callV_lend [8] (check23_ok false ⟨[badRow], false⟩) ⟨.aggL ⟨.fresh_off (LeV.freezeE (ys := rowsRu [badRow]) (by simp) rfl (by decide) rfl (rowsRu_free _)), .free .bool, trivial⟩, trivial⟩ (by intro v hv; simp at hv; subst hv; exact encPo_cold _) (one_none rfl) .int ?_
  rw [row4]
  (conv => whnf)
  refine callV_pure (num23_ok 2) ⟨.int_of rfl, trivial⟩ ?_
  (conv => whnf)
  exact (Ends.pure [] (by first | exact .ptr rfl (by omega) | exact .osl_of rfl (by omega) rfl | exact .fr rfl | exact LeL.fr rfl | exact .yld rfl (by omega) | exact .eptr rfl (by omega) | exact .osl0 | exact .snil_sl | exact .to_any | exact LeV.nineA | exact LeV.noA) (by simp))
end Go.Proofs.YtjpfofmkgdjelaaGreat
