/- Contract: attrs.Raw. -/
import Derived.Test.YtcfkendgjinmiaaC13
set_option linter.unusedVariables false
set_option linter.unusedSimpArgs false
namespace Go.Proofs.Ytcfkendgjinmiaa
open Go.RowKit
open Go.Proofs.Try (prog)
attribute [local irreducible] CallV RoundV

theorem LeV.snil_sl {h : Heap} {nx nx' : Nat} {ρ : Nat → Nat} {Z : List Nat} {fr : Bool} {sz : Nat} : LeV h nx ρ nx' Z .snil (.sl fr sz []) := fun G w u hr hv => by
  cases hv with
  | snil A => exact .sl fr sz [] A 0 (fun _ => undef) (Nat.le_refl _) (Nat.zero_le _) (fun h => absurd rfl h) (by simp) (by simp) (by simp)
/-- An attribute's bytes, as attrs writes them. -/
def attrX (f c : UInt8) (v : List UInt8) : List UInt8 := (if 255 < v.length then [f + 16, c] ++ twoB v.length else [f, c, UInt8.ofNat v.length]) ++ v
/-- The k-th attribute, if there is one. -/
def part (a : Attrs) : Nat → List UInt8
  | 0 => attrX 64 1 [a.origin]
  | 1 => attrX 64 2 (pathB a.path)
  | 2 => attrX 64 3 (fourB a.next)
  | 3 => if a.hasMed then attrX 128 4 (fourB a.med) else []
  | 4 => if a.hasPref then attrX 64 5 (fourB a.pref) else []
  | _ => if 0 < a.tags.length then attrX 192 8 (allB a.tags) else []
/-- What is written behind k attributes. -/
def rawP (a : Attrs) : Nat → List UInt8
  | 0 => []
  | k + 1 => rawP a k ++ part a k
def rawE (a : Attrs) : V := .tup [encB true (if rightA a then rawP a 6 else []), .int .i64 (checkA a)]
theorem rawE_no {a : Attrs} (h : rightA a = false) : rawE a = .tup [encB true [], .int .i64 2] := by simp [rawE, h, checkA]
theorem rawE_yes {a : Attrs} (h : rightA a = true) : rawE a = .tup [encB true (rawP a 6), .int .i64 0] := by simp [rawE, h, checkA]

set_option maxRecDepth 100000 in
set_option maxHeartbeats 4000000 in
theorem raw_ok (fr : Bool) (a : Attrs) (hf : fewA a = true) : PCon prog 14 [encA fr a] (rawE a) := by
  obtain ⟨hp, hpl, htl⟩ := fewA_out hf
  have cell : ∀ {fr0 : Bool} {x : Attrs}, FreeB (.var true 26 (cellsA fr0 x)) := fun {fr0 x} => cellsA_free fr0 x
  have f4 : ∀ x, (fourB x).length = 4 := fun _ => rfl
  have hbd : ∀ n : Nat, n ≤ 20000 → n * (tab 5).bytes ≤ 140737488355328 ∧ n ≤ 140737488355328 := fun n h => ⟨by simp [tab, tabOf, nth]; omega, by omega⟩
  have hpb := pathB_len hp
  have ax : ∀ {f c : UInt8} {v : List UInt8}, (attrX f c v).length ≤ 4 + v.length := fun {f c v} => by unfold attrX; split <;> simp [twoB] <;> omega
  have h4 : ∀ {b : Bool} {f c : UInt8} {x : UInt32}, (if b = true then attrX f c (fourB x) else []).length ≤ 8 := fun {b f c x} => by
    have := ax (f := f) (c := c) (v := fourB x)
    rw [f4] at this
    split <;> first | omega | simp
  have hT : (if 0 < a.tags.length then attrX 192 8 (allB a.tags) else []).length ≤ 4 + 4 * a.tags.length := by
    have := ax (f := 192) (c := 8) (v := allB a.tags)
    rw [allB_len] at this
    split <;> first | omega | simp
  have p0 : (rawP a 0).length = 0 := rfl
  have p1 : (rawP a 1).length = (rawP a 0).length + (attrX 64 1 [a.origin]).length := by show (rawP a 0 ++ part a 0).length = _; rw [List.length_append]; rfl
  have p2 : (rawP a 2).length = (rawP a 1).length + (attrX 64 2 (pathB a.path)).length := by show (rawP a 1 ++ part a 1).length = _; rw [List.length_append]; rfl
  have p3 : (rawP a 3).length = (rawP a 2).length + (attrX 64 3 (fourB a.next)).length := by show (rawP a 2 ++ part a 2).length = _; rw [List.length_append]; rfl
  have p4 : (rawP a 4).length = (rawP a 3).length + (if a.hasMed then attrX 128 4 (fourB a.med) else []).length := by show (rawP a 3 ++ part a 3).length = _; rw [List.length_append]; rfl
  have p5 : (rawP a 5).length = (rawP a 4).length + (if a.hasPref then attrX 64 5 (fourB a.pref) else []).length := by show (rawP a 4 ++ part a 4).length = _; rw [List.length_append]; rfl
  have a1 := ax (f := 64) (c := 1) (v := [a.origin])
  have a2 := ax (f := 64) (c := 2) (v := pathB a.path)
  have a3 := ax (f := 64) (c := 3) (v := fourB a.next)
  rw [f4] at a3
  have a4 := h4 (b := a.hasMed) (f := 128) (c := 4) (x := a.med)
  have a5 := h4 (b := a.hasPref) (f := 64) (c := 5) (x := a.pref)
  have hP : ∀ k, k ≤ 5 → (rawP a k).length ≤ 5000 := by
    intro k hk
    simp only [List.length_cons, List.length_nil] at a1
    rcases k with _ | _ | _ | _ | _ | _ | k <;> first | omega | (simp only [Nat.zero_add, Nat.reduceAdd]; omega)
  have or80 : bits BinOp.or IntKind.u8 64 16 = 80 := by decide
  have hP0 := hP 0 (by omega)
  have hP1 := hP 1 (by omega)
  have hP2 := hP 2 (by omega)
  have hP3 := hP 3 (by omega)
  have hP4 := hP 4 (by omega)
  have hP5 := hP 5 (by omega)
  clear p0 p1 p2 p3 p4 p5 a1 a2 a3 a4 a5 hT h4 hP
  cases hright : rightA a with
  | false =>
    rw [rawE_no hright]
    refine callV_of (fn := Go.Proofs.Try.f14) (body := _) tab_ok mixed rfl rfl (by decide) (by simp [Go.Proofs.Try.f14]) ?_
    (conv => whnf)
    refine callV_pure (check_ok fr a) ⟨.free (encA_free _ _), trivial⟩ ?_
    rw [checkA_no hright]
    (conv => whnf)
    exact Ends.pure [] (.tupL ⟨.snil_sl, .int_of rfl, trivial⟩) (by simp)
  | true =>
    rw [rawE_yes hright]
    refine callV_of (fn := Go.Proofs.Try.f14) (body := _) tab_ok mixed rfl rfl (by decide) (by simp [Go.Proofs.Try.f14]) ?_
    (conv => whnf)
    refine callV_pure (check_ok fr a) ⟨.free (encA_free _ _), trivial⟩ ?_
    rw [checkA_yes hright]
    (conv => whnf)
    refine callV_pure attributes_ok trivial ?_
    (conv => whnf)
    refine callV_loop [(1, .ptr 0 0), (2, .ptr 1 0)] ⟨rfl, rfl, trivial⟩ fun asg' body' hasg hbody => ?_
    refine callV_of (fn := Go.Proofs.Try.f95) (body := _) tab_ok mixed rfl rfl (by decide) (by simp [Go.Proofs.Try.f95]) ?_
    (conv => whnf)
    intro _
    (conv => whnf)
    refine vcg_loop tab_ok mixed (fun k : {k : Nat // k ≤ 6} => ⟨[(0, .yld 2), (5, .sl true 5 attrRows), (6, cI 6), (7, cI k.1)], [(2, some (.loop 52 [(1, .ptr 0 0), (2, .ptr 1 0)] [13] asg' body' .ready none)), (0, some (.var true 26 (cellsA fr a))), (1, some (.var true 30 [.osl 3 1 0 (rawP a k.1).length])), (3, some (.arr true false 5 1 (rowsB (rawP a k.1))))], 4⟩) (fun k => 6 - k.1) ⟨0, by omega⟩ ?_ (fun k => ?_)
    · refine Wk.of id [] ⟨.yld rfl (by omega), ?_, .int_of rfl, .int_of rfl, trivial⟩ (LeH.of ⟨⟨by omega, .inl ⟨by simp, _, rfl, rfl, rfl, rfl, rfl, rfl, rfl, .ptr rfl (by omega), .ptr rfl (by omega), trivial⟩⟩, ⟨by omega, .inl ⟨by simp, _, rfl, LeB.free cell⟩⟩, ⟨by omega, .inl ⟨by simp, _, rfl, id, rfl, .osl0, trivial⟩⟩, ⟨by omega, .inr ⟨by simp, _, _, _, _, rfl⟩⟩, trivial⟩ (fun _ _ _ _ h => h) (fun _ _ => rfl) (by omega) (by simp))
      exact .free (.sl attrRows_free)
    obtain ⟨k, hk⟩ := k
    rcases k with _ | _ | _ | _ | _ | _ | _ | k
    case succ.succ.succ.succ.succ.succ.succ => omega
    case succ.succ.succ.succ.succ.succ.zero =>
      (conv => whnf)
      refine ⟨_, _, _, Ends.here, ?_⟩
      (conv => whnf)
      exact Ends.pure [3] (.tupL ⟨.freezeB (bs := rawP a 6) (by simp) rfl rfl rfl, .int_of rfl, trivial⟩) (one_none rfl)
    case zero =>
      (conv => whnf)
      refine ⟨rfl, _, ⟨by simp, rfl⟩, ?_⟩
      (conv => whnf)
      subst hasg hbody
      refine roundV_of tab_ok mixed rfl (by simp) (show 2 < 5 by omega) ?_
      (conv => whnf)
      refine ⟨rfl, ?_⟩
      (conv => whnf)
      refine callV_pure (always_ok fr a) ⟨.free (encA_free _ _), trivial⟩ ?_
      (conv => whnf)
      (conv => whnf)
      refine callV_pure (vOrigin_ok fr a) ⟨.free (encA_free _ _), trivial⟩ ?_
      (conv => whnf)
      refine fun (_ : gd none _) => ?_
      (conv => whnf)
      refine fun (_ : gd none _) => ?_
      (conv => whnf)
      refine ⟨rfl, by simp, ⟨rfl, rfl, rfl, rfl, by decide⟩, by simp, hbd _ (by simp; omega), ?_⟩
      (conv => whnf)
      refine ⟨⟨rfl, rfl, rfl, rfl, by decide⟩, by simp, hbd _ (by simp [rawP]; try omega), ?_⟩
      (conv => whnf)
      refine ⟨rfl, ?_⟩
      (conv => whnf)
      refine ⟨⟨1, by omega⟩, Wk.of (renOf [(3, 8)]) [] ⟨.yld rfl (by omega), ?_, .int_of rfl, .int_of ?_, trivial⟩ (LeH.of ⟨⟨by omega, .inl ⟨by simp, _, rfl, rfl, rfl, rfl, rfl, rfl, rfl, .ptr rfl (by omega), .ptr rfl (by omega), trivial⟩⟩, ⟨by omega, .inl ⟨by simp, _, rfl, LeB.free cell⟩⟩, ⟨by omega, .inl ⟨by simp, _, rfl, id, rfl, .osl_of rfl (by omega) ?_, trivial⟩⟩, ⟨by omega, .inl ⟨by simp, _, rfl, LeB.eq_of ?_ (rowsB_free _)⟩⟩, trivial⟩ (show ∀ b ∈ [2, 0, 1, 3], ∀ b' ∈ [2, 0, 1, 3], renOf [(3, 8)] b = renOf [(3, 8)] b' → b = b' by decide) (show ∀ b, b < 3 → renOf [(3, 8)] b = b by decide) (by omega) (by simp)), by simp⟩
      · exact .free (.sl attrRows_free)
      · simp [wrap64']
      · (simp [rawP, part, attrX, cell, rawP, Nat.add_assoc]; try omega)
      · simp [rawP, part, attrX, rowsB, u8_nat, wrap8, cell, rawP, Nat.add_assoc, List.take_of_length_le]
    case succ.succ.zero =>
      (conv => whnf)
      refine ⟨rfl, _, ⟨by simp, rfl⟩, ?_⟩
      (conv => whnf)
      subst hasg hbody
      refine roundV_of tab_ok mixed rfl (by simp) (show 2 < 5 by omega) ?_
      (conv => whnf)
      refine ⟨rfl, ?_⟩
      (conv => whnf)
      refine callV_pure (always_ok fr a) ⟨.free (encA_free _ _), trivial⟩ ?_
      (conv => whnf)
      (conv => whnf)
      refine callV_pure (vNext_ok fr a) ⟨.free (encA_free _ _), trivial⟩ ?_
      (conv => whnf)
      refine fun (_ : gd none _) => ?_
      (conv => whnf)
      refine fun (_ : gd none _) => ?_
      (conv => whnf)
      refine ⟨rfl, by simp, ⟨rfl, rfl, rfl, rfl, by decide⟩, by simp, hbd _ (by simp; omega), ?_⟩
      (conv => whnf)
      refine ⟨⟨rfl, rfl, rfl, rfl, by decide⟩, by simp, hbd _ (by simp [f4]; try omega), ?_⟩
      (conv => whnf)
      refine ⟨rfl, ?_⟩
      (conv => whnf)
      refine ⟨⟨3, by omega⟩, Wk.of (renOf [(3, 8)]) [] ⟨.yld rfl (by omega), ?_, .int_of rfl, .int_of ?_, trivial⟩ (LeH.of ⟨⟨by omega, .inl ⟨by simp, _, rfl, rfl, rfl, rfl, rfl, rfl, rfl, .ptr rfl (by omega), .ptr rfl (by omega), trivial⟩⟩, ⟨by omega, .inl ⟨by simp, _, rfl, LeB.free cell⟩⟩, ⟨by omega, .inl ⟨by simp, _, rfl, id, rfl, .osl_of rfl (by omega) ?_, trivial⟩⟩, ⟨by omega, .inl ⟨by simp, _, rfl, LeB.eq_of ?_ (rowsB_free _)⟩⟩, trivial⟩ (show ∀ b ∈ [2, 0, 1, 3], ∀ b' ∈ [2, 0, 1, 3], renOf [(3, 8)] b = renOf [(3, 8)] b' → b = b' by decide) (show ∀ b, b < 3 → renOf [(3, 8)] b = b by decide) (by omega) (by simp)), by simp⟩
      · exact .free (.sl attrRows_free)
      · simp [wrap64']
      · (simp [rawP, part, attrX, cell, f4, Nat.add_assoc]; try omega)
      · simp [rawP, part, attrX, rowsB, u8_nat, wrap8, cell, f4, Nat.add_assoc, List.take_of_length_le]
    case succ.succ.succ.zero =>
      (conv => whnf)
      refine ⟨rfl, _, ⟨by simp, rfl⟩, ?_⟩
      (conv => whnf)
      subst hasg hbody
      refine roundV_of tab_ok mixed rfl (by simp) (show 2 < 5 by omega) ?_
      (conv => whnf)
      refine ⟨rfl, ?_⟩
      (conv => whnf)
      refine callV_pure (hasMed_ok fr a) ⟨.free (encA_free _ _), trivial⟩ ?_
      (conv => whnf)
      split
      · rename_i h
        have h : a.hasMed = false := by simpa using h
        (conv => whnf)
        refine ⟨rfl, ?_⟩
        (conv => whnf)
        refine ⟨⟨4, by omega⟩, Wk.of (renOf [(3, 3)]) [] ⟨.yld rfl (by omega), ?_, .int_of rfl, .int_of ?_, trivial⟩ (LeH.of ⟨⟨by omega, .inl ⟨by simp, _, rfl, rfl, rfl, rfl, rfl, rfl, rfl, .ptr rfl (by omega), .ptr rfl (by omega), trivial⟩⟩, ⟨by omega, .inl ⟨by simp, _, rfl, LeB.free cell⟩⟩, ⟨by omega, .inl ⟨by simp, _, rfl, id, rfl, .osl_of rfl (by omega) ?_, trivial⟩⟩, ⟨by omega, .inl ⟨by simp, _, rfl, LeB.eq_of ?_ (rowsB_free _)⟩⟩, trivial⟩ (show ∀ b ∈ [2, 0, 1, 3], ∀ b' ∈ [2, 0, 1, 3], renOf [(3, 3)] b = renOf [(3, 3)] b' → b = b' by decide) (show ∀ b, b < 3 → renOf [(3, 3)] b = b by decide) (by omega) (by simp)), by simp⟩
        · exact .free (.sl attrRows_free)
        · simp [wrap64']
        · (simp [rawP, part, attrX, h, cell, Nat.add_assoc]; try omega)
        · simp [rawP, part, attrX, rowsB, u8_nat, wrap8, h, cell, Nat.add_assoc, List.take_of_length_le]
      · rename_i h
        have h : a.hasMed = true := by simpa using h
        (conv => whnf)
        refine callV_pure (vMed_ok fr a) ⟨.free (encA_free _ _), trivial⟩ ?_
        (conv => whnf)
        refine fun (_ : gd none _) => ?_
        (conv => whnf)
        refine fun (_ : gd none _) => ?_
        (conv => whnf)
        refine ⟨rfl, by simp, ⟨rfl, rfl, rfl, rfl, by decide⟩, by simp, hbd _ (by simp; omega), ?_⟩
        (conv => whnf)
        refine ⟨⟨rfl, rfl, rfl, rfl, by decide⟩, by simp, hbd _ (by simp [f4]; try omega), ?_⟩
        (conv => whnf)
        refine ⟨rfl, ?_⟩
        (conv => whnf)
        refine ⟨⟨4, by omega⟩, Wk.of (renOf [(3, 8)]) [] ⟨.yld rfl (by omega), ?_, .int_of rfl, .int_of ?_, trivial⟩ (LeH.of ⟨⟨by omega, .inl ⟨by simp, _, rfl, rfl, rfl, rfl, rfl, rfl, rfl, .ptr rfl (by omega), .ptr rfl (by omega), trivial⟩⟩, ⟨by omega, .inl ⟨by simp, _, rfl, LeB.free cell⟩⟩, ⟨by omega, .inl ⟨by simp, _, rfl, id, rfl, .osl_of rfl (by omega) ?_, trivial⟩⟩, ⟨by omega, .inl ⟨by simp, _, rfl, LeB.eq_of ?_ (rowsB_free _)⟩⟩, trivial⟩ (show ∀ b ∈ [2, 0, 1, 3], ∀ b' ∈ [2, 0, 1, 3], renOf [(3, 8)] b = renOf [(3, 8)] b' → b = b' by decide) (show ∀ b, b < 3 → renOf [(3, 8)] b = b by decide) (by omega) (by simp)), by simp⟩
        · exact .free (.sl attrRows_free)
        · simp [wrap64']
        · (simp [rawP, part, attrX, h, f4, Nat.add_assoc]; try omega)
        · simp [rawP, part, attrX, rowsB, u8_nat, wrap8, h, f4, Nat.add_assoc, List.take_of_length_le]
    case succ.succ.succ.succ.zero =>
      (conv => whnf)
      refine ⟨rfl, _, ⟨by simp, rfl⟩, ?_⟩
      (conv => whnf)
      subst hasg hbody
      refine roundV_of tab_ok mixed rfl (by simp) (show 2 < 5 by omega) ?_
      (conv => whnf)
      refine ⟨rfl, ?_⟩
      (conv => whnf)
      refine callV_pure (hasPref_ok fr a) ⟨.free (encA_free _ _), trivial⟩ ?_
      (conv => whnf)
      split
      · rename_i h
        have h : a.hasPref = false := by simpa using h
        (conv => whnf)
        refine ⟨rfl, ?_⟩
        (conv => whnf)
        refine ⟨⟨5, by omega⟩, Wk.of (renOf [(3, 3)]) [] ⟨.yld rfl (by omega), ?_, .int_of rfl, .int_of ?_, trivial⟩ (LeH.of ⟨⟨by omega, .inl ⟨by simp, _, rfl, rfl, rfl, rfl, rfl, rfl, rfl, .ptr rfl (by omega), .ptr rfl (by omega), trivial⟩⟩, ⟨by omega, .inl ⟨by simp, _, rfl, LeB.free cell⟩⟩, ⟨by omega, .inl ⟨by simp, _, rfl, id, rfl, .osl_of rfl (by omega) ?_, trivial⟩⟩, ⟨by omega, .inl ⟨by simp, _, rfl, LeB.eq_of ?_ (rowsB_free _)⟩⟩, trivial⟩ (show ∀ b ∈ [2, 0, 1, 3], ∀ b' ∈ [2, 0, 1, 3], renOf [(3, 3)] b = renOf [(3, 3)] b' → b = b' by decide) (show ∀ b, b < 3 → renOf [(3, 3)] b = b by decide) (by omega) (by simp)), by simp⟩
        · exact .free (.sl attrRows_free)
        · simp [wrap64']
        · (simp [rawP, part, attrX, h, cell, Nat.add_assoc]; try omega)
        · simp [rawP, part, attrX, rowsB, u8_nat, wrap8, h, cell, Nat.add_assoc, List.take_of_length_le]
      · rename_i h
        have h : a.hasPref = true := by simpa using h
        (conv => whnf)
        refine callV_pure (vPref_ok fr a) ⟨.free (encA_free _ _), trivial⟩ ?_
        (conv => whnf)
        refine fun (_ : gd none _) => ?_
        (conv => whnf)
        refine fun (_ : gd none _) => ?_
        (conv => whnf)
        refine ⟨rfl, by simp, ⟨rfl, rfl, rfl, rfl, by decide⟩, by simp, hbd _ (by simp; omega), ?_⟩
        (conv => whnf)
        refine ⟨⟨rfl, rfl, rfl, rfl, by decide⟩, by simp, hbd _ (by simp [f4]; try omega), ?_⟩
        (conv => whnf)
        refine ⟨rfl, ?_⟩
        (conv => whnf)
        refine ⟨⟨5, by omega⟩, Wk.of (renOf [(3, 8)]) [] ⟨.yld rfl (by omega), ?_, .int_of rfl, .int_of ?_, trivial⟩ (LeH.of ⟨⟨by omega, .inl ⟨by simp, _, rfl, rfl, rfl, rfl, rfl, rfl, rfl, .ptr rfl (by omega), .ptr rfl (by omega), trivial⟩⟩, ⟨by omega, .inl ⟨by simp, _, rfl, LeB.free cell⟩⟩, ⟨by omega, .inl ⟨by simp, _, rfl, id, rfl, .osl_of rfl (by omega) ?_, trivial⟩⟩, ⟨by omega, .inl ⟨by simp, _, rfl, LeB.eq_of ?_ (rowsB_free _)⟩⟩, trivial⟩ (show ∀ b ∈ [2, 0, 1, 3], ∀ b' ∈ [2, 0, 1, 3], renOf [(3, 8)] b = renOf [(3, 8)] b' → b = b' by decide) (show ∀ b, b < 3 → renOf [(3, 8)] b = b by decide) (by omega) (by simp)), by simp⟩
        · exact .free (.sl attrRows_free)
        · simp [wrap64']
        · (simp [rawP, part, attrX, h, f4, Nat.add_assoc]; try omega)
        · simp [rawP, part, attrX, rowsB, u8_nat, wrap8, h, f4, Nat.add_assoc, List.take_of_length_le]
    case succ.succ.succ.succ.succ.zero =>
      (conv => whnf)
      refine ⟨rfl, _, ⟨by simp, rfl⟩, ?_⟩
      (conv => whnf)
      subst hasg hbody
      refine roundV_of tab_ok mixed rfl (by simp) (show 2 < 5 by omega) ?_
      (conv => whnf)
      refine ⟨rfl, ?_⟩
      (conv => whnf)
      refine callV_pure (hasTags_ok fr a) ⟨.free (encA_free _ _), trivial⟩ ?_
      (conv => whnf)
      split
      · rename_i h
        have h : ¬ 0 < a.tags.length := by simpa using h
        (conv => whnf)
        refine ⟨rfl, ?_⟩
        (conv => whnf)
        refine ⟨⟨6, by omega⟩, Wk.of (renOf [(3, 3)]) [] ⟨.yld rfl (by omega), ?_, .int_of rfl, .int_of ?_, trivial⟩ (LeH.of ⟨⟨by omega, .inl ⟨by simp, _, rfl, rfl, rfl, rfl, rfl, rfl, rfl, .ptr rfl (by omega), .ptr rfl (by omega), trivial⟩⟩, ⟨by omega, .inl ⟨by simp, _, rfl, LeB.free cell⟩⟩, ⟨by omega, .inl ⟨by simp, _, rfl, id, rfl, .osl_of rfl (by omega) ?_, trivial⟩⟩, ⟨by omega, .inl ⟨by simp, _, rfl, LeB.eq_of ?_ (rowsB_free _)⟩⟩, trivial⟩ (show ∀ b ∈ [2, 0, 1, 3], ∀ b' ∈ [2, 0, 1, 3], renOf [(3, 3)] b = renOf [(3, 3)] b' → b = b' by decide) (show ∀ b, b < 3 → renOf [(3, 3)] b = b by decide) (by omega) (by simp)), by simp⟩
        · exact .free (.sl attrRows_free)
        · simp [wrap64']
        · (simp [rawP, part, attrX, h, if_neg, Nat.add_assoc]; try omega)
        · simp [rawP, part, attrX, rowsB, u8_nat, wrap8, h, if_neg, Nat.add_assoc, List.take_of_length_le]
      · rename_i h
        have h : 0 < a.tags.length := by simpa using h
        have hs : ¬ 255 < (allB a.tags).length := by rw [allB_len]; omega
        (conv => whnf)
        refine callV_pure (vTags_ok fr a hf) ⟨.free (encA_free _ _), trivial⟩ ?_
        (conv => whnf)
        refine fun (_ : gd none _) => ?_
        (conv => whnf)
        split
        · rename_i hb
          exact absurd hb (by simp; omega)
        rename_i hb
        (conv => whnf)
        refine fun (_ : gd none _) => ?_
        (conv => whnf)
        refine ⟨rfl, by simp, ⟨rfl, rfl, rfl, rfl, by decide⟩, by simp, hbd _ (by simp; omega), ?_⟩
        (conv => whnf)
        refine ⟨⟨rfl, rfl, rfl, rfl, by decide⟩, by simp, hbd _ (by simp; omega), ?_⟩
        (conv => whnf)
        refine ⟨rfl, ?_⟩
        (conv => whnf)
        refine ⟨⟨6, by omega⟩, Wk.of (renOf [(3, 8)]) [] ⟨.yld rfl (by omega), ?_, .int_of rfl, .int_of ?_, trivial⟩ (LeH.of ⟨⟨by omega, .inl ⟨by simp, _, rfl, rfl, rfl, rfl, rfl, rfl, rfl, .ptr rfl (by omega), .ptr rfl (by omega), trivial⟩⟩, ⟨by omega, .inl ⟨by simp, _, rfl, LeB.free cell⟩⟩, ⟨by omega, .inl ⟨by simp, _, rfl, id, rfl, .osl_of rfl (by omega) ?_, trivial⟩⟩, ⟨by omega, .inl ⟨by simp, _, rfl, LeB.eq_of ?_ (rowsB_free _)⟩⟩, trivial⟩ (show ∀ b ∈ [2, 0, 1, 3], ∀ b' ∈ [2, 0, 1, 3], renOf [(3, 8)] b = renOf [(3, 8)] b' → b = b' by decide) (show ∀ b, b < 3 → renOf [(3, 8)] b = b by decide) (by omega) (by simp)), by simp⟩
        · exact .free (.sl attrRows_free)
        · simp [wrap64']
        · (simp [rawP, part, attrX, h, hs, Nat.add_assoc]; try omega)
        · simp [rawP, part, attrX, rowsB, u8_nat, wrap8, h, hs, Nat.add_assoc, List.take_of_length_le]
    case succ.zero =>
      (conv => whnf)
      refine ⟨rfl, _, ⟨by simp, rfl⟩, ?_⟩
      (conv => whnf)
      subst hasg hbody
      refine roundV_of tab_ok mixed rfl (by simp) (show 2 < 5 by omega) ?_
      (conv => whnf)
      refine ⟨rfl, ?_⟩
      (conv => whnf)
      refine callV_pure (always_ok fr a) ⟨.free (encA_free _ _), trivial⟩ ?_
      (conv => whnf)
      (conv => whnf)
      refine callV_pure (route_ok fr a hf) ⟨.free (encA_free _ _), trivial⟩ ?_
      (conv => whnf)
      refine fun (_ : gd none _) => ?_
      (conv => whnf)
      split
      · rename_i hb
        have hs : 255 < (pathB a.path).length := by simp at hb; omega
        (conv => whnf)
        refine ⟨rfl, by simp, ⟨rfl, rfl, rfl, rfl, by decide⟩, by simp, hbd _ (by simp; omega), ?_⟩
        (conv => whnf)
        refine fun (_ : gd none _) => ?_
        (conv => whnf)
        refine callV_pure (highI_ok (pathB a.path).length (by omega)) ⟨.int_of (by simp), .free .int, trivial⟩ ?_
        (conv => whnf)
        refine ⟨⟨rfl, rfl, rfl, rfl, by decide⟩, by simp, hbd _ (by simp [twoB]; omega), ?_⟩
        (conv => whnf)
        refine ⟨⟨rfl, rfl, rfl, rfl, by decide⟩, by simp, hbd _ (by simp [twoB]; omega), ?_⟩
        (conv => whnf)
        refine ⟨rfl, ?_⟩
        (conv => whnf)
        refine ⟨⟨2, by omega⟩, Wk.of (renOf [(3, 9)]) [] ⟨.yld rfl (by omega), ?_, .int_of rfl, .int_of ?_, trivial⟩ (LeH.of ⟨⟨by omega, .inl ⟨by simp, _, rfl, rfl, rfl, rfl, rfl, rfl, rfl, .ptr rfl (by omega), .ptr rfl (by omega), trivial⟩⟩, ⟨by omega, .inl ⟨by simp, _, rfl, LeB.free cell⟩⟩, ⟨by omega, .inl ⟨by simp, _, rfl, id, rfl, .osl_of rfl (by omega) ?_, trivial⟩⟩, ⟨by omega, .inl ⟨by simp, _, rfl, LeB.eq_of ?_ (rowsB_free _)⟩⟩, trivial⟩ (show ∀ b ∈ [2, 0, 1, 3], ∀ b' ∈ [2, 0, 1, 3], renOf [(3, 9)] b = renOf [(3, 9)] b' → b = b' by decide) (show ∀ b, b < 3 → renOf [(3, 9)] b = b by decide) (by omega) (by simp)), by simp⟩
        · exact .free (.sl attrRows_free)
        · simp [wrap64']
        · (simp [rawP, part, attrX, hs, twoB, or80, Nat.add_assoc]; try omega)
        · simp [rawP, part, attrX, rowsB, u8_nat, wrap8, hs, twoB, or80, Nat.add_assoc, List.take_of_length_le]
      · rename_i hb
        have hs : ¬ 255 < (pathB a.path).length := by simp at hb; omega
        (conv => whnf)
        refine fun (_ : gd none _) => ?_
        (conv => whnf)
        refine ⟨rfl, by simp, ⟨rfl, rfl, rfl, rfl, by decide⟩, by simp, hbd _ (by simp; omega), ?_⟩
        (conv => whnf)
        refine ⟨⟨rfl, rfl, rfl, rfl, by decide⟩, by simp, hbd _ (by simp; omega), ?_⟩
        (conv => whnf)
        refine ⟨rfl, ?_⟩
        (conv => whnf)
        refine ⟨⟨2, by omega⟩, Wk.of (renOf [(3, 8)]) [] ⟨.yld rfl (by omega), ?_, .int_of rfl, .int_of ?_, trivial⟩ (LeH.of ⟨⟨by omega, .inl ⟨by simp, _, rfl, rfl, rfl, rfl, rfl, rfl, rfl, .ptr rfl (by omega), .ptr rfl (by omega), trivial⟩⟩, ⟨by omega, .inl ⟨by simp, _, rfl, LeB.free cell⟩⟩, ⟨by omega, .inl ⟨by simp, _, rfl, id, rfl, .osl_of rfl (by omega) ?_, trivial⟩⟩, ⟨by omega, .inl ⟨by simp, _, rfl, LeB.eq_of ?_ (rowsB_free _)⟩⟩, trivial⟩ (show ∀ b ∈ [2, 0, 1, 3], ∀ b' ∈ [2, 0, 1, 3], renOf [(3, 8)] b = renOf [(3, 8)] b' → b = b' by decide) (show ∀ b, b < 3 → renOf [(3, 8)] b = b by decide) (by omega) (by simp)), by simp⟩
        · exact .free (.sl attrRows_free)
        · simp [wrap64']
        · (simp [rawP, part, attrX, hs, cell, Nat.add_assoc]; try omega)
        · simp [rawP, part, attrX, rowsB, u8_nat, wrap8, hs, cell, Nat.add_assoc, List.take_of_length_le]
end Go.Proofs.Ytcfkendgjinmiaa
