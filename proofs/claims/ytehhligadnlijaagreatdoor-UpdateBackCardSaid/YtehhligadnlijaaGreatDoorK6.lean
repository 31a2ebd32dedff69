/- Joined: B22, B23, B24, B25, B27, B28, B29, RL, B31, B32, B33. -/
import Derived.Test.YtehhligadnlijaaGreatDoorK5
import Derived.Lib.SplitLaws
import Derived.Test.YtehhligadnlijaaGreatDoorK4
import Derived.Test.YtehhligadnlijaaGreatDoorK3
import Derived.Test.YtehhligadnlijaaGreatDoorCards
import Derived.Test.YtehhligadnlijaaGreatDoorTie
import Derived.ProofKit
import Derived.LaidMore
import Derived.OpenShut
import Derived.Lay
import Derived.SevenTiedAt
import Derived.Stop.Joined
import Derived.MakeChecks
import Derived.Shelf.Vars
set_option linter.unusedVariables false
set_option linter.unusedSimpArgs false
namespace Go.Proofs.YtehhligadnlijaaGreatDoor
open Go.RowKit
open Go.Proofs.Tryz (prog)
attribute [local irreducible] CallV RoundV aggK
theorem LeB.rowsR {h : Heap} {nx nx' : Nat} {ρ : Nat → Nat} {Z : List Nat} {fr fr' ex ex' : Bool} {ty sz : Nat} {xs ys : List (List V)} (h1 : fr' = true → fr = true) (h2 : ex' = true → ex = true) (hr : LeR h nx ρ nx' Z xs ys) : LeB h nx ρ nx' Z (.arr fr ex ty sz xs) (.arr fr' ex' ty sz ys) :=
  ⟨h1, h2, rfl, rfl, hr.out.1, hr.out.2⟩
def noU : Upd := ⟨[], [], noA⟩
def xB (b : List UInt8) : List UInt8 := chunkW b
def yB (b : List UInt8) : List UInt8 := chunkW (restW b)
def zB (b : List UInt8) : List UInt8 := restW (restW b)
def eY (b : List UInt8) : Int := if yB b = [] then 0 else (parseA (yB b) 0 0 noA).2
def aY (b : List UInt8) : Attrs := if yB b = [] then noA else (parseA (yB b) 0 0 noA).1
def ordB (b : List UInt8) : Bool := riseP (eachB (xB b)) && riseP (eachB (zB b)) && apartP (eachB (xB b)) (eachB (zB b))
def wholeB (b : List UInt8) : Bool := decide (0 < (yB b).length) == decide (0 < (eachB (zB b)).length)
def stepE (b : List UInt8) : Nat → Int
  | 0 => if !shortW b && allOk (eachB (xB b)) then 0 else 300
  | 1 => if shortW (restW b) then 301 else eY b
  | 2 => if allOk (eachB (zB b)) then 0 else 302
  | 3 => if ordB b then 0 else 303
  | 4 => if wholeB b then 0 else 304
  | _ => if b.length ≤ 493 then 0 else 3
def errB (b : List UInt8) : Int :=
  if stepE b 0 ≠ 0 then stepE b 0 else if stepE b 1 ≠ 0 then stepE b 1 else if stepE b 2 ≠ 0 then stepE b 2 else if stepE b 3 ≠ 0 then stepE b 3 else if stepE b 4 ≠ 0 then stepE b 4 else stepE b 5
def updB (b : List UInt8) : Upd := if errB b = 0 then ⟨eachB (xB b), eachB (zB b), aY b⟩ else noU
def parseUV (fr : Bool) (b : List UInt8) : V := .tup [encU fr (updB b), .int .i64 (errB b)]
def rbK (b : List UInt8) : Nat → List UInt8 | 0 => b | 1 => restW b | _ => zB b
def goneK (b : List UInt8) : Nat → List Prefix | 0 => [] | _ => eachB (xB b)
def newK (b : List UInt8) : Nat → List Prefix | 0 => [] | 1 => [] | 2 => [] | _ => eachB (zB b)
def cellsRd (fr : Bool) (rb : List UInt8) (g n : List Prefix) (a : Attrs) (sd : Bool) : List V :=
  [encB fr rb, encPs true g, encPs true n, cB a.origin, encLegs true a.path, cW a.next, .bool a.hasMed, cW a.med, .bool a.hasPref, cW a.pref, encW true a.tags, .bool sd]
def okS (b : List UInt8) (k : Nat) : Prop := ∀ j, j < k → stepE b j = 0
theorem okS_succ {b : List UInt8} {k : Nat} (h : okS b k) (h1 : stepE b k = 0) : okS b (k + 1) := fun j hj => by
  rcases Nat.lt_or_ge j k with h2 | h2
  · exact h j h2
  · obtain rfl : j = k := by omega
    exact h1
theorem err_at {b : List UInt8} {k : Nat} (hk : k ≤ 5) (h : okS b k) (h1 : stepE b k ≠ 0) : errB b = stepE b k := by
  unfold errB
  obtain rfl | rfl | rfl | rfl | rfl | rfl : k = 0 ∨ k = 1 ∨ k = 2 ∨ k = 3 ∨ k = 4 ∨ k = 5 := by omega
  · rw [if_pos h1]
  · rw [if_neg (by simp [h 0 (by omega)]), if_pos h1]
  · rw [if_neg (by simp [h 0 (by omega)]), if_neg (by simp [h 1 (by omega)]), if_pos h1]
  · rw [if_neg (by simp [h 0 (by omega)]), if_neg (by simp [h 1 (by omega)]), if_neg (by simp [h 2 (by omega)]), if_pos h1]
  · rw [if_neg (by simp [h 0 (by omega)]), if_neg (by simp [h 1 (by omega)]), if_neg (by simp [h 2 (by omega)]), if_neg (by simp [h 3 (by omega)]), if_pos h1]
  · rw [if_neg (by simp [h 0 (by omega)]), if_neg (by simp [h 1 (by omega)]), if_neg (by simp [h 2 (by omega)]), if_neg (by simp [h 3 (by omega)]), if_neg (by simp [h 4 (by omega)])]
theorem err_none {b : List UInt8} (h : okS b 6) : errB b = 0 := by
  unfold errB
  simp [h 0 (by omega), h 1 (by omega), h 2 (by omega), h 3 (by omega), h 4 (by omega), h 5 (by omega)]
set_option maxRecDepth 100000 in
theorem fine_ok (is : Bool) (e : Int) : PCon prog 62 [.bool is, .int .i64 e] (.int .i64 (if is then 0 else e)) := by
  refine callV_of (fn := Go.Proofs.Tryz.f62) (body := _) tab_ok mixed rfl rfl (by decide) (by simp [Go.Proofs.Tryz.f62]) ?_
  (conv => whnf)
  cases is with
  | true =>
    (conv => whnf)
    exact (Ends.pure [] (by first | exact .ptr rfl (by omega) | exact .osl_of rfl (by omega) rfl | exact .fr rfl | exact LeL.fr rfl | exact .yld rfl (by omega) | exact .eptr rfl (by omega) | exact .osl0 | exact .snil_sl | exact .to_any) (by simp))
  | false =>
    (conv => whnf)
    exact (Ends.pure [] (by first | exact .ptr rfl (by omega) | exact .osl_of rfl (by omega) rfl | exact .fr rfl | exact LeL.fr rfl | exact .yld rfl (by omega) | exact .eptr rfl (by omega) | exact .osl0 | exact .snil_sl | exact .to_any) (by simp))
def stepsR : List (List V) := [[.fn (.func 63) [] [.ptr 3 0, .ptr 4 0]], [.fn (.func 66) [] [.ptr 3 0, .ptr 4 0]], [.fn (.func 68) [] [.ptr 3 0, .ptr 4 0]], [.fn (.func 69) [] [.ptr 4 0, .ptr 3 0]], [.fn (.func 70) [] [.ptr 4 0, .ptr 3 0]], [.fn (.func 71) [] [.ptr 4 0, .ptr 0 0]]]
theorem stepsR_le {h : Heap} {nx nx' : Nat} {Z : List Nat} (hn : 5 ≤ nx') : LeR h nx id nx' Z stepsR stepsR :=
  ⟨⟨.fnL trivial ⟨.ptr rfl (by omega), .ptr rfl (by omega), trivial⟩, trivial⟩, ⟨.fnL trivial ⟨.ptr rfl (by omega), .ptr rfl (by omega), trivial⟩, trivial⟩, ⟨.fnL trivial ⟨.ptr rfl (by omega), .ptr rfl (by omega), trivial⟩, trivial⟩,
   ⟨.fnL trivial ⟨.ptr rfl (by omega), .ptr rfl (by omega), trivial⟩, trivial⟩, ⟨.fnL trivial ⟨.ptr rfl (by omega), .ptr rfl (by omega), trivial⟩, trivial⟩, ⟨.fnL trivial ⟨.ptr rfl (by omega), .ptr rfl (by omega), trivial⟩, trivial⟩, trivial⟩
def zeroU : List V := [.snil, .snil, .int .u8 0, .snil, .int .u32 0, .bool false, .int .u32 0, .bool false, .int .u32 0, .snil]
theorem LeV.noU {h : Heap} {nx nx' : Nat} {ρ : Nat → Nat} {Z : List Nat} {fr : Bool} : LeV h nx ρ nx' Z (.agg zeroU) (encU fr noU) :=
  .aggL ⟨.snil_sl, .snil_sl, .free .int, .snil_sl, .free .int, .free .bool, .free .int, .free .bool, .free .int, .snil_sl, trivial⟩
instance {fr rb g n a sd} : FreeLI (cellsRd fr rb g n a sd) := ⟨⟨by
  intro v hv
  simp only [cellsRd, List.mem_cons, List.not_mem_nil, or_false] at hv
  rcases hv with rfl | rfl | rfl | rfl | rfl | rfl | rfl | rfl | rfl | rfl | rfl | rfl
  · exact encB_free _ _
  · exact encPs_free _ _
  · exact encPs_free _ _
  · exact .int
  · exact encLegs_free _ _
  · exact .int
  · exact .bool
  · exact .int
  · exact .bool
  · exact .int
  · exact encW_free _ _
  · exact .bool⟩⟩
theorem cellsRd_free (fr : Bool) (rb : List UInt8) (g n : List Prefix) (a : Attrs) (sd : Bool) : ∀ v ∈ cellsRd fr rb g n a sd, Free v := (inferInstance : FreeLI (cellsRd fr rb g n a sd)).elim fun p => p.down
theorem callV_some {fr : Bool} {rb : List UInt8} {g n : List Prefix} {a : Attrs} {sd : Bool} {args : List V} {h : Heap} {nx i : Nat} {K : V → Heap → Nat → Prop} (hl : rb.length ≤ 20000) (hb : hget h i = some (.var true 99 (cellsRd fr rb g n a sd))) (ha : LeL h nx (fun _ => i) 1 [] args [.ptr 0 0])
    (hK : K (.tup [encB fr (chunkW rb), .bool (!shortW rb)]) ((i, some (.var true 99 (cellsRd fr (restW rb) g n a sd))) :: h) nx) : CallV prog 64 args h nx K := by
  have hf := cellsRd_free fr rb g n a sd
  have hs := some_ok fr true rb hl _ _ _ _ _ _ _ _ _ _ _ (fun v hv => hf v (List.mem_cons_of_mem _ hv))
  refine callV_ptr (R := fun v' c => v' = .tup [encB fr (chunkW rb), .bool (!shortW rb)] ∧ c = cellsRd fr (restW rb) g n a sd) (hs.mono fun v' h' nx' e => ⟨_, ⟨e.1, rfl⟩, e.2.1, e.2.2⟩) hb hf ha fun v' c' e => ?_
  obtain ⟨rfl, rfl⟩ := e
  exact ⟨.tup (by intro v hv; simp only [List.mem_cons, List.not_mem_nil, or_false] at hv; rcases hv with rfl | rfl; exact encB_free _ _; exact .bool), cellsRd_free _ _ _ _ _ _, hK⟩
theorem chunkW_len (b : List UInt8) : (chunkW b).length ≤ b.length := by
  unfold chunkW
  split
  · simp
  · rw [List.length_take, List.length_drop]; omega
theorem restW_len (b : List UInt8) : (restW b).length ≤ b.length := by
  unfold restW
  split
  · exact Nat.le_refl _
  · rw [List.length_drop]; omega
theorem err_out {b : List UInt8} {k : Nat} {v : Int} (hk : k ≤ 5) (h : okS b k) (h1 : stepE b k = v) (h0 : v ≠ 0) : errB b = v ∧ updB b = noU := by
  have := err_at hk h (by rw [h1]; exact h0)
  rw [h1] at this
  exact ⟨this, by rw [updB, if_neg (by rw [this]; exact h0)]⟩
structure Stp20 (b : List UInt8) where
  k : Nat
  a : Attrs
  sd : Bool
  le : k ≤ 6
  ok : okS b k
  a0 : k ≤ 1 → a = noA
  a2 : 2 ≤ k → a = aY b
  s2 : 2 ≤ k → sd = decide (0 < (yB b).length)
set_option maxRecDepth 100000 in
set_option maxHeartbeats 8000000 in
theorem parseU20_ok (fr : Bool) (b : List UInt8) (hb : b.length ≤ 1000) : PCon prog 34 [encB fr b] (parseUV true b) := by
  refine callV_of (fn := Go.Proofs.Tryz.f34) (body := _) tab_ok mixed rfl rfl (by decide) (by simp [Go.Proofs.Tryz.f34]) ?_
  (conv => whnf)
  intro _
  (conv => whnf)
  refine vcg_loop tab_ok mixed (fun k : Stp20 b => ⟨[(2, .ptr 1 0), (4, .ptr 3 0), (19, .osl 5 1 0 6), (20, .int .i64 6), (21, cI k.k)], [(0, some (.var true 50 [encB fr b])), (1, some (.var true 47 zeroU)), (2, some (.var true 99 (cellsRd fr (rbK b k.k) (goneK b k.k) (newK b k.k) k.a k.sd))), (3, some (.var true 95 [.ptr 2 0])), (4, some (.var true 100 [.fn (.func 62) [] []])), (5, some (.arr true true 105 1 stepsR))], 6⟩) (fun k => 6 - k.k) ⟨0, noA, false, by omega, fun j hj => by omega, fun _ => rfl, fun h => by omega, fun h => by omega⟩ (Wk.i (by repeat' (first | exact True.intro | exact id | exact rfl | decide | exact Nat.le_of_ble_eq_true rfl | exact .int_of rfl | exact LeB.rowsR id id (stepsR_le (by omega)) | exact .ptr rfl (by omega) | exact .osl_of rfl (by omega) rfl | exact .fr rfl | exact LeL.fr rfl | exact .yld rfl (by omega) | exact .eptr rfl (by omega) | exact .osl0 | exact .snil_sl | exact .to_any | exact LeB.fr rfl id id | exact LeB.fr (by simp; done) id id | refine Or.inl ⟨by simp, _, rfl, ?_⟩ | exact Or.inr ⟨by simp, _, _, _, _, rfl⟩ | refine ⟨rfl, rfl, rfl, rfl, rfl, rfl, ?_⟩ | refine ⟨?_, ?_⟩)) (by omega)) (fun k => ?_)
  obtain ⟨k, a, sd, hk, hok, ha0, ha2, hs2⟩ := k
  rcases k with _ | _ | _ | _ | _ | _ | _ | k
  case succ.succ.succ.succ.succ.succ.succ => omega
  case zero =>
    have hxl := chunkW_len b
    (conv => whnf)
    refine ⟨rfl, ⟨by simp, by simp⟩, ?_⟩
    (conv => whnf)
    refine ⟨rfl, _, rfl, ?_⟩
    (conv => whnf)
    refine callV_of (fn := Go.Proofs.Tryz.f63) (body := _) tab_ok mixed rfl rfl (by decide) (by simp [Go.Proofs.Tryz.f63]) ?_
    (conv => whnf)
    refine callV_some (rb := b) (i := 2) (by show b.length ≤ 20000; omega) rfl ⟨.ptr rfl (by omega), trivial⟩ ?_
    cases hsh : shortW b with
    | true =>
      (conv => whnf)
      refine ⟨_, _, _, Ends.here, ?_⟩
      (conv => whnf)
      have he := err_out (k := 0) (v := 300) (by omega) hok (by simp [stepE, hsh]) (by decide)
      exact Ends.pure [] (.tupL ⟨by rw [he.2]; exact LeV.noU, .int_of he.1.symm, trivial⟩) (by simp)
    | false =>
    (conv => whnf)
    refine ⟨_, [], fun h nx _ => pureV_pure (uprefixes_ok fr (chunkW b) (by omega)) ⟨.fr rfl, trivial⟩, by simp, ?_⟩
    (conv => whnf)
    refine ⟨by kernel_rfl, ?_⟩
    (conv => whnf)
    refine callV_pure (fine_ok (allOk (eachB (chunkW b))) 300) ⟨.fr rfl, .fr rfl, trivial⟩ ?_
    cases hall : allOk (eachB (chunkW b)) with
    | false =>
      (conv => whnf)
      refine ⟨_, _, _, Ends.here, ?_⟩
      (conv => whnf)
      have he := err_out (k := 0) (v := 300) (by omega) hok (by simp [stepE, hsh, xB, hall]) (by decide)
      exact Ends.pure [] (.tupL ⟨by rw [he.2]; exact LeV.noU, .int_of he.1.symm, trivial⟩) (by simp)
    | true =>
      (conv => whnf)
      refine ⟨_, _, _, Ends.here, ?_⟩
      (conv => whnf)
      exact ⟨⟨1, a, sd, by omega, okS_succ hok (by simp [stepE, hsh, xB, hall]), fun _ => ha0 (by omega), fun h => by omega, fun h => by omega⟩, (Wk.i (by repeat' (first | exact True.intro | exact id | exact rfl | decide | exact Nat.le_of_ble_eq_true rfl | exact .int_of rfl | exact LeB.rowsR id id (stepsR_le (by omega)) | exact LeV.fnL trivial trivial | exact .ptr rfl (by omega) | exact .osl_of rfl (by omega) rfl | exact .fr rfl | exact LeL.fr rfl | exact .yld rfl (by omega) | exact .eptr rfl (by omega) | exact .osl0 | exact .snil_sl | exact .to_any | exact LeB.fr rfl id id | exact LeB.fr (by simp; done) id id | refine Or.inl ⟨by simp, _, rfl, ?_⟩ | exact Or.inr ⟨by simp, _, _, _, _, rfl⟩ | refine ⟨rfl, rfl, rfl, rfl, rfl, rfl, ?_⟩ | refine ⟨?_, ?_⟩)) (by omega)), by simp⟩
  case succ.zero =>
    have hrl := restW_len b
    have hyl := chunkW_len (restW b)
    (conv => whnf)
    refine ⟨rfl, ⟨by simp, by simp⟩, ?_⟩
    (conv => whnf)
    refine ⟨rfl, _, rfl, ?_⟩
    (conv => whnf)
    refine callV_of (fn := Go.Proofs.Tryz.f66) (body := _) tab_ok mixed rfl rfl (by decide) (by simp [Go.Proofs.Tryz.f66]) ?_
    (conv => whnf)
    refine callV_some (rb := restW b) (i := 2) (by omega) rfl ⟨.ptr rfl (by omega), trivial⟩ ?_
    (conv => whnf)
    refine fun (_ : gd none _) => ?_
    (conv => whnf)
    split
    · rename_i hy
      have hyd := hy
      have hy : 0 < (chunkW (restW b)).length := by have := of_decide_eq_true hy; simp only [List.length_map] at this; omega
      have hyn : yB b ≠ [] := List.length_pos_iff.1 hy
      have hsh : shortW (restW b) = false := by
        cases h : shortW (restW b) with
        | false => rfl
        | true => rw [chunkW, if_pos h] at hy; simp at hy
      (conv => whnf)
      refine ⟨_, [], fun h nx _ => pureV_pure (parse_ok fr (chunkW (restW b)) (by omega)) ⟨.fr rfl, trivial⟩, by simp, ?_⟩
      (conv => whnf)
      refine ⟨by kernel_rfl, ?_⟩
      (conv => whnf)
      refine ⟨_, _, _, Ends.here, ?_⟩
      have hst : stepE b 1 = (parseA (chunkW (restW b)) 0 0 noA).2 := by simp [stepE, hsh, eY, hyn]; simp [yB]
      (conv => whnf)
      split
      · rename_i he0
        have he0 : (parseA (chunkW (restW b)) 0 0 noA).2 ≠ 0 := by simpa using he0
        (conv => whnf)
        have he := err_out (k := 1) (by omega) hok hst he0
        exact Ends.pure [] (.tupL ⟨by rw [he.2]; exact LeV.noU, .int_of he.1.symm, trivial⟩) (by simp)
      · rename_i he0
        have he0 : (parseA (chunkW (restW b)) 0 0 noA).2 = 0 := by simpa using he0
        have ha : aY b = (parseA (chunkW (restW b)) 0 0 noA).1 := by rw [aY, if_neg hyn]; rfl
        have hsd : decide (0 < (yB b).length) = true := decide_eq_true hy
        (conv => whnf)
        exact ⟨⟨2, (parseA (chunkW (restW b)) 0 0 noA).1, true, by omega, okS_succ hok (by rw [hst, he0]), fun h => by omega, fun _ => ha.symm, fun _ => hsd.symm⟩, (Wk.i (by repeat' (first | exact True.intro | exact id | exact rfl | decide | exact Nat.le_of_ble_eq_true rfl | exact .bool_of hyd | exact .int_of rfl | exact LeB.rowsR id id (stepsR_le (by omega)) | exact LeV.fnL trivial trivial | exact .ptr rfl (by omega) | exact .osl_of rfl (by omega) rfl | exact .fr rfl | exact LeL.fr rfl | exact .yld rfl (by omega) | exact .eptr rfl (by omega) | exact .osl0 | exact .snil_sl | exact .to_any | exact LeB.fr rfl id id | exact LeB.fr (by simp; done) id id | refine Or.inl ⟨by simp, _, rfl, ?_⟩ | exact Or.inr ⟨by simp, _, _, _, _, rfl⟩ | refine ⟨rfl, rfl, rfl, rfl, rfl, rfl, ?_⟩ | refine ⟨?_, ?_⟩)) (by omega)), by simp⟩
    · rename_i hy
      have hyd := hy
      have hy : chunkW (restW b) = [] := by have := of_decide_eq_false hy; simp only [List.length_map] at this; exact List.eq_nil_of_length_eq_zero (by omega)
      have hyn : yB b = [] := hy
      (conv => whnf)
      refine callV_pure (fine_ok (!shortW (restW b)) 301) ⟨.fr rfl, .fr rfl, trivial⟩ ?_
      cases hsh : shortW (restW b) with
      | true =>
        (conv => whnf)
        refine ⟨_, _, _, Ends.here, ?_⟩
        (conv => whnf)
        have he := err_out (k := 1) (v := 301) (by omega) hok (by simp [stepE, hsh]) (by decide)
        exact Ends.pure [] (.tupL ⟨by rw [he.2]; exact LeV.noU, .int_of he.1.symm, trivial⟩) (by simp)
      | false =>
        (conv => whnf)
        refine ⟨_, _, _, Ends.here, ?_⟩
        have hst : stepE b 1 = 0 := by simp [stepE, hsh, eY, hyn]
        have ha : aY b = noA := by rw [aY, if_pos hyn]
        have hsd : decide (0 < (yB b).length) = false := by rw [hyn]; rfl
        (conv => whnf)
        exact ⟨⟨2, a, false, by omega, okS_succ hok hst, fun h => by omega, fun _ => (ha0 (by omega)).trans ha.symm, fun _ => hsd.symm⟩, (Wk.i (by repeat' (first | exact True.intro | exact id | exact rfl | decide | exact Nat.le_of_ble_eq_true rfl | exact .bool_of hyd | exact .int_of rfl | exact LeB.rowsR id id (stepsR_le (by omega)) | exact LeV.fnL trivial trivial | exact .ptr rfl (by omega) | exact .osl_of rfl (by omega) rfl | exact .fr rfl | exact LeL.fr rfl | exact .yld rfl (by omega) | exact .eptr rfl (by omega) | exact .osl0 | exact .snil_sl | exact .to_any | exact LeB.fr rfl id id | exact LeB.fr (by simp; done) id id | refine Or.inl ⟨by simp, _, rfl, ?_⟩ | exact Or.inr ⟨by simp, _, _, _, _, rfl⟩ | refine ⟨rfl, rfl, rfl, rfl, rfl, rfl, ?_⟩ | refine ⟨?_, ?_⟩)) (by omega)), by simp⟩
  case succ.succ.zero =>
    have hrl := restW_len b
    have hzl := restW_len (restW b)
    (conv => whnf)
    refine ⟨rfl, ⟨by simp, by simp⟩, ?_⟩
    (conv => whnf)
    refine ⟨rfl, _, rfl, ?_⟩
    (conv => whnf)
    refine callV_of (fn := Go.Proofs.Tryz.f68) (body := _) tab_ok mixed rfl rfl (by decide) (by simp [Go.Proofs.Tryz.f68]) ?_
    (conv => whnf)
    refine callV_pure (uprefixes_ok fr (zB b) (by show (restW (restW b)).length ≤ _; omega)) ⟨.fr rfl, trivial⟩ ?_
    (conv => whnf)
    refine callV_pure (fine_ok (allOk (eachB (zB b))) 302) ⟨.fr rfl, .fr rfl, trivial⟩ ?_
    cases hall : allOk (eachB (zB b)) with
    | false =>
      (conv => whnf)
      refine ⟨_, _, _, Ends.here, ?_⟩
      (conv => whnf)
      have he := err_out (k := 2) (v := 302) (by omega) hok (by simp [stepE, hall]) (by decide)
      exact Ends.pure [] (.tupL ⟨by rw [he.2]; exact LeV.noU, .int_of he.1.symm, trivial⟩) (by simp)
    | true =>
      (conv => whnf)
      refine ⟨_, _, _, Ends.here, ?_⟩
      (conv => whnf)
      exact ⟨⟨3, a, sd, by omega, okS_succ hok (by simp [stepE, hall]), fun h => by omega, fun _ => ha2 (by omega), fun _ => hs2 (by omega)⟩, (Wk.i (by repeat' (first | exact True.intro | exact id | exact rfl | decide | exact Nat.le_of_ble_eq_true rfl | exact .int_of rfl | exact LeB.rowsR id id (stepsR_le (by omega)) | exact LeV.fnL trivial trivial | exact .ptr rfl (by omega) | exact .osl_of rfl (by omega) rfl | exact .fr rfl | exact LeL.fr rfl | exact .yld rfl (by omega) | exact .eptr rfl (by omega) | exact .osl0 | exact .snil_sl | exact .to_any | exact LeB.fr rfl id id | exact LeB.fr (by simp; done) id id | refine Or.inl ⟨by simp, _, rfl, ?_⟩ | exact Or.inr ⟨by simp, _, _, _, _, rfl⟩ | refine ⟨rfl, rfl, rfl, rfl, rfl, rfl, ?_⟩ | refine ⟨?_, ?_⟩)) (by omega)), by simp⟩
  case succ.succ.succ.zero =>
    have hrl := restW_len b
    have hzl := restW_len (restW b)
    have hxl := chunkW_len b
    have l1 := eachB_len (xB b)
    have l2 := eachB_len (zB b)
    have l3 : (xB b).length ≤ 1000 := by unfold xB; omega
    have l4 : (zB b).length ≤ 1000 := by unfold zB; omega
    have c1 := urise_ok true (eachB (xB b)) (by omega)
    have c2 := urise_ok true (eachB (zB b)) (by omega)
    have c3 := uapart_ok true true (eachB (xB b)) (eachB (zB b))
    (conv => whnf)
    refine ⟨rfl, ⟨by simp, by simp⟩, ?_⟩
    (conv => whnf)
    refine ⟨rfl, _, rfl, ?_⟩
    (conv => whnf)
    refine callV_of (fn := Go.Proofs.Tryz.f69) (body := _) tab_ok mixed rfl rfl (by decide) (by simp [Go.Proofs.Tryz.f69]) ?_
    (conv => whnf)
    refine ⟨_, [], fun h nx _ => pureV_pure c1 ⟨.fr rfl, trivial⟩, by simp, ?_⟩
    cases h1 : riseP (eachB (xB b)) with
    | false =>
      (conv => whnf)
      refine ⟨_, [], fun h nx _ => pureV_pure (fine_ok false 303) ⟨.fr rfl, .fr rfl, trivial⟩, by simp, ?_⟩
      (conv => whnf)
      refine ⟨by kernel_rfl, ?_⟩
      (conv => whnf)
      refine ⟨_, _, _, Ends.here, ?_⟩
      (conv => whnf)
      have he := err_out (k := 3) (v := 303) (by omega) hok (by simp [stepE, ordB, h1]) (by decide)
      exact Ends.pure [] (.tupL ⟨by rw [he.2]; exact LeV.noU, .int_of he.1.symm, trivial⟩) (by simp)
    | true =>
    (conv => whnf)
    refine ⟨_, [], fun h nx _ => pureV_pure c2 ⟨.fr rfl, trivial⟩, by simp, ?_⟩
    cases h2 : riseP (eachB (zB b)) with
    | false =>
      (conv => whnf)
      refine ⟨_, [], fun h nx _ => pureV_pure (fine_ok false 303) ⟨.fr rfl, .fr rfl, trivial⟩, by simp, ?_⟩
      (conv => whnf)
      refine ⟨by kernel_rfl, ?_⟩
      (conv => whnf)
      refine ⟨_, _, _, Ends.here, ?_⟩
      (conv => whnf)
      have he := err_out (k := 3) (v := 303) (by omega) hok (by simp [stepE, ordB, h2]) (by decide)
      exact Ends.pure [] (.tupL ⟨by rw [he.2]; exact LeV.noU, .int_of he.1.symm, trivial⟩) (by simp)
    | true =>
    (conv => whnf)
    refine ⟨_, [], fun h nx _ => pureV_pure c3 ⟨.fr rfl, .fr rfl, trivial⟩, by simp, ?_⟩
    cases h3 : apartP (eachB (xB b)) (eachB (zB b)) with
    | false =>
      (conv => whnf)
      refine ⟨_, [], fun h nx _ => pureV_pure (fine_ok false 303) ⟨.fr rfl, .fr rfl, trivial⟩, by simp, ?_⟩
      (conv => whnf)
      refine ⟨by kernel_rfl, ?_⟩
      (conv => whnf)
      refine ⟨_, _, _, Ends.here, ?_⟩
      (conv => whnf)
      have he := err_out (k := 3) (v := 303) (by omega) hok (by simp [stepE, ordB, h3]) (by decide)
      exact Ends.pure [] (.tupL ⟨by rw [he.2]; exact LeV.noU, .int_of he.1.symm, trivial⟩) (by simp)
    | true =>
      (conv => whnf)
      refine ⟨_, [], fun h nx _ => pureV_pure (fine_ok true 303) ⟨.fr rfl, .fr rfl, trivial⟩, by simp, ?_⟩
      (conv => whnf)
      refine ⟨by kernel_rfl, ?_⟩
      (conv => whnf)
      refine ⟨_, _, _, Ends.here, ?_⟩
      (conv => whnf)
      exact ⟨⟨4, a, sd, by omega, okS_succ hok (by simp [stepE, ordB, h1, h2, h3]), fun h => by omega, fun _ => ha2 (by omega), fun _ => hs2 (by omega)⟩, (Wk.i (by repeat' (first | exact True.intro | exact id | exact rfl | decide | exact Nat.le_of_ble_eq_true rfl | exact .int_of rfl | exact LeB.rowsR id id (stepsR_le (by omega)) | exact LeV.fnL trivial trivial | exact .ptr rfl (by omega) | exact .osl_of rfl (by omega) rfl | exact .fr rfl | exact LeL.fr rfl | exact .yld rfl (by omega) | exact .eptr rfl (by omega) | exact .osl0 | exact .snil_sl | exact .to_any | exact LeB.fr rfl id id | exact LeB.fr (by simp; done) id id | refine Or.inl ⟨by simp, _, rfl, ?_⟩ | exact Or.inr ⟨by simp, _, _, _, _, rfl⟩ | refine ⟨rfl, rfl, rfl, rfl, rfl, rfl, ?_⟩ | refine ⟨?_, ?_⟩)) (by omega)), by simp⟩
  case succ.succ.succ.succ.zero =>
    have hs3 := hs2 (by omega)
    (conv => whnf)
    refine ⟨rfl, ⟨by simp, by simp⟩, ?_⟩
    (conv => whnf)
    refine ⟨rfl, _, rfl, ?_⟩
    (conv => whnf)
    refine callV_of (fn := Go.Proofs.Tryz.f70) (body := _) tab_ok mixed rfl rfl (by decide) (by simp [Go.Proofs.Tryz.f70]) ?_
    (conv => whnf)
    refine ⟨_, [], fun h nx _ => pureV_pure (fine_ok (wholeB b) 304) ⟨.bool_of (by simp [hs3, wholeB, rowsP, newK]), .fr rfl, trivial⟩, by simp, ?_⟩
    (conv => whnf)
    refine ⟨by kernel_rfl, ?_⟩
    cases hall : wholeB b with
    | false =>
      (conv => whnf)
      refine ⟨_, _, _, Ends.here, ?_⟩
      (conv => whnf)
      have he := err_out (k := 4) (v := 304) (by omega) hok (by simp [stepE, hall]) (by decide)
      exact Ends.pure [] (.tupL ⟨by rw [he.2]; exact LeV.noU, .int_of he.1.symm, trivial⟩) (by simp)
    | true =>
      (conv => whnf)
      refine ⟨_, _, _, Ends.here, ?_⟩
      (conv => whnf)
      exact ⟨⟨5, a, sd, by omega, okS_succ hok (by simp [stepE, hall]), fun h => by omega, fun _ => ha2 (by omega), fun _ => hs2 (by omega)⟩, (Wk.i (by repeat' (first | exact True.intro | exact id | exact rfl | decide | exact Nat.le_of_ble_eq_true rfl | exact .int_of rfl | exact LeB.rowsR id id (stepsR_le (by omega)) | exact LeV.fnL trivial trivial | exact .ptr rfl (by omega) | exact .osl_of rfl (by omega) rfl | exact .fr rfl | exact LeL.fr rfl | exact .yld rfl (by omega) | exact .eptr rfl (by omega) | exact .osl0 | exact .snil_sl | exact .to_any | exact LeB.fr rfl id id | exact LeB.fr (by simp; done) id id | refine Or.inl ⟨by simp, _, rfl, ?_⟩ | exact Or.inr ⟨by simp, _, _, _, _, rfl⟩ | refine ⟨rfl, rfl, rfl, rfl, rfl, rfl, ?_⟩ | refine ⟨?_, ?_⟩)) (by omega)), by simp⟩
  case succ.succ.succ.succ.succ.zero =>
    (conv => whnf)
    refine ⟨rfl, ⟨by simp, by simp⟩, ?_⟩
    (conv => whnf)
    refine ⟨rfl, _, rfl, ?_⟩
    (conv => whnf)
    refine callV_of (fn := Go.Proofs.Tryz.f71) (body := _) tab_ok mixed rfl rfl (by decide) (by simp [Go.Proofs.Tryz.f71]) ?_
    (conv => whnf)
    refine fun (_ : gd none _) => ?_
    (conv => whnf)
    refine callV_pure (fine_ok (decide (b.length ≤ 493)) 3) ⟨.bool_of (by simp; omega), .fr rfl, trivial⟩ ?_
    cases hall : decide (b.length ≤ 493) with
    | false =>
      (conv => whnf)
      refine ⟨_, _, _, Ends.here, ?_⟩
      (conv => whnf)
      have he := err_out (k := 5) (v := 3) (by omega) hok (by simp only [stepE]; rw [if_neg (by simpa using hall)]) (by decide)
      exact Ends.pure [] (.tupL ⟨by rw [he.2]; exact LeV.noU, .int_of he.1.symm, trivial⟩) (by simp)
    | true =>
      (conv => whnf)
      refine ⟨_, _, _, Ends.here, ?_⟩
      (conv => whnf)
      exact ⟨⟨6, a, sd, by omega, okS_succ hok (by simp only [stepE]; rw [if_pos (by simpa using hall)]), fun h => by omega, fun _ => ha2 (by omega), fun _ => hs2 (by omega)⟩, (Wk.i (by repeat' (first | exact True.intro | exact id | exact rfl | decide | exact Nat.le_of_ble_eq_true rfl | exact .int_of rfl | exact LeB.rowsR id id (stepsR_le (by omega)) | exact LeV.fnL trivial trivial | exact .ptr rfl (by omega) | exact .osl_of rfl (by omega) rfl | exact .fr rfl | exact LeL.fr rfl | exact .yld rfl (by omega) | exact .eptr rfl (by omega) | exact .osl0 | exact .snil_sl | exact .to_any | exact LeB.fr rfl id id | exact LeB.fr (by simp; done) id id | refine Or.inl ⟨by simp, _, rfl, ?_⟩ | exact Or.inr ⟨by simp, _, _, _, _, rfl⟩ | refine ⟨rfl, rfl, rfl, rfl, rfl, rfl, ?_⟩ | refine ⟨?_, ?_⟩)) (by omega)), by simp⟩
  case succ.succ.succ.succ.succ.succ.zero =>
    have he := err_none hok
    have hu : updB b = ⟨eachB (xB b), eachB (zB b), a⟩ := by rw [updB, if_pos he, ha2 (by omega)]
    (conv => whnf)
    exact Ends.pure [] (.tupL ⟨by rw [hu]; exact .fr rfl, .int_of he.symm, trivial⟩) (by simp)
end Go.Proofs.YtehhligadnlijaaGreatDoor
set_option linter.unusedVariables false
set_option linter.unusedSimpArgs false
namespace Go.Proofs.YtehhligadnlijaaGreatDoor
open Go.RowKit
open Go.Proofs.Tryz (prog)
attribute [local irreducible] CallV RoundV aggK
theorem wholeB_iff {b : List UInt8} : wholeB b = true ↔ (0 < (yB b).length ↔ 0 < (eachB (zB b)).length) := by
  unfold wholeB
  rw [beq_iff_eq, decide_eq_decide]
end Go.Proofs.YtehhligadnlijaaGreatDoor
set_option linter.unusedVariables false
set_option linter.unusedSimpArgs false
namespace Go.Proofs.YtehhligadnlijaaGreatDoor
open Go.RowKit
open Go.Proofs.Tryz (prog)
theorem index_one : ∀ {a r : List UInt8} {c : UInt8}, c ∉ a → Lib.index (a ++ c :: r) [c] = (a.length : Int)
  | [], r, c, _ => by simp [Lib.index, List.isPrefixOf]
  | x :: a, r, c, h => by
    have h1 : c ≠ x := fun e => h (by simp [e])
    have h2 : c ∉ a := fun e => h (by simp [e])
    have ih := index_one (r := r) h2
    rw [List.cons_append, Lib.index, ih, if_neg (by simp [List.isPrefixOf, h1]), if_neg (by simp)]
    simp
theorem index_miss : ∀ {a : List UInt8} {c : UInt8}, c ∉ a → Lib.index a [c] = -1
  | [], c, _ => rfl
  | x :: a, c, h => by
    have h1 : c ≠ x := fun e => h (by simp [e])
    have h2 : c ∉ a := fun e => h (by simp [e])
    rw [Lib.index, index_miss h2, if_neg (by simp [List.isPrefixOf, h1]), if_pos (by decide)]
theorem cut_one {a r : List UInt8} {c : UInt8} (h : c ∉ a) : Lib.cut (a ++ c :: r) [c] = (a, r, true) := by
  rw [Lib.cut, index_one h, if_pos (by omega), Int.toNat_natCast]
  simp
theorem count_one {a r : List UInt8} {c : UInt8} (h : c ∉ a) : Lib.count (a ++ c :: r) [c] = 1 + Lib.count r [c] := by
  rw [Lib.count_hit (by simp) (index_one h)]
  simp
theorem count_none {a : List UInt8} {c : UInt8} (h : c ∉ a) : Lib.count a [c] = 0 := Lib.count_miss (index_miss h)
theorem splitK_one {a r : List UInt8} {c : UInt8} {k : Nat} (h : c ∉ a) : Lib.splitK [c] 0 (k + 1) (a ++ c :: r) = a :: Lib.splitK [c] 0 k r := by
  have hi := index_one (r := r) h
  rw [Lib.splitK, if_neg (by rw [hi]; simp), hi, Int.toNat_natCast]
  simp
theorem itoa_dig : ∀ n : Nat, n < 256 → ((Lib.itoa n).all fun c => decide (48 ≤ c.toNat ∧ c.toNat ≤ 57)) = true := by decide +kernel
theorem itoa_parse : ∀ n : Nat, n < 256 → (match Lib.parseUintB 8 (Lib.itoa n) with | .ok u => u == n | _ => false) = true := by decide +kernel
def digS (k : Nat) (c : UInt8) : Nat := min (10 * k + (c.toNat - 48)) 1000
theorem itoa_fold : ∀ n : Nat, n < 256 → (Lib.itoa n).foldl digS 0 = n := by decide +kernel
theorem itoa_not (x : UInt8) {c : UInt8} (h : c = 46 ∨ c = 47) : c ∉ Lib.itoa (x.toNat : Int) := fun hm => by
  have := List.all_eq_true.1 (itoa_dig x.toNat x.toNat_lt) c hm
  simp only [decide_eq_true_eq] at this
  rcases h with rfl | rfl <;> simp at this
def puN (s : List UInt8) : Option UInt8 := match Lib.parseUintB 8 s with | .ok u => some (UInt8.ofNat u) | _ => none
theorem puN_itoa (x : UInt8) : puN (Lib.itoa (x.toNat : Int)) = some x := by
  have := itoa_parse x.toNat x.toNat_lt
  unfold puN
  split at this
  · rename_i u h
    simp at this
    subst this
    simp
  · cases this
theorem parseM_lt {M : Nat} : ∀ {s : List UInt8} {acc u : Nat}, acc ≤ M → Lib.parseUintM M acc s = .ok u → u ≤ M
  | [], acc, u, ha, h => by
    rw [Lib.parseUintM] at h
    cases h; exact ha
  | c :: r, acc, u, ha, h => by
    rw [Lib.parseUintM] at h
    split at h
    · split at h
      · cases h
      · split at h
        · cases h
        · exact parseM_lt (by omega) h
    · cases h
theorem parse8_lt {s : List UInt8} {u : Nat} (h : Lib.parseUintB 8 s = .ok u) : u < 256 := by
  unfold Lib.parseUintB at h
  split at h
  · cases h
  · have := parseM_lt (by omega) h
    omega
def fromL (l : List UInt8) : ByteArray := ⟨l.toArray⟩
def piecesU (s : ByteArray) : List ByteArray := splitS (fromL (Lib.cut s.data.toList [47]).1) ⟨#[46]⟩
def addrU (l : List ByteArray) : Option UInt32 := l.foldl (fun acc x => match acc, puN x.data.toList with | some a, some u => some (a * 256 + u.toUInt32) | _, _ => none) (some 0)
theorem addrU_none : ∀ l : List ByteArray, l.foldl (fun acc x => match acc, puN x.data.toList with | some a, some u => some (a * 256 + u.toUInt32) | _, _ => none) (none : Option UInt32) = none
  | [] => rfl
  | x :: l => by rw [List.foldl_cons]; exact addrU_none l
theorem addrU_succ {l : List ByteArray} {i : Nat} {a : UInt32} {u : UInt8} (h : i < l.length) (ha : addrU (l.take i) = some a) (hu : puN l[i].data.toList = some u) : addrU (l.take (i + 1)) = some (a * 256 + u.toUInt32) := by
  rw [List.take_succ_eq_append_getElem h, addrU, List.foldl_append]
  rw [addrU] at ha
  rw [ha]
  simp [hu]
theorem addrU_fail {l : List ByteArray} {i : Nat} {a : UInt32} (h : i < l.length) (ha : addrU (l.take i) = some a) (hu : puN l[i].data.toList = none) : addrU l = none := by
  conv => lhs; rw [← List.take_append_drop (i + 1) l]
  rw [List.take_succ_eq_append_getElem h, addrU, List.foldl_append, List.foldl_append]
  rw [addrU] at ha
  rw [ha]
  simp only [List.foldl_cons, List.foldl_nil, hu]
  exact addrU_none _
def isText (p : Prefix) (s : ByteArray) : Bool := prefOk p && decide (bytesS (textB p) = s)
def ofU (s : ByteArray) : Prefix × Int :=
  match addrU (piecesU s), puN (Lib.cut s.data.toList [47]).2.1 with
  | some a, some u => if isText ⟨a, u⟩ s then (⟨a, u⟩, 0) else (⟨0, 0⟩, 305)
  | _, _ => (⟨0, 0⟩, 305)
def chS (st : List Nat × Nat) (c : UInt8) : List Nat × Nat := if 48 ≤ c.toNat ∧ c.toNat ≤ 57 then (st.1, digS st.2 c) else (st.1 ++ [st.2], 0)
def scanR (s : List UInt8) : List Nat × Nat := s.foldl chS ([], 0)
def numsR (s : List UInt8) : List Nat := (scanR s).1 ++ [(scanR s).2]
def decP (s : ByteArray) : Prefix := match numsR (s.data.toList.take 40) with
  | [a, b, c, d, e] => ⟨UInt32.ofNat (a * 16777216 + b * 65536 + c * 256 + d), UInt8.ofNat e⟩
  | _ => ⟨0, 0⟩
def ofP (s : ByteArray) : Prefix × Int := if isText (decP s) s then (decP s, 0) else (⟨0, 0⟩, 305)
theorem fold_dig : ∀ (ds : List UInt8) (l : List Nat) (k : Nat), (ds.all fun c => decide (48 ≤ c.toNat ∧ c.toNat ≤ 57)) = true → ds.foldl chS (l, k) = (l, ds.foldl digS k)
  | [], l, k, _ => rfl
  | c :: ds, l, k, h => by
    simp only [List.all_cons, Bool.and_eq_true, decide_eq_true_eq] at h
    rw [List.foldl_cons, chS, if_pos h.1, fold_dig ds l _ h.2, List.foldl_cons]
theorem fold_itoa (x : UInt8) (l : List Nat) : (Lib.itoa (x.toNat : Int)).foldl chS (l, 0) = (l, x.toNat) := by
  rw [fold_dig _ _ _ (itoa_dig x.toNat x.toNat_lt), itoa_fold x.toNat x.toNat_lt]
theorem text_is {p : Prefix} (h : prefOk p = true) : textB p = dot4 p ++ [47] ++ Lib.itoa (p.len.toNat : Int) := by rw [textB, if_pos h]
theorem nums_text {p : Prefix} (h : prefOk p = true) : numsR (textB p) = [((p.addr >>> 24).toUInt8).toNat, ((p.addr >>> 16).toUInt8).toNat, ((p.addr >>> 8).toUInt8).toNat, p.addr.toUInt8.toNat, p.len.toNat] := by
  have hs : ∀ (l : List Nat) (k : Nat) (c : UInt8), c = 46 ∨ c = 47 → chS (l, k) c = (l ++ [k], 0) := by
    intro l k c hc
    rw [chS, if_neg (by rcases hc with rfl | rfl <;> decide)]
  rw [numsR, scanR, text_is h, dot4, dot3, dot2, dot1]
  simp only [List.foldl_append, List.foldl_cons, List.foldl_nil, fold_itoa, hs _ _ 46 (.inl rfl), hs _ _ 47 (.inr rfl)]
  rfl
theorem text_len (p : Prefix) : (textB p).length ≤ 19 := by
  have := (dot_len p).2.2.2
  have := itoa_lenB p.len
  unfold textB
  split
  · simp only [List.length_append, List.length_cons, List.length_nil]; omega
  · simp
theorem four_join (x : UInt32) : UInt32.ofNat (((x >>> 24).toUInt8).toNat * 16777216 + ((x >>> 16).toUInt8).toNat * 65536 + ((x >>> 8).toUInt8).toNat * 256 + x.toUInt8.toNat) = x := by
  have hx := x.toNat_lt
  apply UInt32.toNat_inj.1
  simp [UInt32.toNat_shiftRight, Nat.shiftRight_eq_div_pow]
  omega
theorem dec_text {p : Prefix} (h : prefOk p = true) : decP (bytesS (textB p)) = p := by
  rw [decP, show (bytesS (textB p)).data.toList = textB p by simp [bytesS], List.take_of_length_le (by have := text_len p; omega), nums_text h]
  simp only
  rw [four_join]
  simp
theorem isText_out {p : Prefix} {s : ByteArray} (h : isText p s = true) : prefOk p = true ∧ bytesS (textB p) = s := by
  simpa [isText] using h
theorem dec_is {p : Prefix} {s : ByteArray} (h : isText p s = true) : decP s = p := by
  obtain ⟨h1, rfl⟩ := isText_out h
  exact dec_text h1
theorem ofP_yes {p : Prefix} {s : ByteArray} (h : isText p s = true) : ofP s = (p, 0) := by
  rw [ofP, dec_is h, if_pos h]
theorem ofP_no {s : ByteArray} (h : ∀ p, isText p s = false) : ofP s = (⟨0, 0⟩, 305) := by
  rw [ofP, if_neg (by simp [h])]
theorem dot_not (p : Prefix) : (47 : UInt8) ∉ dot4 p := by
  have hi : ∀ x : UInt8, (47 : UInt8) ∉ Lib.itoa (x.toNat : Int) := fun x => itoa_not x (.inr rfl)
  rw [dot4, dot3, dot2, dot1]
  simp only [List.mem_append, not_or, List.mem_singleton]
  repeat' apply And.intro
  all_goals first | exact hi _ | decide
theorem ba_eq {a b : ByteArray} (h : a.data.toList = b.data.toList) : a = b := by
  obtain ⟨⟨a⟩⟩ := a
  obtain ⟨⟨b⟩⟩ := b
  simp at h
  rw [h]
theorem ba_map : ∀ {l m : List ByteArray}, l.map (·.data.toList) = m.map (·.data.toList) → l = m
  | [], [], _ => rfl
  | a :: l, b :: m, h => by
    simp only [List.map_cons, List.cons.injEq] at h
    rw [ba_eq h.1, ba_map h.2]
  | [], b :: m, h => by simp at h
  | a :: l, [], h => by simp at h
theorem pieces_text {p : Prefix} (h : prefOk p = true) : piecesU (bytesS (textB p)) = numS p ∧ (Lib.cut (bytesS (textB p)).data.toList [47]).2.1 = Lib.itoa (p.len.toNat : Int) := by
  have hc : Lib.cut (bytesS (textB p)).data.toList [47] = (dot4 p, Lib.itoa (p.len.toNat : Int), true) := by
    rw [show (bytesS (textB p)).data.toList = dot4 p ++ 47 :: Lib.itoa (p.len.toNat : Int) by simp [bytesS, text_is h]]
    exact cut_one (dot_not p)
  refine ⟨?_, by rw [hc]⟩
  have hi : ∀ x : UInt8, (46 : UInt8) ∉ Lib.itoa (x.toNat : Int) := fun x => itoa_not x (.inl rfl)
  have hd : dot4 p = Lib.itoa (((p.addr >>> 24).toUInt8).toNat : Int) ++ (46 : UInt8) :: (Lib.itoa (((p.addr >>> 16).toUInt8).toNat : Int) ++ (46 : UInt8) :: (Lib.itoa (((p.addr >>> 8).toUInt8).toNat : Int) ++ (46 : UInt8) :: Lib.itoa ((p.addr.toUInt8).toNat : Int))) := by
    simp [dot4, dot3, dot2, dot1]
  have hn : Lib.count (dot4 p) [46] = 3 := by
    rw [hd, count_one (hi _), count_one (hi _), count_one (hi _), count_none (hi _)]
  apply ba_map
  rw [piecesU, hc, splitS, Lib.splitB_data]
  show Lib.splitK [46] 0 (Lib.count (fromL (dot4 p)).data.toList [46]) (fromL (dot4 p)).data.toList = _
  rw [show (fromL (dot4 p)).data.toList = dot4 p by simp [fromL], hn, hd, splitK_one (hi _), splitK_one (hi _), splitK_one (hi _)]
  simp [Lib.splitK, numS, fourB, bytesS]
theorem addr_text (p : Prefix) : addrU (numS p) = some p.addr := by
  have hj := four_join p.addr
  simp only [addrU, numS, fourB, bytesS, List.map_cons, List.map_nil, List.foldl_cons, List.foldl_nil, List.toList_toArray, puN_itoa]
  congr 1
  apply UInt32.toNat_inj.1
  have hx := p.addr.toNat_lt
  simp [UInt32.toNat_shiftRight, Nat.shiftRight_eq_div_pow, UInt32.toNat_add, UInt32.toNat_mul]
  omega
theorem ofU_eq (s : ByteArray) : ofU s = ofP s := by
  unfold ofU
  by_cases h : isText (decP s) s = true
  · obtain ⟨h1, h2⟩ := isText_out h
    rw [ofP_yes h]
    obtain ⟨q1, q2⟩ := pieces_text h1
    rw [h2] at q1 q2
    rw [q1, q2, addr_text, puN_itoa]
    simp only
    rw [if_pos h]
  · have hno : ∀ p, isText p s = false := fun p => by
      cases hp : isText p s with
      | false => rfl
      | true => rw [dec_is hp] at h; exact absurd hp h
    rw [ofP_no hno]
    split
    · rw [if_neg (by simp [hno])]
    · rfl
end Go.Proofs.YtehhligadnlijaaGreatDoor
set_option linter.unusedVariables false
set_option linter.unusedSimpArgs false
namespace Go.Proofs.YtehhligadnlijaaGreatDoor
open Go.RowKit
open Go.Proofs.Tryz (prog)
attribute [local irreducible] CallV RoundV aggK
instance {fr l} : FreeI (encS fr l) := ⟨⟨encS_free fr l⟩⟩
instance {l} : FreeRI (rowsS l) := ⟨⟨rowsS_free l⟩⟩
theorem cut_len (s sep : List UInt8) : (Lib.cut s sep).1.length ≤ s.length ∧ (Lib.cut s sep).2.1.length ≤ s.length := by
  unfold Lib.cut
  split
  · simp only [List.length_take, List.length_drop]; omega
  · simp
theorem fromL_size (l : List UInt8) : (fromL l).size = l.length := by simp [fromL, ByteArray.size]
theorem split_size (sep : ByteArray) : ∀ (k : Nat) (s : ByteArray), ∀ x ∈ Lib.splitB sep 0 k s, x.size ≤ s.size
  | 0, s, x, hx => by
    rw [Lib.splitB] at hx
    obtain rfl := List.mem_singleton.1 hx
    exact Nat.le_refl _
  | k + 1, s, x, hx => by
    rw [Lib.splitB] at hx
    split at hx
    · obtain rfl := List.mem_singleton.1 hx
      exact Nat.le_refl _
    · rcases List.mem_cons.1 hx with rfl | hx
      · rw [ByteArray.size_extract]; omega
      · have := split_size sep k _ x hx
        rw [ByteArray.size_extract] at this
        omega
def encO (r : Prefix × Int) : V := .tup [encP r.1, .int .i64 r.2]
theorem pu_some {s : ByteArray} {u : Nat} (h : Lib.parseUintB 8 s.data.toList = .ok u) : puN s.data.toList = some (UInt8.ofNat u) ∧ ((UInt8.ofNat u).toNat : Int) = u := by
  have := parse8_lt h
  refine ⟨by rw [puN, h], ?_⟩
  simp
  omega
theorem ofU_none1 {s : ByteArray} (h : addrU (piecesU s) = none) : ofP s = (⟨0, 0⟩, 305) := by
  rw [← ofU_eq, ofU, h]
theorem ofU_none2 {s : ByteArray} (h : puN (Lib.cut s.data.toList [47]).2.1 = none) : ofP s = (⟨0, 0⟩, 305) := by
  rw [← ofU_eq, ofU, h]
  split
  · rename_i e; cases e
  · rfl
theorem ofU_some {s : ByteArray} {a : UInt32} {u : UInt8} (h : addrU (piecesU s) = some a) (h2 : puN (Lib.cut s.data.toList [47]).2.1 = some u) : ofP s = if isText ⟨a, u⟩ s then (⟨a, u⟩, 0) else (⟨0, 0⟩, 305) := by
  rw [← ofU_eq, ofU, h, h2]
structure Od (l : List ByteArray) where
  i : Nat
  a : UInt32
  le : i ≤ l.length
  law : addrU (l.take i) = some a
set_option maxRecDepth 100000 in
set_option maxHeartbeats 8000000 in
theorem uof_ok (s : ByteArray) (hs : s.size ≤ 1000) : PCon prog 19 [.str s] (encO (ofP s)) := by
  have hl : s.data.toList.length ≤ 1000 := by rw [Array.length_toList]; exact hs
  obtain ⟨k1, k2⟩ := cut_len s.data.toList [47]
  have hz1 := fromL_size (Lib.cut s.data.toList [47]).1
  have hz2 := fromL_size (Lib.cut s.data.toList [47]).2.1
  have hcnt := Lib.countB_le ⟨#[46]⟩ (by decide) _ (fromL (Lib.cut s.data.toList [47]).1) (Nat.le_refl _)
  have hall := Lib.splitB_all ⟨#[46]⟩ (by decide) 0 _ (fromL (Lib.cut s.data.toList [47]).1) rfl
  have csplit := split_ok (fromL (Lib.cut s.data.toList [47]).1) ⟨#[46]⟩ (by omega) (by decide) hall (by unfold maxLen; omega)
  have hpl : (piecesU s).length ≤ 2000 := by show (splitS _ _).length ≤ _; rw [splitS, hall]; omega
  have hps : ∀ x ∈ piecesU s, x.size ≤ 281474976710656 := fun x hx => by
    have := split_size ⟨#[46]⟩ _ (fromL (Lib.cut s.data.toList [47]).1) x hx
    omega
  refine callV_of (fn := Go.Proofs.Tryz.f19) (body := _) tab_ok mixed rfl rfl (by decide) (by simp [Go.Proofs.Tryz.f19]) ?_
  (conv => whnf)
  refine callV_pure (cut_ok s ⟨#[47]⟩ (by omega)) ⟨.fr rfl, .fr rfl, trivial⟩ ?_
  (conv => whnf)
  refine callV_pure csplit ⟨.fr rfl, .fr rfl, trivial⟩ ?_
  (conv => whnf)
  intro _
  (conv => whnf)
  refine vcg_loop tab_ok mixed (fun k : Od (piecesU s) => ⟨[(0, .str s), (2, .ptr 0 0), (5, .str (fromL (Lib.cut s.data.toList [47]).2.1)), (7, .ptr 1 0), (21, encS true (piecesU s)), (22, cI (piecesU s).length), (23, cI k.i)], [(0, some (.var true 24 [.int .u32 0, .int .u8 0])), (1, some (.var true 24 [cW k.a, .int .u8 0]))], 2⟩) (fun k => (piecesU s).length - k.i) ⟨0, 0, by omega, rfl⟩ (Wk.i (by repeat' (first | exact True.intro | exact id | exact rfl | decide | exact Nat.le_of_ble_eq_true rfl | exact .int_of rfl | exact .int_of (by simp [piecesU]) | exact .ptr rfl (by omega) | exact .osl_of rfl (by omega) rfl | exact .fr rfl | exact LeL.fr rfl | exact .yld rfl (by omega) | exact .eptr rfl (by omega) | exact .osl0 | exact .snil_sl | exact .to_any | exact LeB.fr rfl id id | exact LeB.fr (by simp; done) id id | refine Or.inl ⟨by simp, _, rfl, ?_⟩ | exact Or.inr ⟨by simp, _, _, _, _, rfl⟩ | refine ⟨rfl, rfl, rfl, rfl, rfl, rfl, ?_⟩ | refine ⟨?_, ?_⟩)) (by omega)) (fun k => ?_)
  obtain ⟨i, a, hi, hlaw⟩ := k
  (conv => whnf)
  split
  · rename_i hc
    have hc : i < (piecesU s).length := by have := of_decide_eq_true hc; simp only at this; omega
    have hpi := parseU_ok (piecesU s)[i] (hps _ (List.getElem_mem hc))
    (conv => whnf)
    refine ⟨rfl, _, ⟨by first | omega | (simp only; omega), idxS hc⟩, ?_⟩
    (conv => whnf)
    cases hp : Lib.parseUintB 8 (piecesU s)[i].data.toList with
    | ok u =>
      rw [puV, hp] at hpi
      obtain ⟨q1, q2⟩ := pu_some hp
      simp only [← q2] at hpi
      refine callV_pure hpi ⟨.fr rfl, .fr rfl, .fr rfl, trivial⟩ ?_
      (conv => whnf)
      refine ⟨by decide, ?_⟩
      (conv => whnf)
      exact ⟨⟨i + 1, _, by omega, addrU_succ hc hlaw q1⟩, (Wk.i (by repeat' (first | exact True.intro | exact id | exact rfl | decide | exact Nat.le_of_ble_eq_true rfl | exact .int_of (shl_or _ _) | exact .int_of (wrap64_succ hc (by unfold maxLen; omega)) | exact .ptr rfl (by omega) | exact .osl_of rfl (by omega) rfl | exact .fr rfl | exact LeL.fr rfl | exact .yld rfl (by omega) | exact .eptr rfl (by omega) | exact .osl0 | exact .snil_sl | exact .to_any | exact LeB.fr rfl id id | exact LeB.fr (by simp; done) id id | refine Or.inl ⟨by simp, _, rfl, ?_⟩ | exact Or.inr ⟨by simp, _, _, _, _, rfl⟩ | refine ⟨rfl, rfl, rfl, rfl, rfl, rfl, ?_⟩ | refine ⟨?_, ?_⟩)) (by omega)), by simp only; omega⟩
    | range =>
      rw [puV, hp] at hpi
      have hno : ofP s = (⟨0, 0⟩, 305) := ofU_none1 (addrU_fail hc hlaw (by rw [puN, hp]))
      refine callV_pure hpi ⟨.fr rfl, .fr rfl, .fr rfl, trivial⟩ ?_
      (conv => whnf)
      rw [hno]
      exact (Ends.pure [] (by first | exact .tupL ⟨.fr rfl, .fr rfl, trivial⟩ | exact .ptr rfl (by omega) | exact .osl_of rfl (by omega) rfl | exact .fr rfl | exact LeL.fr rfl | exact .yld rfl (by omega) | exact .eptr rfl (by omega) | exact .osl0 | exact .snil_sl | exact .to_any | (refine .tupL ?_; repeat' (first | exact True.intro | exact .tupL ⟨.fr rfl, .fr rfl, trivial⟩ | exact .ptr rfl (by omega) | exact .osl_of rfl (by omega) rfl | exact .fr rfl | exact LeL.fr rfl | exact .yld rfl (by omega) | exact .eptr rfl (by omega) | exact .osl0 | exact .snil_sl | exact .to_any | refine .aggL ?_ | refine ⟨?_, ?_⟩)) | (refine .aggL ?_; repeat' (first | exact True.intro | exact .tupL ⟨.fr rfl, .fr rfl, trivial⟩ | exact .ptr rfl (by omega) | exact .osl_of rfl (by omega) rfl | exact .fr rfl | exact LeL.fr rfl | exact .yld rfl (by omega) | exact .eptr rfl (by omega) | exact .osl0 | exact .snil_sl | exact .to_any | refine ⟨?_, ?_⟩))) (by simp))
    | _ =>
      rw [puV, hp] at hpi
      have hno : ofP s = (⟨0, 0⟩, 305) := ofU_none1 (addrU_fail hc hlaw (by rw [puN, hp]))
      refine callV_pure hpi ⟨.fr rfl, .fr rfl, .fr rfl, trivial⟩ ?_
      (conv => whnf)
      rw [hno]
      exact (Ends.pure [] (by first | exact .tupL ⟨.fr rfl, .fr rfl, trivial⟩ | exact .ptr rfl (by omega) | exact .osl_of rfl (by omega) rfl | exact .fr rfl | exact LeL.fr rfl | exact .yld rfl (by omega) | exact .eptr rfl (by omega) | exact .osl0 | exact .snil_sl | exact .to_any | (refine .tupL ?_; repeat' (first | exact True.intro | exact .tupL ⟨.fr rfl, .fr rfl, trivial⟩ | exact .ptr rfl (by omega) | exact .osl_of rfl (by omega) rfl | exact .fr rfl | exact LeL.fr rfl | exact .yld rfl (by omega) | exact .eptr rfl (by omega) | exact .osl0 | exact .snil_sl | exact .to_any | refine .aggL ?_ | refine ⟨?_, ?_⟩)) | (refine .aggL ?_; repeat' (first | exact True.intro | exact .tupL ⟨.fr rfl, .fr rfl, trivial⟩ | exact .ptr rfl (by omega) | exact .osl_of rfl (by omega) rfl | exact .fr rfl | exact LeL.fr rfl | exact .yld rfl (by omega) | exact .eptr rfl (by omega) | exact .osl0 | exact .snil_sl | exact .to_any | refine ⟨?_, ?_⟩))) (by simp))
  rename_i hc
  have hc : i = (piecesU s).length := by have := of_decide_eq_false hc; simp only at this; omega
  subst hc
  rw [List.take_length] at hlaw
  have hpl2 := parseU_ok (fromL (Lib.cut s.data.toList [47]).2.1) (by omega)
  have e2 : (fromL (Lib.cut s.data.toList [47]).2.1).data.toList = (Lib.cut s.data.toList [47]).2.1 := by simp [fromL]
  rw [puV, e2] at hpl2
  (conv => whnf)
  cases hp : Lib.parseUintB 8 (Lib.cut s.data.toList [47]).2.1 with
  | range =>
    rw [hp] at hpl2
    have hno : ofP s = (⟨0, 0⟩, 305) := ofU_none2 (by rw [puN, hp])
    refine callV_pure hpl2 ⟨.fr rfl, .fr rfl, .fr rfl, trivial⟩ ?_
    (conv => whnf)
    rw [hno]
    exact (Ends.pure [] (by first | exact .tupL ⟨.fr rfl, .fr rfl, trivial⟩ | exact .ptr rfl (by omega) | exact .osl_of rfl (by omega) rfl | exact .fr rfl | exact LeL.fr rfl | exact .yld rfl (by omega) | exact .eptr rfl (by omega) | exact .osl0 | exact .snil_sl | exact .to_any | (refine .tupL ?_; repeat' (first | exact True.intro | exact .tupL ⟨.fr rfl, .fr rfl, trivial⟩ | exact .ptr rfl (by omega) | exact .osl_of rfl (by omega) rfl | exact .fr rfl | exact LeL.fr rfl | exact .yld rfl (by omega) | exact .eptr rfl (by omega) | exact .osl0 | exact .snil_sl | exact .to_any | refine .aggL ?_ | refine ⟨?_, ?_⟩)) | (refine .aggL ?_; repeat' (first | exact True.intro | exact .tupL ⟨.fr rfl, .fr rfl, trivial⟩ | exact .ptr rfl (by omega) | exact .osl_of rfl (by omega) rfl | exact .fr rfl | exact LeL.fr rfl | exact .yld rfl (by omega) | exact .eptr rfl (by omega) | exact .osl0 | exact .snil_sl | exact .to_any | refine ⟨?_, ?_⟩))) (by simp))
  | ok u =>
    rw [hp] at hpl2
    have h2 := parse8_lt hp
    have hu : puN (Lib.cut s.data.toList [47]).2.1 = some (UInt8.ofNat u) := by rw [puN, hp]
    have hq : ((UInt8.ofNat u).toNat : Int) = u := by simp; omega
    have hw : IntKind.u8.wrap (u : Int) = ((UInt8.ofNat u).toNat : Int) := by rw [wrap8, hq]; omega
    have hof := ofU_some hlaw hu
    refine callV_pure hpl2 ⟨.fr rfl, .fr rfl, .fr rfl, trivial⟩ ?_
    (conv => whnf)
    simp only [hw]
    refine callV_pure (uRight_ok ⟨a, UInt8.ofNat u⟩) ⟨.fr rfl, trivial⟩ ?_
    cases hr : prefOk ⟨a, UInt8.ofNat u⟩ with
    | false =>
      rw [if_neg (by simp [isText, hr])] at hof
      (conv => whnf)
      rw [hof]
      exact (Ends.pure [] (by first | exact .tupL ⟨.fr rfl, .fr rfl, trivial⟩ | exact .ptr rfl (by omega) | exact .osl_of rfl (by omega) rfl | exact .fr rfl | exact LeL.fr rfl | exact .yld rfl (by omega) | exact .eptr rfl (by omega) | exact .osl0 | exact .snil_sl | exact .to_any | (refine .tupL ?_; repeat' (first | exact True.intro | exact .tupL ⟨.fr rfl, .fr rfl, trivial⟩ | exact .ptr rfl (by omega) | exact .osl_of rfl (by omega) rfl | exact .fr rfl | exact LeL.fr rfl | exact .yld rfl (by omega) | exact .eptr rfl (by omega) | exact .osl0 | exact .snil_sl | exact .to_any | refine .aggL ?_ | refine ⟨?_, ?_⟩)) | (refine .aggL ?_; repeat' (first | exact True.intro | exact .tupL ⟨.fr rfl, .fr rfl, trivial⟩ | exact .ptr rfl (by omega) | exact .osl_of rfl (by omega) rfl | exact .fr rfl | exact LeL.fr rfl | exact .yld rfl (by omega) | exact .eptr rfl (by omega) | exact .osl0 | exact .snil_sl | exact .to_any | refine ⟨?_, ?_⟩))) (by simp))
    | true =>
    (conv => whnf)
    refine callV_pure (uText_ok ⟨a, UInt8.ofNat u⟩) ⟨.fr rfl, trivial⟩ ?_
    (conv => whnf)
    split
    · rename_i ht
      rw [if_neg (by simp only [isText, hr, Bool.true_and, decide_eq_true_eq]; intro e; rw [e] at ht; simp at ht)] at hof
      (conv => whnf)
      rw [hof]
      exact (Ends.pure [] (by first | exact .tupL ⟨.fr rfl, .fr rfl, trivial⟩ | exact .ptr rfl (by omega) | exact .osl_of rfl (by omega) rfl | exact .fr rfl | exact LeL.fr rfl | exact .yld rfl (by omega) | exact .eptr rfl (by omega) | exact .osl0 | exact .snil_sl | exact .to_any | (refine .tupL ?_; repeat' (first | exact True.intro | exact .tupL ⟨.fr rfl, .fr rfl, trivial⟩ | exact .ptr rfl (by omega) | exact .osl_of rfl (by omega) rfl | exact .fr rfl | exact LeL.fr rfl | exact .yld rfl (by omega) | exact .eptr rfl (by omega) | exact .osl0 | exact .snil_sl | exact .to_any | refine .aggL ?_ | refine ⟨?_, ?_⟩)) | (refine .aggL ?_; repeat' (first | exact True.intro | exact .tupL ⟨.fr rfl, .fr rfl, trivial⟩ | exact .ptr rfl (by omega) | exact .osl_of rfl (by omega) rfl | exact .fr rfl | exact LeL.fr rfl | exact .yld rfl (by omega) | exact .eptr rfl (by omega) | exact .osl0 | exact .snil_sl | exact .to_any | refine ⟨?_, ?_⟩))) (by simp))
    · rename_i ht
      rw [if_pos (by simp only [isText, hr, Bool.true_and, decide_eq_true_eq]; have h2 := ht; simp at h2; exact ba_eq (by simpa [bytesS] using h2))] at hof
      (conv => whnf)
      rw [hof]
      exact (Ends.pure [] (by first | exact .tupL ⟨.fr rfl, .fr rfl, trivial⟩ | exact .ptr rfl (by omega) | exact .osl_of rfl (by omega) rfl | exact .fr rfl | exact LeL.fr rfl | exact .yld rfl (by omega) | exact .eptr rfl (by omega) | exact .osl0 | exact .snil_sl | exact .to_any | (refine .tupL ?_; repeat' (first | exact True.intro | exact .tupL ⟨.fr rfl, .fr rfl, trivial⟩ | exact .ptr rfl (by omega) | exact .osl_of rfl (by omega) rfl | exact .fr rfl | exact LeL.fr rfl | exact .yld rfl (by omega) | exact .eptr rfl (by omega) | exact .osl0 | exact .snil_sl | exact .to_any | refine .aggL ?_ | refine ⟨?_, ?_⟩)) | (refine .aggL ?_; repeat' (first | exact True.intro | exact .tupL ⟨.fr rfl, .fr rfl, trivial⟩ | exact .ptr rfl (by omega) | exact .osl_of rfl (by omega) rfl | exact .fr rfl | exact LeL.fr rfl | exact .yld rfl (by omega) | exact .eptr rfl (by omega) | exact .osl0 | exact .snil_sl | exact .to_any | refine ⟨?_, ?_⟩))) (by simp))
  | _ =>
    rw [hp] at hpl2
    have hno : ofP s = (⟨0, 0⟩, 305) := ofU_none2 (by rw [puN, hp])
    refine callV_pure hpl2 ⟨.fr rfl, .fr rfl, .fr rfl, trivial⟩ ?_
    (conv => whnf)
    rw [hno]
    exact (Ends.pure [] (by first | exact .tupL ⟨.fr rfl, .fr rfl, trivial⟩ | exact .ptr rfl (by omega) | exact .osl_of rfl (by omega) rfl | exact .fr rfl | exact LeL.fr rfl | exact .yld rfl (by omega) | exact .eptr rfl (by omega) | exact .osl0 | exact .snil_sl | exact .to_any | (refine .tupL ?_; repeat' (first | exact True.intro | exact .tupL ⟨.fr rfl, .fr rfl, trivial⟩ | exact .ptr rfl (by omega) | exact .osl_of rfl (by omega) rfl | exact .fr rfl | exact LeL.fr rfl | exact .yld rfl (by omega) | exact .eptr rfl (by omega) | exact .osl0 | exact .snil_sl | exact .to_any | refine .aggL ?_ | refine ⟨?_, ?_⟩)) | (refine .aggL ?_; repeat' (first | exact True.intro | exact .tupL ⟨.fr rfl, .fr rfl, trivial⟩ | exact .ptr rfl (by omega) | exact .osl_of rfl (by omega) rfl | exact .fr rfl | exact LeL.fr rfl | exact .yld rfl (by omega) | exact .eptr rfl (by omega) | exact .osl0 | exact .snil_sl | exact .to_any | refine ⟨?_, ?_⟩))) (by simp))
end Go.Proofs.YtehhligadnlijaaGreatDoor
set_option linter.unusedVariables false
set_option linter.unusedSimpArgs false
namespace Go.Proofs.YtehhligadnlijaaGreatDoor
open Go.RowKit
open Go.Proofs.Tryz (prog)
attribute [local irreducible] CallV RoundV aggK
def tenP : Prefix := ⟨167772160, 8⟩
def goneT : Upd := ⟨[tenP], [], noA⟩
def newT : Upd := ⟨[], [tenP], noA⟩
def rowT : List UInt8 := [0, 2, 8, 10, 0, 0]
theorem encU_cold (u : Upd) : Cold (encU false u) := .agg (by
  intro v hv
  rcases List.mem_cons.1 hv with rfl | hv
  · exact encPs_cold _
  rcases List.mem_cons.1 hv with rfl | hv
  · exact encPs_cold _
  simp only [cellsA, List.mem_cons, List.not_mem_nil, or_false] at hv
  rcases hv with rfl | rfl | rfl | rfl | rfl | rfl | rfl | rfl <;> first | exact .int | exact .bool | exact encLegs_cold _ | exact encW_cold _)
theorem encU_fresh (u : Upd) : Fresh (encU true u) := .agg (by
  intro v hv
  rcases List.mem_cons.1 hv with rfl | hv
  · exact encPs_fresh _
  rcases List.mem_cons.1 hv with rfl | hv
  · exact encPs_fresh _
  simp only [cellsA, List.mem_cons, List.not_mem_nil, or_false] at hv
  rcases hv with rfl | rfl | rfl | rfl | rfl | rfl | rfl | rfl <;> first | exact .int | exact .bool | exact encLegs_fresh _ | exact encW_fresh _)
theorem tup2_fresh {a b : V} (h1 : Fresh a) (h2 : Fresh b) : Fresh (.tup [a, b]) := .tup (by intro v hv; simp at hv; rcases hv with rfl | rfl <;> assumption)
theorem rise_one {p : Prefix} (h : prefOk p = true) : riseP [p] = true := riseP_iff.2 fun j hj => by
  obtain rfl : j = 0 := by simp at hj; omega
  exact ⟨h, fun h0 => absurd h0 (by omega)⟩
theorem rise_nil : riseP [] = true := riseP_iff.2 fun j hj => by simp at hj
theorem body_gone : bodyB goneT = rowT := by decide
theorem check_gone : checkU goneT = 0 := by
  have hm : mayU goneT = true := by
    simp only [mayU, goneT, rise_one (p := tenP) (by decide), rise_nil, apartP, saidU, if_true]
    decide
  rw [checkU, if_pos hm, body_gone]
  decide
theorem raw_gone : rawE20 goneT = .tup [encB true rowT, .int .i64 0] := by rw [rawE20, check_gone, if_pos rfl, body_gone]
theorem check_new : checkU newT = 2 := by
  have hm : mayU newT = false := by
    have hs : saidU newT = false := by
      rw [saidU, if_neg (by decide)]
      decide
    simp [mayU, hs]
  rw [checkU, if_neg (by simp [hm])]
theorem parse_short : parseUV true [0, 2, 8] = .tup [encU true noU, .int .i64 300] := by
  have he : errB [0, 2, 8] = 300 := by
    have hs : stepE [0, 2, 8] 0 = 300 := by decide
    rw [errB, hs]; decide
  rw [parseUV, updB, he, if_neg (by decide)]
def s1 : ByteArray := ⟨#[49, 48, 46, 48, 46, 48, 46, 48, 47, 56]⟩
def s2 : ByteArray := ⟨#[49, 48, 46, 48, 46, 48, 46, 49, 47, 56]⟩
theorem of_s1 : ofP s1 = (tenP, 0) := by decide +kernel
theorem of_s2 : ofP s2 = (⟨0, 0⟩, 305) := by decide +kernel
theorem text_ten : bytesS (textB tenP) = s1 := by decide +kernel
theorem covers_ten : coversP ⟨0, 0⟩ tenP = true := by decide
set_option maxRecDepth 100000 in
set_option maxHeartbeats 4000000 in
theorem works20_ok : PCon prog 18 [] (.bool true) := by
  have o1 := uof_ok s1 (by decide)
  have o2 := uof_ok s2 (by decide)
  rw [of_s1] at o1
  rw [of_s2] at o2
  have r1 := uRaw_ok false goneT ⟨by decide, by decide, by decide⟩
  rw [raw_gone] at r1
  have p1 := parseU20_ok false [0, 2, 8] (by decide)
  rw [parse_short] at p1
  have c1 := ucheck_ok false newT ⟨by decide, by decide, by decide⟩
  rw [check_new] at c1
  have t1 := uText_ok tenP
  rw [text_ten] at t1
  have v1 := uCovers_ok ⟨0, 0⟩ tenP
  rw [covers_ten] at v1
  refine callV_of (fn := Go.Proofs.Tryz.f18) (body := _) tab_ok mixed rfl rfl (by decide) (by simp [Go.Proofs.Tryz.f18]) ?_
  (conv => whnf)
  refine callV_lend [1] r1 ⟨.aggL ⟨LeV.fresh_off (LeV.freezeE (ys := rowsP [tenP]) (by simp) rfl (by decide) rfl (rowsP_free _)), .snil_sl, .fr rfl, .snil_sl, .fr rfl, .fr rfl, .fr rfl, .fr rfl, .fr rfl, .snil_sl, trivial⟩, trivial⟩ (by intro v hv; obtain rfl := List.mem_singleton.1 hv; exact encU_cold _) (one_none rfl) (tup2_fresh (encB_fresh _) .int) ?_
  (conv => whnf)
  refine callV_lend [2] p1 ⟨LeV.fresh_off (LeV.freezeE (ys := rowsB [0, 2, 8]) (by simp) rfl (by decide) rfl (rowsB_free _)), trivial⟩ (by intro v hv; obtain rfl := List.mem_singleton.1 hv; exact encB_cold _) (one_none rfl) (tup2_fresh (encU_fresh _) .int) ?_
  (conv => whnf)
  refine callV_pure o1 ⟨.fr rfl, trivial⟩ ?_
  (conv => whnf)
  refine callV_pure o2 ⟨.fr rfl, trivial⟩ ?_
  (conv => whnf)
  refine callV_pure (num_ok 0) ⟨.int_of rfl, trivial⟩ ?_
  (conv => whnf)
  refine callV_pure (num_ok 0) ⟨.int_of rfl, trivial⟩ ?_
  (conv => whnf)
  refine ⟨rfl, ⟨rowT.toArray⟩, rfl, ?_⟩
  (conv => whnf)
  refine callV_pure (num_ok 300) ⟨.int_of rfl, trivial⟩ ?_
  (conv => whnf)
  refine eqlP tenP tenP ?_
  rw [decide_eq_true rfl]
  (conv => whnf)
  refine callV_pure (num_ok 305) ⟨.int_of rfl, trivial⟩ ?_
  (conv => whnf)
  refine callV_pure v1 ⟨.fr rfl, .fr rfl, trivial⟩ ?_
  (conv => whnf)
  refine callV_pure t1 ⟨.fr rfl, trivial⟩ ?_
  (conv => whnf)
  refine callV_lend [6] c1 ⟨.aggL ⟨.snil_sl, LeV.fresh_off (LeV.freezeE (ys := rowsP [tenP]) (by simp) rfl (by decide) rfl (rowsP_free _)), .fr rfl, .snil_sl, .fr rfl, .fr rfl, .fr rfl, .fr rfl, .fr rfl, .snil_sl, trivial⟩, trivial⟩ (by intro v hv; obtain rfl := List.mem_singleton.1 hv; exact encU_cold _) (one_none rfl) .int ?_
  (conv => whnf)
  refine callV_pure (num_ok 2) ⟨.int_of rfl, trivial⟩ ?_
  (conv => whnf)
  exact (Ends.pure [] (by first | exact .ptr rfl (by omega) | exact .osl_of rfl (by omega) rfl | exact .fr rfl | exact LeL.fr rfl | exact .yld rfl (by omega) | exact .eptr rfl (by omega) | exact .osl0 | exact .snil_sl | exact .to_any) (by simp))
end Go.Proofs.YtehhligadnlijaaGreatDoor
set_option linter.unusedVariables false
set_option linter.unusedSimpArgs false
namespace Go.Proofs.YtehhligadnlijaaGreatDoor
open Go.RowKit
open Go.Proofs.Tryz (prog)
attribute [local irreducible] CallV RoundV aggK
theorem fewU_out {u : Upd} (h : fewU u = true) : fewA u.attrs = true ∧ u.gone.length ≤ 150 ∧ u.new.length ≤ 150 := by
  simp only [fewU, Bool.and_eq_true, List.all_eq_true, decide_eq_true_eq] at h
  obtain ⟨⟨⟨⟨h1, h2⟩, h3⟩, h4⟩, h5⟩ := h
  refine ⟨?_, by omega, by omega⟩
  simp only [fewA, Bool.and_eq_true, List.all_eq_true, decide_eq_true_eq]
  refine ⟨⟨fun p hp => ?_, by omega⟩, by omega⟩
  have := h1 p hp
  simp only [legFew, decide_eq_true_eq] at this
  omega
theorem fewU_small {u : Upd} (h : fewU u = true) : Small u := by
  obtain ⟨h1, h2, h3⟩ := fewU_out h
  exact ⟨by omega, by omega, h1⟩
end Go.Proofs.YtehhligadnlijaaGreatDoor
set_option linter.unusedVariables false
set_option linter.unusedSimpArgs false
namespace Go.Proofs.YtehhligadnlijaaGreatDoor
open Go.RowKit
open Go.Proofs.Tryz (prog)
attribute [local irreducible] CallV RoundV aggK
theorem sameU_refl (u : Upd) : sameU u u = true := by simp [sameU, sameA_refl]
end Go.Proofs.YtehhligadnlijaaGreatDoor
set_option linter.unusedVariables false
set_option linter.unusedSimpArgs false
namespace Go.Proofs.YtehhligadnlijaaGreatDoor
open Go.RowKit Go.ChangeShapes Go.WideShapes
open Go.Proofs.Tryz (prog)
theorem rep_prefs : RepOk prog 37 (fun l : List Prefix => [encPs false l]) :=
  rep_slice (cells := cellsP) Go.Proofs.Tryz.underlying37 (by kernel_rfl) (by decide) (fun _ => rfl) rep_prefix
theorem rep_update : RepOk prog 47 (cellsU false) := fun enc w sp fuel cs x h => by
  have ht := Go.Proofs.Tryz.underlying47
  obtain ⟨xs, n, _, _, hlen, _, _⟩ := DataW.trod_struct ht h
  have hl : cs.length = 10 := hlen.trans (by kernel_rfl)
  obtain ⟨g, h0, o0⟩ := field_at ht h 0 rfl rep_prefs rfl (by kernel_rfl)
  obtain ⟨n, h1, o1⟩ := field_at ht h 1 rfl rep_prefs rfl (by kernel_rfl)
  obtain ⟨a, h2, o2⟩ := field_of ht h (f := _) (i := 2) rfl rep_attrs
  have hz : prog.cellsOf 45 = 8 := by kernel_rfl
  change vrs (G0 w) w (cellsA false a) ((cs.drop 2).take (prog.cellsOf 45)) at h2
  change ∀ u ∈ (cs.drop 2).take (prog.cellsOf 45), u.oneCell' = true at o2
  rw [hz, List.take_of_length_le (by rw [List.length_drop]; omega)] at h2 o2
  have j := vrs_join (vrs_join vrs_take0 h0 rfl (by omega)) h1 rfl (by omega)
  have k := one_join (one_join (by simp) o0 rfl (by omega)) o1 rfl (by omega)
  have e : cs.take 2 ++ cs.drop 2 = cs := List.take_append_drop 2 cs
  refine ⟨⟨g, n, a⟩, ?_, ?_⟩
  · have := j.append h2
    rw [e] at this
    exact this
  · intro u hu
    rw [← e] at hu
    rcases List.mem_append.1 hu with hu | hu
    · exact k u hu
    · exact o2 u hu
theorem arg_update : ArgOk prog 47 (encU false) := arg_struct Go.Proofs.Tryz.underlying47 rep_update
theorem read_update : prog.readableRec 47 = true ∧ 47 < prog.types.size := ⟨by kernel_rfl, of_decide_eq_true (by kernel_rfl)⟩
abbrev laidL : List (String × DataW Unit) := Rows.updatePrefixesRow.laid
theorem err_at0 {W : World} {name : String} {nm : String} {d : DataW Unit} {g t : Nat} {cs : Array Value} {fuel : Nat} {p : List MemPlace} {ms : Array (String × TypeId)} (hg : prog.globalNamed name = some g) (hv : W.var? prog name = some cs) (hi : prog.underlying t = some (.interface ms))
    (hd : DataW.trod (fun _ => ()) prog W 0 (fun _ => true) false fuel t cs.toList = some (.iface nm d, p)) : ∃ o, W.heap[g]? = some o ∧ firstIs anErr o := by
  obtain ⟨t', fz, hh⟩ := var_heap hg hv
  obtain ⟨_, u, v, hcs, _, _⟩ := iface_of_trod hi hd
  refine ⟨_, hh, cs, t', fz, .iface u v, rfl, ?_, .inr ⟨u, v, rfl⟩⟩
  have : cs = #[.iface u v] := by
    apply Array.ext'
    simpa using hcs
  rw [this]; rfl
theorem glOk {W : World} (hL : laidMetH prog laidL W) (hS : W.ShapedOpen prog) : GlOk (G0 W) W := by
  rw [MakeChecks.laidMetH_plain _ _ _ (by kernel_rfl)] at hL
  obtain ⟨ps, ⟨g0, t0, cs0, f0, p0, q0, hg0, ht0, hv0, hd0, ⟨g1, t1, cs1, f1, p1, q1, hg1, ht1, hv1, hd1, ⟨g2, t2, cs2, f2, p2, q2, hg2, ht2, hv2, hd2, ⟨g3, t3, cs3, f3, p3, q3, hg3, ht3, hv3, hd3, ⟨g4, t4, cs4, f4, p4, q4, hg4, ht4, hv4, hd4, ⟨g5, t5, cs5, f5, p5, q5, hg5, ht5, hv5, hd5, _, _⟩, _⟩, _⟩, _⟩, _⟩, _⟩, _⟩ := hL
  obtain rfl : 3 = g2 := Option.some.inj ((show prog.globalNamed "internal/strconv.uint64pow10" = some 3 by kernel_rfl).symm.trans hg2)
  obtain rfl : 2 = g4 := Option.some.inj ((show prog.globalNamed "strconv.ErrRange" = some 2 by kernel_rfl).symm.trans hg4)
  obtain rfl : 1 = g5 := Option.some.inj ((show prog.globalNamed "strconv.ErrSyntax" = some 1 by kernel_rfl).symm.trans hg5)
  obtain rfl : 220 = t2 := Option.some.inj ((show (prog.globals[3]?).map (·.type) = some 220 by kernel_rfl).symm.trans ht2)
  obtain rfl : 77 = t4 := Option.some.inj ((show (prog.globals[2]?).map (·.type) = some 77 by kernel_rfl).symm.trans ht4)
  obtain rfl : 77 = t5 := Option.some.inj ((show (prog.globals[1]?).map (·.type) = some 77 by kernel_rfl).symm.trans ht5)
  have e1 := err_at0 hg5 hv5 Go.Proofs.Tryz.underlying77 hd5
  have e2 := err_at0 hg4 hv4 Go.Proofs.Tryz.underlying77 hd4
  have e3 : ∃ o, W.heap[3]? = some o ∧ tabHolds .u64 Lib.pow10Tab o := by
    obtain ⟨t', fz, hh⟩ := var_heap hg2 hv2
    have hc := Lib.cells_of_tab (k := .u64) (zs := Lib.pow10Tab) Go.Proofs.Tryz.underlying220 Go.Proofs.Tryz.underlying75 (by kernel_rfl) (by kernel_rfl) hd2
    refine ⟨_, hh, t', fz, ?_⟩
    congr 1
    apply Array.ext'
    simpa using hc
  have e0 : ∃ o, W.heap[0]? = some o ∧ firstIs (fun v => ∃ m, v = .int .i64 m) o := by
    obtain ⟨m, hm⟩ := cell_of_shapedOpen_int (g := 0) (t := 3) (zero := #[.int .i64 0]) hS (of_decide_eq_true (by kernel_rfl)) (by kernel_rfl) (by kernel_rfl) (by kernel_rfl) (by kernel_rfl) Go.Proofs.Tryz.underlying3
    unfold World.cell? at hm
    simp only at hm
    split at hm
    · rename_i cs t fz hh
      exact ⟨_, hh, cs, t, fz, _, rfl, hm, m, rfl⟩
    · cases hm
  intro p hp
  simp only [glob, List.mem_cons, List.not_mem_nil, or_false] at hp
  rcases hp with rfl | rfl | rfl | rfl
  · obtain ⟨o, h1, h2⟩ := e0; exact ⟨lt_heap h1, o, h1, h2⟩
  · obtain ⟨o, h1, h2⟩ := e1; exact ⟨lt_heap h1, o, h1, h2⟩
  · obtain ⟨o, h1, h2⟩ := e2; exact ⟨lt_heap h1, o, h1, h2⟩
  · obtain ⟨o, h1, h2⟩ := e3; exact ⟨lt_heap h1, o, h1, h2⟩
theorem door_met (os : Os) (args : Array Value) : laidMetH prog laidL ((World.laidAll prog os laidL).forCall (fun _ _ => 0) ⟨#[], args, []⟩).memory := by
  rw [MakeChecks.laidMetH_plain _ _ _ (by kernel_rfl)]
  exact laidMet_laidAll _ (by kernel_rfl) (by kernel_rfl)
theorem laid_shaped (os : Os) (args : Array Value) : ((World.laidAll prog os laidL).forCall (fun _ _ => 0) ⟨#[], args, []⟩).Shaped prog := World.shaped_of_ZipB (by kernel_rfl) (by kernel_rfl)
end Go.Proofs.YtehhligadnlijaaGreatDoor
set_option linter.unusedVariables false
set_option linter.unusedSimpArgs false
namespace Go.Proofs.YtehhligadnlijaaGreatDoor
open Go.RowKit
open Go.Proofs.Tryz (prog)
attribute [local irreducible] CallV RoundV aggK
theorem may_of {u : Upd} (hc : checkU u = 0) : mayU u = true := by
  unfold checkU at hc
  split at hc
  · assumption
  · exact absurd hc (by decide)
theorem body_le {u : Upd} (hc : checkU u = 0) : (bodyB u).length ≤ 493 := by
  have hm := may_of hc
  rw [checkU, if_pos hm] at hc
  split at hc
  · exact absurd hc (by decide)
  · omega
end Go.Proofs.YtehhligadnlijaaGreatDoor
set_option linter.unusedVariables false
set_option linter.unusedSimpArgs false
namespace Go.Proofs.YtehhligadnlijaaGreatDoor
open Go.RowKit
open Go.Proofs.Tryz (prog)
theorem ok_parts {p : Prefix} (h : prefOk p = true) : p.len.toNat ≤ 32 ∧ p.addr.toNat % 2 ^ (32 - p.len.toNat) = 0 := by
  simp only [prefOk, hostN, Bool.and_eq_true, decide_eq_true_eq] at h
  exact ⟨by omega, of_decide_eq_true h.2⟩
theorem ok_low {p : Prefix} (h : prefOk p = true) : p.addr.toNat % 2 ^ (32 - 8 * nP p) = 0 := by
  obtain ⟨h1, h2⟩ := ok_parts h
  have hd : 2 ^ (32 - 8 * nP p) ∣ 2 ^ (32 - p.len.toNat) := Nat.pow_dvd_pow 2 (by unfold nP; omega)
  exact Nat.mod_eq_zero_of_dvd (Nat.dvd_trans hd (Nat.dvd_of_mod_eq_zero h2))
theorem addr_take {p : Prefix} (h : prefOk p = true) : addrH ((fourB p.addr).take (nP p)) 4 = p.addr.toNat := by
  obtain ⟨h1, _⟩ := ok_parts h
  have hl := ok_low h
  have hx := p.addr.toNat_lt
  have hn : nP p = 0 ∨ nP p = 1 ∨ nP p = 2 ∨ nP p = 3 ∨ nP p = 4 := by unfold nP; omega
  rcases hn with e | e | e | e | e
  all_goals
    rw [e] at hl ⊢
    simp only [Nat.reduceMul, Nat.reduceSub, Nat.reducePow, Nat.mod_one] at hl
    simp [addrH, fourB, UInt32.toNat_shiftRight, Nat.shiftRight_eq_div_pow]
    try omega
theorem pfx_take {p : Prefix} (h : prefOk p = true) : pfxH p.len ((fourB p.addr).take (nP p)) = p := by
  unfold pfxH
  rw [addr_take h]
  simp
theorem four_len {p : Prefix} (h : prefOk p = true) : ((fourB p.addr).take (nP p)).length = nP p := by
  obtain ⟨h1, _⟩ := ok_parts h
  rw [List.length_take]
  show min _ 4 = _
  unfold nP
  omega
theorem each_cons {p : Prefix} (h : prefOk p = true) (r : List UInt8) : eachB (prefB p ++ r) = p :: eachB r := by
  obtain ⟨h1, _⟩ := ok_parts h
  have hl := four_len h
  have hn : nbC p.len = nP p := rfl
  rw [prefB, List.cons_append, eachB_go (by rw [hn, List.length_append, hl]; omega), hn, List.take_append_of_le_length (by omega), List.take_of_length_le (by omega), pfx_take h,
    List.drop_append_of_le_length (by omega), List.drop_of_length_le (by omega), List.nil_append]
theorem each_prefs : ∀ {l : List Prefix}, okPs l → eachB (prefsB l) = l
  | [], _ => eachB_nil
  | p :: l, h => by
    rw [prefsB, List.flatMap_cons, each_cons (h p (by simp)), ← prefsB, each_prefs fun q hq => h q (by simp [hq])]
theorem allOk_of {l : List Prefix} (h : okPs l) : allOk l = true := by
  induction l with
  | nil => rfl
  | cons p l ih => rw [allOk_cons, h p (by simp), ih fun q hq => h q (by simp [hq])]; rfl
theorem four_addr {c : UInt8} {v : List UInt8} (hv : v.length = nbC c) (hc : c.toNat ≤ 32) : (fourB (UInt32.ofNat (addrH v 4))).take (nbC c) = v := by
  have hn : nbC c ≤ 4 := by unfold nbC; omega
  rw [← hv] at hn ⊢
  match v, hn with
  | [], _ => simp
  | [a], _ =>
    have := a.toNat_lt
    simp only [addrH, fourB, List.length_cons, List.length_nil, List.take_succ_cons, List.take_zero, List.cons.injEq, and_true]
    apply UInt8.toNat_inj.1
    simp [UInt32.toNat_shiftRight, Nat.shiftRight_eq_div_pow]; omega
  | [a, b], _ =>
    have := a.toNat_lt
    have := b.toNat_lt
    simp only [addrH, fourB, List.length_cons, List.length_nil, List.take_succ_cons, List.take_zero, List.cons.injEq, and_true]
    refine ⟨?_, ?_⟩ <;> apply UInt8.toNat_inj.1 <;> simp [UInt32.toNat_shiftRight, Nat.shiftRight_eq_div_pow] <;> omega
  | [a, b, d], _ =>
    have := a.toNat_lt
    have := b.toNat_lt
    have := d.toNat_lt
    simp only [addrH, fourB, List.length_cons, List.length_nil, List.take_succ_cons, List.take_zero, List.cons.injEq, and_true]
    refine ⟨?_, ?_, ?_⟩ <;> apply UInt8.toNat_inj.1 <;> simp [UInt32.toNat_shiftRight, Nat.shiftRight_eq_div_pow] <;> omega
  | [a, b, d, e], _ =>
    have := a.toNat_lt
    have := b.toNat_lt
    have := d.toNat_lt
    have := e.toNat_lt
    simp only [addrH, fourB, List.length_cons, List.length_nil, List.take_succ_cons, List.take_zero, List.cons.injEq, and_true]
    refine ⟨?_, ?_, ?_, ?_⟩ <;> apply UInt8.toNat_inj.1 <;> simp [UInt32.toNat_shiftRight, Nat.shiftRight_eq_div_pow] <;> omega
theorem prefs_each (b : List UInt8) (h : allOk (eachB b) = true) : prefsB (eachB b) = b := by
  match b with
  | [] => rw [eachB_nil]; rfl
  | c :: r =>
    by_cases hb : 32 < c.toNat ∨ r.length < nbC c
    · rw [eachB_bad hb] at h
      exact absurd h (by decide)
    · rw [eachB_go hb] at h ⊢
      rw [allOk_cons, Bool.and_eq_true] at h
      have ih := prefs_each (r.drop (nbC c)) h.2
      have hv : (r.take (nbC c)).length = nbC c := by rw [List.length_take]; omega
      rw [prefsB, List.flatMap_cons, ← prefsB, ih, prefB]
      show c :: List.take (nbC c) (fourB (UInt32.ofNat (addrH (r.take (nbC c)) 4))) ++ _ = _
      rw [four_addr hv (by omega), List.cons_append, List.take_append_drop]
termination_by b.length
decreasing_by simp; omega
theorem twoB_len2 (n : Nat) : (twoB n).length = 2 := rfl
theorem lenW_cat {x r : List UInt8} (h : x.length < 65536) : lenW (twoB x.length ++ x ++ r) = x.length := by
  show 256 * (UInt8.ofNat (x.length / 256)).toNat + (UInt8.ofNat x.length).toNat = x.length
  simp
  omega
theorem short_cat {x r : List UInt8} (h : x.length < 65536) : shortW (twoB x.length ++ x ++ r) = false := by
  have := lenW_cat (r := r) h
  unfold shortW
  rw [this]
  simp [twoB_len2]
  try omega
theorem chunk_cat {x r : List UInt8} (h : x.length < 65536) : chunkW (twoB x.length ++ x ++ r) = x := by
  rw [chunkW, if_neg (by rw [short_cat h]; simp), lenW_cat h]
  show (x ++ r).take x.length = x
  simp
theorem rest_cat {x r : List UInt8} (h : x.length < 65536) : restW (twoB x.length ++ x ++ r) = r := by
  rw [restW, if_neg (by rw [short_cat h]; simp), lenW_cat h, Nat.add_comm]
  show (x ++ r).drop x.length = r
  simp
theorem cat_chunk {b : List UInt8} (h : shortW b = false) : twoB (chunkW b).length ++ chunkW b ++ restW b = b ∧ (chunkW b).length < 65536 := by
  have hs := h
  simp only [shortW, Bool.or_eq_false_iff, decide_eq_false_iff_not] at hs
  match b, hs with
  | x :: y :: r, hs =>
    have hx := x.toNat_lt
    have hy := y.toNat_lt
    have hw : lenW (x :: y :: r) = 256 * x.toNat + y.toNat := rfl
    rw [hw] at hs
    simp only [List.length_cons] at hs
    rw [chunkW, restW, if_neg (by simp [h]), if_neg (by simp [h]), hw]
    have hl : (List.take (256 * x.toNat + y.toNat) (List.drop 2 (x :: y :: r))).length = 256 * x.toNat + y.toNat := by
      rw [List.length_take]
      show min _ r.length = _
      omega
    rw [hl]
    refine ⟨?_, by omega⟩
    have e1 : UInt8.ofNat ((256 * x.toNat + y.toNat) / 256) = x := by apply UInt8.toNat_inj.1; simp; try omega
    have e2 : UInt8.ofNat (256 * x.toNat + y.toNat) = y := by apply UInt8.toNat_inj.1; simp; try omega
    rw [twoB, e1, e2, Nat.add_comm 2]
    show x :: y :: (r.take _ ++ r.drop _) = _
    rw [List.take_append_drop]
theorem body_is (u : Upd) : bodyB u = twoB (gB u).length ++ gB u ++ (twoB (aB u).length ++ aB u ++ prefsB u.new) := by
  simp [bodyB, partsU]
theorem raw_not_nil {a : Attrs} (h : rightA a = true) : rawA a ≠ [] := fun e => by
  have := raw_parse h
  rw [e, parseA_nil, if_neg (by decide)] at this
  have h2 : (299 : Int) = 0 := congrArg Prod.snd this
  exact absurd h2 (by decide)
theorem aA_right {a : Attrs} (h : rightA a = true) : aA a = rawA a := by rw [aA, if_pos h, rawP_eq]
theorem aA_not {a : Attrs} (h : rightA a = false) : aA a = [] := by rw [aA, if_neg (by simp [h])]
theorem raw_then_parse {u : Upd} (hc : checkU u = 0) : errB (bodyB u) = 0 ∧ updB (bodyB u) = u := by
  have hlen := body_le hc
  obtain ⟨h1, h2, h3, h4⟩ := mayU_out (may_of hc)
  have o1 := okPs_rise h1
  have o2 := okPs_rise h2
  have hb := body_is u
  have hg : (gB u).length < 65536 := by rw [hb] at hlen; simp only [List.length_append] at hlen; omega
  have ha : (aB u).length < 65536 := by rw [hb] at hlen; simp only [List.length_append] at hlen; omega
  have sx : shortW (bodyB u) = false := by rw [hb]; exact short_cat hg
  have ex : xB (bodyB u) = gB u := by rw [xB, hb]; exact chunk_cat hg
  have er : restW (bodyB u) = twoB (aB u).length ++ aB u ++ prefsB u.new := by rw [hb]; exact rest_cat hg
  have sy : shortW (restW (bodyB u)) = false := by rw [er]; exact short_cat ha
  have ey : yB (bodyB u) = aB u := by rw [yB, er]; exact chunk_cat ha
  have ez : zB (bodyB u) = prefsB u.new := by rw [zB, er]; exact rest_cat ha
  have gx : eachB (xB (bodyB u)) = u.gone := by rw [ex]; exact each_prefs o1
  have gz : eachB (zB (bodyB u)) = u.new := by rw [ez]; exact each_prefs o2
  have hy : eY (bodyB u) = 0 ∧ aY (bodyB u) = u.attrs ∧ (0 < (aB u).length ↔ 0 < u.new.length) := by
    unfold eY aY
    rw [ey, aB]
    by_cases hn : u.new = []
    · have hr := saidU_nil hn h4
      have hs : u.attrs = noA := by simpa only [saidU, if_pos hn, sameA, decide_eq_true_eq] using h4
      rw [aA_not hr, if_pos rfl, if_pos rfl, hn]
      exact ⟨rfl, hs.symm, by simp⟩
    · have hr := saidU_some hn h4
      have hne := raw_not_nil hr
      rw [aA_right hr, if_neg hne, if_neg hne, raw_parse hr]
      exact ⟨rfl, rfl, ⟨fun _ => List.length_pos_iff.2 hn, fun _ => List.length_pos_iff.2 hne⟩⟩
  have hok : okS (bodyB u) 6 := by
    intro j hj
    obtain rfl | rfl | rfl | rfl | rfl | rfl : j = 0 ∨ j = 1 ∨ j = 2 ∨ j = 3 ∨ j = 4 ∨ j = 5 := by omega
    · simp [stepE, sx, gx, allOk_of o1]
    · simp [stepE, sy, hy.1]
    · simp [stepE, gz, allOk_of o2]
    · simp [stepE, ordB, gx, gz, h1, h2, h3]
    · have : wholeB (bodyB u) = true := by rw [wholeB_iff, ey, gz]; exact hy.2.2
      simp [stepE, this]
    · simp only [stepE]; rw [if_pos hlen]
  have he := err_none hok
  refine ⟨he, ?_⟩
  rw [updB, if_pos he, gx, gz, hy.2.1]
theorem err_zero {b : List UInt8} (h : errB b = 0) : okS b 6 := by
  have key : ∀ {x y : Int}, (if x ≠ 0 then x else y) = 0 → x = 0 ∧ y = 0 := by
    intro x y h
    by_cases hx : x = 0
    · rw [if_neg (by simp [hx])] at h; exact ⟨hx, h⟩
    · rw [if_pos hx] at h; exact absurd h hx
  unfold errB at h
  obtain ⟨h0, h⟩ := key h
  obtain ⟨h1, h⟩ := key h
  obtain ⟨h2, h⟩ := key h
  obtain ⟨h3, h⟩ := key h
  obtain ⟨h4, h5⟩ := key h
  intro j hj
  obtain rfl | rfl | rfl | rfl | rfl | rfl : j = 0 ∨ j = 1 ∨ j = 2 ∨ j = 3 ∨ j = 4 ∨ j = 5 := by omega
  all_goals assumption
theorem if_zero {c : Bool} {e : Int} (he : e ≠ 0) (h : (if c = true then (0 : Int) else e) = 0) : c = true := by
  cases c with
  | true => rfl
  | false => rw [if_neg (by simp)] at h; exact absurd h he
theorem parse_then_raw {b : List UInt8} (hb : b.length ≤ 1000) (he : errB b = 0) : checkU (updB b) = 0 ∧ bodyB (updB b) = b ∧ Small (updB b) := by
  have hok := err_zero he
  have s0 := if_zero (by decide) (hok 0 (by omega))
  rw [Bool.and_eq_true, Bool.not_eq_true'] at s0
  obtain ⟨sx, ax⟩ := s0
  have s1 := hok 1 (by omega)
  have sy : shortW (restW b) = false := by
    cases h : shortW (restW b) with
    | false => rfl
    | true => simp only [stepE, h, if_true] at s1; exact absurd s1 (by decide)
  have e1 : eY b = 0 := by simpa only [stepE, sy, Bool.false_eq_true, if_false] using s1
  have az := if_zero (by decide) (hok 2 (by omega))
  have ho := if_zero (by decide) (hok 3 (by omega))
  have hw := if_zero (by decide) (hok 4 (by omega))
  have hl : b.length ≤ 493 := by
    have := hok 5 (by omega)
    simp only [stepE] at this
    split at this
    · assumption
    · exact absurd this (by decide)
  rw [wholeB_iff] at hw
  simp only [ordB, Bool.and_eq_true] at ho
  obtain ⟨⟨r1, r2⟩, r3⟩ := ho
  have hu : updB b = ⟨eachB (xB b), eachB (zB b), aY b⟩ := by rw [updB, if_pos he]
  have hA : aA (aY b) = yB b ∧ (yB b = [] → aY b = noA) ∧ (yB b ≠ [] → rightA (aY b) = true) := by
    by_cases hy : yB b = []
    · have : aY b = noA := by rw [aY, if_pos hy]
      rw [this]
      exact ⟨by rw [aA_not noA_right, hy], fun _ => rfl, fun h => absurd hy h⟩
    · have h2 : aY b = (parseA (yB b) 0 0 noA).1 := by rw [aY, if_neg hy]
      have h3 : (parseA (yB b) 0 0 noA).2 = 0 := by rw [eY, if_neg hy] at e1; exact e1
      have hp : parseA (yB b) 0 0 noA = (aY b, 0) := by rw [h2, ← h3]
      obtain ⟨q1, q2⟩ := parse_raw hp
      exact ⟨by rw [aA_right q1, q2], fun h => absurd h hy, fun _ => q1⟩
  have c1 := cat_chunk sx
  have c2 := cat_chunk sy
  have hbody : bodyB (updB b) = b := by
    rw [body_is, hu]
    show twoB (prefsB (eachB (xB b))).length ++ prefsB (eachB (xB b)) ++ (twoB (aA (aY b)).length ++ aA (aY b) ++ prefsB (eachB (zB b))) = b
    rw [prefs_each _ ax, prefs_each _ az, hA.1]
    show twoB (chunkW b).length ++ chunkW b ++ (twoB (chunkW (restW b)).length ++ chunkW (restW b) ++ restW (restW b)) = b
    rw [c2.1, c1.1]
  have hsaid : saidU (updB b) = true := by
    rw [hu]
    show (if eachB (zB b) = [] then sameA (aY b) noA else rightA (aY b)) = true
    by_cases hn : eachB (zB b) = []
    · have hy : yB b = [] := by
        apply List.eq_nil_of_length_eq_zero
        rw [hn] at hw
        simp at hw
        simp [hw]
      rw [if_pos hn, hA.2.1 hy]
      exact sameA_refl _
    · have hy : yB b ≠ [] := List.length_pos_iff.1 (hw.2 (List.length_pos_iff.2 hn))
      rw [if_neg hn]
      exact hA.2.2 hy
  have hm : mayU (updB b) = true := by
    rw [mayU, hsaid, hu]
    show (riseP (eachB (xB b)) && riseP (eachB (zB b)) && apartP (eachB (xB b)) (eachB (zB b)) && true) = true
    rw [r1, r2, r3]; rfl
  refine ⟨by rw [checkU, if_pos hm, hbody, if_neg (by omega)], hbody, ?_⟩
  have l1 := eachB_len (xB b)
  have l2 := eachB_len (zB b)
  have l3 := chunkW_len b
  have l4 := restW_len b
  have l5 := restW_len (restW b)
  have l6 : (xB b).length ≤ b.length := l3
  have l7 : (zB b).length ≤ (restW b).length := l5
  rw [hu]
  refine ⟨by show (eachB (xB b)).length ≤ 1000; omega, by show (eachB (zB b)).length ≤ 1000; omega, ?_⟩
  show fewA (aY b) = true
  by_cases hy : yB b = []
  · rw [hA.2.1 hy]; decide
  · exact fewA_right (hA.2.2 hy)
theorem covers_refl (p : Prefix) : coversP p p = prefOk p := by
  unfold coversP
  cases prefOk p <;> simp
theorem covers_parts {p q : Prefix} (h : coversP p q = true) : prefOk p = true ∧ prefOk q = true ∧ p.len.toNat ≤ q.len.toNat ∧ q.addr.toNat / 2 ^ hostN p = p.addr.toNat / 2 ^ hostN p := by
  simp only [coversP, Bool.and_eq_true] at h
  exact ⟨h.1.1.1, h.1.1.2, by have := of_decide_eq_true h.1.2; omega, of_decide_eq_true h.2⟩
theorem covers_anti {p q : Prefix} (h : coversP p q = true) (h2 : coversP q p = true) : p = q := by
  obtain ⟨a1, a2, a3, a4⟩ := covers_parts h
  obtain ⟨b1, b2, b3, b4⟩ := covers_parts h2
  have hl : p.len.toNat = q.len.toNat := by omega
  have hh : hostN p = hostN q := by unfold hostN; rw [hl]
  obtain ⟨_, c1⟩ := ok_parts a1
  obtain ⟨_, c2⟩ := ok_parts a2
  have c1 : p.addr.toNat % 2 ^ hostN p = 0 := c1
  have c2 : q.addr.toNat % 2 ^ hostN q = 0 := c2
  rw [← hh] at c2
  refine pfx_eq ?_ hl
  have d1 := Nat.div_add_mod p.addr.toNat (2 ^ hostN p)
  have d2 := Nat.div_add_mod q.addr.toNat (2 ^ hostN p)
  rw [a4] at d2
  omega
theorem covers_trans {p q r : Prefix} (h : coversP p q = true) (h2 : coversP q r = true) : coversP p r = true := by
  obtain ⟨a1, a2, a3, a4⟩ := covers_parts h
  obtain ⟨b1, b2, b3, b4⟩ := covers_parts h2
  have hs : 2 ^ hostN p = 2 ^ hostN q * 2 ^ (hostN p - hostN q) := by rw [← Nat.pow_add]; congr 1; unfold hostN; omega
  have : r.addr.toNat / 2 ^ hostN p = p.addr.toNat / 2 ^ hostN p := by
    rw [← a4, hs, ← Nat.div_div_eq_div_mul, b4, Nat.div_div_eq_div_mul]
  unfold coversP
  rw [a1, b2, this]
  simp
  omega
end Go.Proofs.YtehhligadnlijaaGreatDoor
set_option linter.unusedVariables false
set_option linter.unusedSimpArgs false
namespace Go.Proofs.YtehhligadnlijaaGreatDoor
open Go.RowKit
open Go.Proofs.Tryz (prog)
attribute [local irreducible] CallV RoundV aggK
set_option maxRecDepth 100000 in
set_option maxHeartbeats 16000000 in
theorem back20_ok (u : Upd) (b : List UInt8) (p q r : Prefix) : PCon prog 11 [encU false u, encB false b, encP p, encP q, encP r] (.bool true) := by
  have cpp := uCovers_ok p p
  rw [covers_refl] at cpp
  have cp := uRight_ok p
  have cpq := uCovers_ok p q
  have cqp := uCovers_ok q p
  have cqr := uCovers_ok q r
  have cpr := uCovers_ok p r
  generalize prefOk p = x at cpp cp
  have su := usame_ok true false u u
  rw [sameU_refl] at su
  have sa := ref_same_ok true false u.attrs u.attrs
  rw [sameA_refl] at sa
  refine callV_of (fn := Go.Proofs.Tryz.f11) (body := _) tab_ok mixed rfl rfl (by decide) (by simp [Go.Proofs.Tryz.f11]) ?_
  (conv => whnf)
  refine callV_pure (few20_ok false u) ⟨.fr rfl, trivial⟩ ?_
  cases hf : fewU u with
  | false =>
    (conv => whnf)
    refine callV_pure works20_ok trivial ?_
    (conv => whnf)
    exact (Ends.pure [] (by first | exact .ptr rfl (by omega) | exact .osl_of rfl (by omega) rfl | exact .fr rfl | exact LeL.fr rfl | exact .yld rfl (by omega) | exact .eptr rfl (by omega) | exact .osl0 | exact .snil_sl | exact .to_any) (by simp))
  | true =>
  have hs := fewU_small hf
  have ru := uRaw_ok false u hs
  rw [rawE20] at ru
  (conv => whnf)
  refine fun (_ : gd none _) => ?_
  (conv => whnf)
  split
  · (conv => whnf)
    refine callV_pure works20_ok trivial ?_
    (conv => whnf)
    exact (Ends.pure [] (by first | exact .ptr rfl (by omega) | exact .osl_of rfl (by omega) rfl | exact .fr rfl | exact LeL.fr rfl | exact .yld rfl (by omega) | exact .eptr rfl (by omega) | exact .osl0 | exact .snil_sl | exact .to_any) (by simp))
  rename_i hb
  have hb : b.length ≤ 600 := by have := of_decide_eq_false hb; simp at this; omega
  (conv => whnf)
  refine callV_pure (parseU20_ok false b (by omega)) ⟨.fr rfl, trivial⟩ ?_
  (conv => whnf)
  refine callV_pure (num_ok (errB b)) ⟨.int_of rfl, trivial⟩ ?_
  (conv => whnf)
  split
  case' h_1 he =>
    have he : errB b = 0 := by simpa using he
    obtain ⟨w1, w2, w3⟩ := parse_then_raw (by omega) he
    have rx := uRaw_ok true (updB b) w3
    rw [rawE20, if_pos w1, w1, w2] at rx
    (conv => whnf)
    refine callV_pure rx ⟨.fr rfl, trivial⟩ ?_
    (conv => whnf)
    refine callV_pure (num_ok 0) ⟨.int_of rfl, trivial⟩ ?_
    (conv => whnf)
    refine ⟨rfl, ⟨b.toArray⟩, rfl, ?_⟩
    (conv => whnf)
    refine ⟨rfl, ⟨b.toArray⟩, rfl, ?_⟩
    (conv => whnf)
    split
    case' h_1 hh => exact absurd hh (by simp)
  all_goals
    (conv => whnf)
    refine callV_pure ru ⟨.fr rfl, trivial⟩ ?_
    (conv => whnf)
    refine callV_pure (num_ok (checkU u)) ⟨.int_of rfl, trivial⟩ ?_
    (conv => whnf)
    split
    case' h_2 hc =>
      (conv => whnf)
      refine ⟨_, [], fun h nx _ => pureV_pure cpp ⟨.fr rfl, .fr rfl, trivial⟩, by simp, ?_⟩
      (conv => whnf)
      refine ⟨_, [], fun h nx _ => pureV_pure cp ⟨.fr rfl, trivial⟩, by simp, ?_⟩
      (conv => whnf)
      split
      case h_1 hh => exfalso; simp at hh
      (conv => whnf)
      refine ⟨_, [], fun h nx _ => pureV_pure cpq ⟨.fr rfl, .fr rfl, trivial⟩, by simp, ?_⟩
      (conv => whnf)
      cases hpq : coversP p q with
      | false =>
        rw [hpq] at cpq
        (conv => whnf)
        refine ⟨_, [], fun h nx _ => pureV_pure cpq ⟨.fr rfl, .fr rfl, trivial⟩, by simp, ?_⟩
        (conv => whnf)
        refine ⟨drawOk_fast (by kernel_rfl), ?_⟩
        (conv => whnf)
        refine callV_pure works20_ok trivial ?_
        (conv => whnf)
        exact (Ends.pure [] (by first | exact .ptr rfl (by omega) | exact .osl_of rfl (by omega) rfl | exact .fr rfl | exact LeL.fr rfl | exact .yld rfl (by omega) | exact .eptr rfl (by omega) | exact .osl0 | exact .snil_sl | exact .to_any) (by simp))
      | true =>
      rw [hpq] at cpq
      (conv => whnf)
      refine ⟨_, [], fun h nx _ => pureV_pure cqp ⟨.fr rfl, .fr rfl, trivial⟩, by simp, ?_⟩
      (conv => whnf)
      cases hqp : coversP q p with
      | true =>
        have e := covers_anti hpq hqp
        (conv => whnf)
        refine neqP p q ?_
        rw [decide_eq_true e]
        (conv => whnf)
        refine ⟨_, [], fun h nx _ => pureV_pure cpq ⟨.fr rfl, .fr rfl, trivial⟩, by simp, ?_⟩
        (conv => whnf)
        refine ⟨_, [], fun h nx _ => pureV_pure cqr ⟨.fr rfl, .fr rfl, trivial⟩, by simp, ?_⟩
        (conv => whnf)
        cases hqr : coversP q r with
        | false =>
          (conv => whnf)
          refine ⟨drawOk_fast (by kernel_rfl), ?_⟩
          (conv => whnf)
          refine callV_pure works20_ok trivial ?_
          (conv => whnf)
          exact (Ends.pure [] (by first | exact .ptr rfl (by omega) | exact .osl_of rfl (by omega) rfl | exact .fr rfl | exact LeL.fr rfl | exact .yld rfl (by omega) | exact .eptr rfl (by omega) | exact .osl0 | exact .snil_sl | exact .to_any) (by simp))
        | true =>
          rw [covers_trans hpq hqr] at cpr
          (conv => whnf)
          refine ⟨_, [], fun h nx _ => pureV_pure cpr ⟨.fr rfl, .fr rfl, trivial⟩, by simp, ?_⟩
          (conv => whnf)
          refine ⟨drawOk_fast (by kernel_rfl), ?_⟩
          (conv => whnf)
          refine callV_pure works20_ok trivial ?_
          (conv => whnf)
          exact (Ends.pure [] (by first | exact .ptr rfl (by omega) | exact .osl_of rfl (by omega) rfl | exact .fr rfl | exact LeL.fr rfl | exact .yld rfl (by omega) | exact .eptr rfl (by omega) | exact .osl0 | exact .snil_sl | exact .to_any) (by simp))
      | false =>
        (conv => whnf)
        refine ⟨_, [], fun h nx _ => pureV_pure cpq ⟨.fr rfl, .fr rfl, trivial⟩, by simp, ?_⟩
        (conv => whnf)
        refine ⟨_, [], fun h nx _ => pureV_pure cqr ⟨.fr rfl, .fr rfl, trivial⟩, by simp, ?_⟩
        (conv => whnf)
        cases hqr : coversP q r with
        | false =>
          (conv => whnf)
          refine ⟨drawOk_fast (by kernel_rfl), ?_⟩
          (conv => whnf)
          refine callV_pure works20_ok trivial ?_
          (conv => whnf)
          exact (Ends.pure [] (by first | exact .ptr rfl (by omega) | exact .osl_of rfl (by omega) rfl | exact .fr rfl | exact LeL.fr rfl | exact .yld rfl (by omega) | exact .eptr rfl (by omega) | exact .osl0 | exact .snil_sl | exact .to_any) (by simp))
        | true =>
          rw [covers_trans hpq hqr] at cpr
          (conv => whnf)
          refine ⟨_, [], fun h nx _ => pureV_pure cpr ⟨.fr rfl, .fr rfl, trivial⟩, by simp, ?_⟩
          (conv => whnf)
          refine ⟨drawOk_fast (by kernel_rfl), ?_⟩
          (conv => whnf)
          refine callV_pure works20_ok trivial ?_
          (conv => whnf)
          exact (Ends.pure [] (by first | exact .ptr rfl (by omega) | exact .osl_of rfl (by omega) rfl | exact .fr rfl | exact LeL.fr rfl | exact .yld rfl (by omega) | exact .eptr rfl (by omega) | exact .osl0 | exact .snil_sl | exact .to_any) (by simp))
    case' h_1 hc =>
      have hc : checkU u = 0 := by simpa using hc
      obtain ⟨w1, w2⟩ := raw_then_parse hc
      have pb := parseU20_ok true (bodyB u) (by have := body_le hc; omega)
      rw [parseUV, w1, w2] at pb
      rw [if_pos hc]
      (conv => whnf)
      refine callV_pure pb ⟨.fr rfl, trivial⟩ ?_
      (conv => whnf)
      refine callV_pure (num_ok 0) ⟨.int_of rfl, trivial⟩ ?_
      (conv => whnf)
      refine callV_pure su ⟨.fr rfl, .fr rfl, trivial⟩ ?_
      (conv => whnf)
      refine callV_pure sa ⟨.fr rfl, .fr rfl, trivial⟩ ?_
      (conv => whnf)
      (conv => whnf)
      refine ⟨_, [], fun h nx _ => pureV_pure cpp ⟨.fr rfl, .fr rfl, trivial⟩, by simp, ?_⟩
      (conv => whnf)
      refine ⟨_, [], fun h nx _ => pureV_pure cp ⟨.fr rfl, trivial⟩, by simp, ?_⟩
      (conv => whnf)
      split
      case h_1 hh => exfalso; simp at hh
      (conv => whnf)
      refine ⟨_, [], fun h nx _ => pureV_pure cpq ⟨.fr rfl, .fr rfl, trivial⟩, by simp, ?_⟩
      (conv => whnf)
      cases hpq : coversP p q with
      | false =>
        rw [hpq] at cpq
        (conv => whnf)
        refine ⟨_, [], fun h nx _ => pureV_pure cpq ⟨.fr rfl, .fr rfl, trivial⟩, by simp, ?_⟩
        (conv => whnf)
        refine ⟨drawOk_fast (by kernel_rfl), ?_⟩
        (conv => whnf)
        refine callV_pure works20_ok trivial ?_
        (conv => whnf)
        exact (Ends.pure [] (by first | exact .ptr rfl (by omega) | exact .osl_of rfl (by omega) rfl | exact .fr rfl | exact LeL.fr rfl | exact .yld rfl (by omega) | exact .eptr rfl (by omega) | exact .osl0 | exact .snil_sl | exact .to_any) (by simp))
      | true =>
      rw [hpq] at cpq
      (conv => whnf)
      refine ⟨_, [], fun h nx _ => pureV_pure cqp ⟨.fr rfl, .fr rfl, trivial⟩, by simp, ?_⟩
      (conv => whnf)
      cases hqp : coversP q p with
      | true =>
        have e := covers_anti hpq hqp
        (conv => whnf)
        refine neqP p q ?_
        rw [decide_eq_true e]
        (conv => whnf)
        refine ⟨_, [], fun h nx _ => pureV_pure cpq ⟨.fr rfl, .fr rfl, trivial⟩, by simp, ?_⟩
        (conv => whnf)
        refine ⟨_, [], fun h nx _ => pureV_pure cqr ⟨.fr rfl, .fr rfl, trivial⟩, by simp, ?_⟩
        (conv => whnf)
        cases hqr : coversP q r with
        | false =>
          (conv => whnf)
          refine ⟨drawOk_fast (by kernel_rfl), ?_⟩
          (conv => whnf)
          refine callV_pure works20_ok trivial ?_
          (conv => whnf)
          exact (Ends.pure [] (by first | exact .ptr rfl (by omega) | exact .osl_of rfl (by omega) rfl | exact .fr rfl | exact LeL.fr rfl | exact .yld rfl (by omega) | exact .eptr rfl (by omega) | exact .osl0 | exact .snil_sl | exact .to_any) (by simp))
        | true =>
          rw [covers_trans hpq hqr] at cpr
          (conv => whnf)
          refine ⟨_, [], fun h nx _ => pureV_pure cpr ⟨.fr rfl, .fr rfl, trivial⟩, by simp, ?_⟩
          (conv => whnf)
          refine ⟨drawOk_fast (by kernel_rfl), ?_⟩
          (conv => whnf)
          refine callV_pure works20_ok trivial ?_
          (conv => whnf)
          exact (Ends.pure [] (by first | exact .ptr rfl (by omega) | exact .osl_of rfl (by omega) rfl | exact .fr rfl | exact LeL.fr rfl | exact .yld rfl (by omega) | exact .eptr rfl (by omega) | exact .osl0 | exact .snil_sl | exact .to_any) (by simp))
      | false =>
        (conv => whnf)
        refine ⟨_, [], fun h nx _ => pureV_pure cpq ⟨.fr rfl, .fr rfl, trivial⟩, by simp, ?_⟩
        (conv => whnf)
        refine ⟨_, [], fun h nx _ => pureV_pure cqr ⟨.fr rfl, .fr rfl, trivial⟩, by simp, ?_⟩
        (conv => whnf)
        cases hqr : coversP q r with
        | false =>
          (conv => whnf)
          refine ⟨drawOk_fast (by kernel_rfl), ?_⟩
          (conv => whnf)
          refine callV_pure works20_ok trivial ?_
          (conv => whnf)
          exact (Ends.pure [] (by first | exact .ptr rfl (by omega) | exact .osl_of rfl (by omega) rfl | exact .fr rfl | exact LeL.fr rfl | exact .yld rfl (by omega) | exact .eptr rfl (by omega) | exact .osl0 | exact .snil_sl | exact .to_any) (by simp))
        | true =>
          rw [covers_trans hpq hqr] at cpr
          (conv => whnf)
          refine ⟨_, [], fun h nx _ => pureV_pure cpr ⟨.fr rfl, .fr rfl, trivial⟩, by simp, ?_⟩
          (conv => whnf)
          refine ⟨drawOk_fast (by kernel_rfl), ?_⟩
          (conv => whnf)
          refine callV_pure works20_ok trivial ?_
          (conv => whnf)
          exact (Ends.pure [] (by first | exact .ptr rfl (by omega) | exact .osl_of rfl (by omega) rfl | exact .fr rfl | exact LeL.fr rfl | exact .yld rfl (by omega) | exact .eptr rfl (by omega) | exact .osl0 | exact .snil_sl | exact .to_any) (by simp))
end Go.Proofs.YtehhligadnlijaaGreatDoor
