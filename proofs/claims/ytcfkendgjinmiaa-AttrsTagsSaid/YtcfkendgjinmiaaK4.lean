/- Joined: D2, E1, E2, E3, E4, E5, E6, E7, E8, E9, E10, F1, F2. -/
import Derived.Test.YtcfkendgjinmiaaK3
import Derived.Laws.BitsLemmas
/- The law of reading: what bytes say. -/
set_option linter.unusedVariables false
set_option linter.unusedSimpArgs false
namespace Go.Proofs.Ytcfkendgjinmiaa
open Go.RowKit

theorem numsK_take (r : List UInt8) (m n : Nat) (h : 4 * m ≤ n) : numsK (r.take n) m = numsK r m := by
  unfold numsK
  refine List.map_congr_left fun j hj => ?_
  have hj : j < m := by simpa using hj
  congr 1
  rw [List.drop_take, List.take_take]
  congr 1
  omega
/-- A path's parts, each with its kind. -/
def legs (v : List UInt8) : Option (List (UInt8 × List UInt32)) :=
  match v with
  | [] => some []
  | [_] => none
  | x :: n :: r => if r.length < 4 * n.toNat then none else (legs (r.drop (4 * n.toNat))).map ((x, numsK r n.toNat) :: ·)
termination_by v.length
decreasing_by simp; omega
theorem legs_nil : legs [] = some [] := by rw [legs]
theorem legs_one (x : UInt8) : legs [x] = none := by rw [legs]
theorem legs_no {x n : UInt8} {r : List UInt8} (h : r.length < 4 * n.toNat) : legs (x :: n :: r) = none := by rw [legs, if_pos h]
theorem legs_go {x n : UInt8} {r : List UInt8} (h : ¬ r.length < 4 * n.toNat) : legs (x :: n :: r) = (legs (r.drop (4 * n.toNat))).map ((x, numsK r n.toNat) :: ·) := by rw [legs, if_neg h]
def kindOk (x : UInt8) : Bool := x == 1 || x == 2
def legOf (p : UInt8 × List UInt32) : Leg := ⟨p.1 == 1, p.2⟩
def pathE (v : List UInt8) : Int := match legs v with
  | none => 294
  | some l => if l.all (fun p => kindOk p.1) && pathOk (l.map legOf) then 0 else 296
def pathA (v : List UInt8) : List Leg := match legs v with
  | none => []
  | some l => l.map legOf
/-- Whether a value is one of a code. -/
def lowE (c : Nat) (v : List UInt8) : Int :=
  if c = 1 then (if v.length ≠ 1 then 294 else if 2 < (v.getD 0 0).toNat then 295 else 0)
  else if c = 2 then pathE v
  else if c = 3 then (if v.length ≠ 4 then 294 else if wordOf v = 0 then 297 else 0)
  else if c = 4 then (if v.length ≠ 4 then 294 else 0)
  else if c = 5 then (if v.length ≠ 4 then 294 else 0)
  else (if v.length = 0 ∨ v.length % 4 ≠ 0 then 294 else if 16 < v.length / 4 ∨ rises (numsK v (v.length / 4)) = false then 298 else 0)
def lowA (c : Nat) (a : Attrs) (v : List UInt8) : Attrs :=
  if c = 1 then { a with origin := v.getD 0 0 }
  else if c = 2 then { a with path := pathA v }
  else if c = 3 then { a with next := wordOf v }
  else if c = 4 then { a with hasMed := true, med := wordOf v }
  else if c = 5 then { a with hasPref := true, pref := wordOf v }
  else { a with tags := numsK v (v.length / 4) }
def flagsI (c : Nat) : Int := if c = 1 then 64 else if c = 2 then 64 else if c = 3 then 64 else if c = 5 then 64 else if c = 4 then 128 else if c = 8 then 192 else -1
def byteN (b : List UInt8) (i : Nat) : Nat := (b.getD i 0).toNat
theorem byteN_lt (b : List UInt8) (i : Nat) : byteN b i < 256 := (b.getD i 0).toNat_lt
def lngB (b : List UInt8) : Bool := byteN b 0 / 16 % 2 == 1
def numB (b : List UInt8) : Nat := if lngB b then 256 * byteN b 2 + byteN b 3 else byteN b 2
def atB (b : List UInt8) : Nat := if lngB b then 4 else 3
def headE (b : List UInt8) (last : Nat) : Int :=
  if b.length < 3 then 290
  else if lngB b = true ∧ b.length < 4 then 290
  else if b.length < atB b + numB b then 290
  else if flagsI (byteN b 1) < 0 then 291
  else if (byteN b 0 : Int) - (if lngB b then 16 else 0) ≠ flagsI (byteN b 1) ∨ lngB b ≠ decide (255 < numB b) then 292
  else if byteN b 1 ≤ last then 293 else 0
def valB (b : List UInt8) : List UInt8 := (b.drop (atB b)).take (numB b)
def restB (b : List UInt8) : List UInt8 := b.drop (atB b + numB b)
theorem restB_lt {b : List UInt8} (h : b ≠ []) : (restB b).length < b.length := by
  have h0 := List.length_pos_iff.2 h
  have : 3 ≤ atB b := by unfold atB; split <;> omega
  simp only [restB, List.length_drop]
  omega
/-- What bytes say, or why nothing. -/
def parseA (b : List UInt8) (last seen : Nat) (a : Attrs) : Attrs × Int :=
  if hb : b = [] then (if seen = 3 then (a, 0) else (noA, 299))
  else if headE b last ≠ 0 then (noA, headE b last)
  else if lowE (byteN b 1) (valB b) ≠ 0 then (noA, lowE (byteN b 1) (valB b))
  else parseA (restB b) (byteN b 1) (if byteN b 1 ≤ 3 then seen + 1 else seen) (lowA (byteN b 1) a (valB b))
termination_by b.length
decreasing_by exact restB_lt hb
theorem parseA_nil (last seen : Nat) (a : Attrs) : parseA [] last seen a = if seen = 3 then (a, 0) else (noA, 299) := by rw [parseA]; simp
theorem parseA_head {b : List UInt8} {last seen : Nat} {a : Attrs} (hb : b ≠ []) (h : headE b last ≠ 0) : parseA b last seen a = (noA, headE b last) := by rw [parseA, dif_neg hb, if_pos h]
theorem parseA_low {b : List UInt8} {last seen : Nat} {a : Attrs} (hb : b ≠ []) (h : headE b last = 0) (h2 : lowE (byteN b 1) (valB b) ≠ 0) : parseA b last seen a = (noA, lowE (byteN b 1) (valB b)) := by
  rw [parseA, dif_neg hb, if_neg (by simp [h]), if_pos h2]
theorem parseA_go {b : List UInt8} {last seen : Nat} {a : Attrs} (hb : b ≠ []) (h : headE b last = 0) (h2 : lowE (byteN b 1) (valB b) = 0) :
    parseA b last seen a = parseA (restB b) (byteN b 1) (if byteN b 1 ≤ 3 then seen + 1 else seen) (lowA (byteN b 1) a (valB b)) := by
  rw [parseA, dif_neg hb, if_neg (by simp [h]), if_neg (by simp [h2])]
end Go.Proofs.Ytcfkendgjinmiaa
/- Contracts by reference: values read. -/
set_option linter.unusedVariables false
set_option linter.unusedSimpArgs false
namespace Go.Proofs.Ytcfkendgjinmiaa
open Go.RowKit
open Go.Proofs.Try (prog)
attribute [local irreducible] CallV RoundV

/-- A reader's attributes: the path's cell is nil until one is read. -/
def pathV (q : Bool) (a : Attrs) : V := if q then encLegs true a.path else .snil
theorem pathV_free (q : Bool) (a : Attrs) : Free (pathV q a) := by
  unfold pathV
  split
  · exact encLegs_free _ _
  · exact .snil
def cellsR (q : Bool) (a : Attrs) : List V := [cB a.origin, pathV q a, cW a.next, .bool a.hasMed, cW a.med, .bool a.hasPref, cW a.pref, encW true a.tags]
theorem cellsR_free (q : Bool) (a : Attrs) : ∀ v ∈ cellsR q a, Free v := by
  intro v hv
  simp only [cellsR, List.mem_cons, List.not_mem_nil, or_false] at hv
  rcases hv with rfl | rfl | rfl | rfl | rfl | rfl | rfl | rfl <;> first | exact .int | exact .bool | exact pathV_free _ _ | exact encW_free _ _
/-- How a function ends that was handed a pointer to a reader's attributes. -/
def RR (c : Nat) (v : List UInt8) (q : Bool) (a : Attrs) (B L S : V) : V → Heap → Nat → Prop := fun v' h' nx' =>
  ∃ c8, v' = .int .i64 (lowE c v) ∧ c8.length = 8 ∧ (∀ x ∈ c8, Free x) ∧ (lowE c v = 0 → c8 = cellsR (q || c == 2) (lowA c a v)) ∧ h' = [(0, some (.var true 78 (B :: L :: S :: c8)))] ∧ nx' = 1
theorem Ends.read {s : St} {v : V} {c : Nat} {w : List UInt8} {q : Bool} {a : Attrs} {B L S : V} {cells : List V} (Z : List Nat) (c8 : List V) (hb : hget s.h 0 = some (.var true 78 cells)) (hl8 : c8.length = 8) (hf : ∀ x ∈ c8, Free x)
    (hv : LeV s.h s.nx id 1 Z v (.int .i64 (lowE c w))) (hc : LeL s.h s.nx id 1 Z cells (B :: L :: S :: c8)) (he : lowE c w = 0 → c8 = cellsR (q || c == 2) (lowA c a w)) (hz : ∀ z ∈ Z, hget s.h z ≠ none) (h0 : 0 ∉ Z) : ∃ v1 h' nx', Ends 1 s v v1 h' nx' ∧ RR c w q a B L S v1 h' nx' :=
  ⟨.int .i64 (lowE c w), [(0, some (.var true 78 (B :: L :: S :: c8)))], 1, Ends.of id Z hv (LeH.of ⟨⟨by omega, .inl ⟨h0, _, hb, id, rfl, hc⟩⟩, trivial⟩ (fun _ _ _ _ h => h) (fun _ _ => rfl) (by omega) hz), c8, rfl, hl8, hf, he, rfl, rfl⟩
theorem LeL.anys {h : Heap} {nx : Nat} {ρ : Nat → Nat} {nx' : Nat} {Z : List Nat} : ∀ {cs : List V} {n : Nat}, cs.length = n → LeL h nx ρ nx' Z cs (List.replicate n .any)
  | [], 0, _ => trivial
  | [], n + 1, h => by simp at h
  | c :: cs, 0, h => by simp at h
  | c :: cs, n + 1, h => ⟨.to_any, LeL.anys (cs := cs) (by simpa using h)⟩
/-- .. with an error. -/
theorem Ends.readE {s : St} {c : Nat} {e : Int} {w : List UInt8} {q : Bool} {a : Attrs} {B L S : V} {c8 : List V} (hb : hget s.h 0 = some (.var true 78 (B :: L :: S :: c8))) (hl8 : c8.length = 8) (hB : Free B) (hL : Free L) (hS : Free S)
    (he : e = lowE c w) (hne : lowE c w ≠ 0) : ∃ v1 h' nx', Ends 1 s (.int .i64 e) v1 h' nx' ∧ RR c w q a B L S v1 h' nx' :=
  Ends.read [] (List.replicate 8 .any) hb (by simp) (by intro x hx; rw [List.eq_of_mem_replicate hx]; exact .any) (.int_of he) ⟨.free hB, .free hL, .free hS, .anys hl8⟩ (fun h => absurd h hne) (by simp) (by simp)
theorem Ends.readK {s : St} {c : Nat} {e : Int} {w : List UInt8} {q : Bool} {a : Attrs} {B L S : V} {c8 : List V} (hb : hget s.h 0 = some (.var true 78 (B :: L :: S :: c8))) (hB : Free B) (hL : Free L) (hS : Free S)
    (he : e = lowE c w) (h8 : c8 = cellsR (q || c == 2) (lowA c a w)) : ∃ v1 h' nx', Ends 1 s (.int .i64 e) v1 h' nx' ∧ RR c w q a B L S v1 h' nx' :=
  Ends.read [] c8 hb (by rw [h8]; rfl) (by rw [h8]; exact cellsR_free _ _) (.int_of he) ⟨.free hB, .free hL, .free hS, LeL.free (by rw [h8]; exact cellsR_free _ _)⟩ (fun _ => h8) (by simp) (by simp)

set_option maxRecDepth 100000 in
theorem read1_ok (fr : Bool) (v : List UInt8) (q : Bool) (a : Attrs) (B L S : V) (hB : Free B) (hL : Free L) (hS : Free S) : CallV prog 62 [.ptr 0 3, encB fr v] [(0, some (.var true 78 (B :: L :: S :: cellsR q a)))] 1 (RR 1 v q a B L S) := by
  refine callV_of (fn := Go.Proofs.Try.f62) (body := _) tab_ok mixed rfl rfl (by decide) (by simp [Go.Proofs.Try.f62]) ?_
  (conv => whnf)
  intro _
  (conv => whnf)
  split
  · rename_i h
    have h : v.length ≠ 1 := by simp at h; omega
    have e : lowE 1 v = 294 := by simp [lowE, h]
    (conv => whnf)
    exact Ends.readE rfl rfl hB hL hS e.symm (by rw [e]; decide)
  · rename_i h
    have h : v.length = 1 := by simp at h; omega
    obtain ⟨x, rfl⟩ := List.length_eq_one_iff.1 h
    (conv => whnf)
    refine ⟨rfl, [cB x], ⟨by decide, rfl⟩, ?_⟩
    (conv => whnf)
    refine ⟨rfl, [cB x], ⟨by decide, rfl⟩, ?_⟩
    (conv => whnf)
    split
    · rename_i h2
      have e : lowE 1 [x] = 295 := by
        simp at h2
        simp [lowE]
        omega
      (conv => whnf)
      exact Ends.readE rfl rfl hB hL hS e.symm (by rw [e]; decide)
    · rename_i h2
      have e : lowE 1 [x] = 0 := by
        simp at h2
        simp [lowE]
        omega
      (conv => whnf)
      exact Ends.readK rfl hB hL hS e.symm (by simp; rfl)
end Go.Proofs.Ytcfkendgjinmiaa
/- Contracts by reference: values of four bytes. -/
set_option linter.unusedVariables false
set_option linter.unusedSimpArgs false
namespace Go.Proofs.Ytcfkendgjinmiaa
open Go.RowKit
open Go.Proofs.Try (prog)
attribute [local irreducible] CallV RoundV

set_option maxRecDepth 100000 in
theorem read3_ok (fr : Bool) (v : List UInt8) (q : Bool) (a : Attrs) (B L S : V) (hB : Free B) (hL : Free L) (hS : Free S) : CallV prog 96 [.ptr 0 3, encB fr v, .iptr true [fnV 68]] [(0, some (.var true 78 (B :: L :: S :: cellsR q a)))] 1 (RR 3 v q a B L S) := by
  refine callV_of (fn := Go.Proofs.Try.f96) (body := _) tab_ok mixed rfl rfl (by decide) (by simp [Go.Proofs.Try.f96]) ?_
  (conv => whnf)
  intro _
  (conv => whnf)
  split
  · rename_i h
    have h : v.length ≠ 4 := by simp at h; omega
    have e : lowE 3 v = 294 := by simp [lowE, h]
    (conv => whnf)
    exact Ends.readE rfl rfl hB hL hS e.symm (by rw [e]; decide)
  · rename_i h
    have h : v.length = 4 := by simp at h; omega
    (conv => whnf)
    refine ⟨cW (wordOf v), [], fun h nx _ => pureV_pure (number_ok fr v) ⟨.free (encB_free _ _), trivial⟩, by simp, ?_⟩
    (conv => whnf)
    refine ⟨by kernel_rfl, ?_⟩
    (conv => whnf)
    refine callV_of (fn := Go.Proofs.Try.f68) (body := _) tab_ok mixed rfl rfl (by decide) (by simp [Go.Proofs.Try.f68]) ?_
    (conv => whnf)
    split
    · rename_i h2
      have h2 : wordOf v = 0 := UInt32.toNat_inj.1 (by simp at h2; simp; omega)
      (conv => whnf)
      refine ⟨_, _, _, Ends.here, ?_⟩
      (conv => whnf)
      have e : lowE 3 v = 297 := by simp [lowE, h, h2]
      exact Ends.readE rfl rfl hB hL hS e.symm (by rw [e]; decide)
    · rename_i h2
      have h2 : wordOf v ≠ 0 := fun h => by rw [h] at h2; simp at h2
      (conv => whnf)
      refine ⟨_, _, _, Ends.here, ?_⟩
      (conv => whnf)
      have e : lowE 3 v = 0 := by simp [lowE, h, h2]
      exact Ends.readK rfl hB hL hS e.symm (by simp; rfl)
set_option maxRecDepth 100000 in
theorem read4_ok (fr : Bool) (v : List UInt8) (q : Bool) (a : Attrs) (B L S : V) (hB : Free B) (hL : Free L) (hS : Free S) : CallV prog 96 [.ptr 0 3, encB fr v, .iptr true [fnV 71]] [(0, some (.var true 78 (B :: L :: S :: cellsR q a)))] 1 (RR 4 v q a B L S) := by
  refine callV_of (fn := Go.Proofs.Try.f96) (body := _) tab_ok mixed rfl rfl (by decide) (by simp [Go.Proofs.Try.f96]) ?_
  (conv => whnf)
  intro _
  (conv => whnf)
  split
  · rename_i h
    have h : v.length ≠ 4 := by simp at h; omega
    have e : lowE 4 v = 294 := by simp [lowE, h]
    (conv => whnf)
    exact Ends.readE rfl rfl hB hL hS e.symm (by rw [e]; decide)
  · rename_i h
    have h : v.length = 4 := by simp at h; omega
    (conv => whnf)
    refine ⟨cW (wordOf v), [], fun h nx _ => pureV_pure (number_ok fr v) ⟨.free (encB_free _ _), trivial⟩, by simp, ?_⟩
    (conv => whnf)
    refine ⟨by kernel_rfl, ?_⟩
    (conv => whnf)
    refine callV_of (fn := Go.Proofs.Try.f71) (body := _) tab_ok mixed rfl rfl (by decide) (by simp [Go.Proofs.Try.f71]) ?_
    (conv => whnf)
    refine ⟨_, _, _, Ends.here, ?_⟩
    (conv => whnf)
    have e : lowE 4 v = 0 := by simp [lowE, h]
    exact Ends.readK rfl hB hL hS e.symm (by simp; rfl)
set_option maxRecDepth 100000 in
theorem read5_ok (fr : Bool) (v : List UInt8) (q : Bool) (a : Attrs) (B L S : V) (hB : Free B) (hL : Free L) (hS : Free S) : CallV prog 96 [.ptr 0 3, encB fr v, .iptr true [fnV 74]] [(0, some (.var true 78 (B :: L :: S :: cellsR q a)))] 1 (RR 5 v q a B L S) := by
  refine callV_of (fn := Go.Proofs.Try.f96) (body := _) tab_ok mixed rfl rfl (by decide) (by simp [Go.Proofs.Try.f96]) ?_
  (conv => whnf)
  intro _
  (conv => whnf)
  split
  · rename_i h
    have h : v.length ≠ 4 := by simp at h; omega
    have e : lowE 5 v = 294 := by simp [lowE, h]
    (conv => whnf)
    exact Ends.readE rfl rfl hB hL hS e.symm (by rw [e]; decide)
  · rename_i h
    have h : v.length = 4 := by simp at h; omega
    (conv => whnf)
    refine ⟨cW (wordOf v), [], fun h nx _ => pureV_pure (number_ok fr v) ⟨.free (encB_free _ _), trivial⟩, by simp, ?_⟩
    (conv => whnf)
    refine ⟨by kernel_rfl, ?_⟩
    (conv => whnf)
    refine callV_of (fn := Go.Proofs.Try.f74) (body := _) tab_ok mixed rfl rfl (by decide) (by simp [Go.Proofs.Try.f74]) ?_
    (conv => whnf)
    refine ⟨_, _, _, Ends.here, ?_⟩
    (conv => whnf)
    have e : lowE 5 v = 0 := by simp [lowE, h]
    exact Ends.readK rfl hB hL hS e.symm (by simp; rfl)
end Go.Proofs.Ytcfkendgjinmiaa
/- Contract by reference: tags. -/
set_option linter.unusedVariables false
set_option linter.unusedSimpArgs false
namespace Go.Proofs.Ytcfkendgjinmiaa
open Go.RowKit
open Go.Proofs.Try (prog)
attribute [local irreducible] CallV RoundV

theorem tmod4 (n : Nat) : (n : Int).tmod 4 = (n % 4 : Nat) := by rw [Int.tmod_eq_emod_of_nonneg (by omega)]; omega
set_option maxRecDepth 100000 in
theorem read8_ok (fr : Bool) (v : List UInt8) (hv : v.length ≤ 1000000) (q : Bool) (a : Attrs) (B L S : V) (hB : Free B) (hL : Free L) (hS : Free S) : CallV prog 78 [.ptr 0 3, encB fr v] [(0, some (.var true 78 (B :: L :: S :: cellsR q a)))] 1 (RR 8 v q a B L S) := by
  refine callV_of (fn := Go.Proofs.Try.f78) (body := _) tab_ok mixed rfl rfl (by decide) (by simp [Go.Proofs.Try.f78]) ?_
  (conv => whnf)
  intro _
  (conv => whnf)
  split
  · rename_i h
    have h : v.length = 0 := by simpa using h
    have e : lowE 8 v = 294 := by simp [lowE, h]
    (conv => whnf)
    exact Ends.readE rfl rfl hB hL hS e.symm (by rw [e]; decide)
  rename_i h0
  have h0 : v.length ≠ 0 := by simpa using h0
  (conv => whnf)
  intro _
  (conv => whnf)
  refine ⟨by decide, ?_⟩
  (conv => whnf)
  split
  · rename_i h
    have h : v.length % 4 ≠ 0 := by rw [List.length_map, tmod4] at h; simp at h; omega
    have e : lowE 8 v = 294 := by simp [lowE, h]
    (conv => whnf)
    exact Ends.readE rfl rfl hB hL hS e.symm (by rw [e]; decide)
  rename_i h4
  have h4 : v.length % 4 = 0 := by rw [List.length_map, tmod4] at h4; simp at h4; omega
  (conv => whnf)
  refine callV_pure (numbers_ok fr v (v.length / 4) (by omega) (by omega)) ⟨.free (encB_free _ _), trivial⟩ ?_
  have hn : (numsK v (v.length / 4)).length = v.length / 4 := numsK_len _ _
  have hne : numsK v (v.length / 4) ≠ [] := by intro e; rw [e] at hn; simp at hn; omega
  (conv => whnf)
  intro _
  (conv => whnf)
  split
  · rename_i h
    have h : 16 < v.length / 4 := by simp [hn] at h; omega
    have e : lowE 8 v = 298 := by
      have := h0
      simp [lowE, h0, h4, h]
    (conv => whnf)
    exact Ends.readE rfl rfl hB hL hS e.symm (by rw [e]; decide)
  rename_i h16
  have h16 : ¬ 16 < v.length / 4 := by simp [hn] at h16; omega
  (conv => whnf)
  refine callV_pure (rise_ok true (numsK v (v.length / 4))) ⟨.free (encW_free _ _), trivial⟩ ?_
  cases hr : rises (numsK v (v.length / 4)) with
  | false =>
    have e : lowE 8 v = 298 := by simp [lowE, h0, h4, hr]
    (conv => whnf)
    exact Ends.readE rfl rfl hB hL hS e.symm (by rw [e]; decide)
  | true =>
    have e : lowE 8 v = 0 := by simp [lowE, h0, h4, hr, h16]
    (conv => whnf)
    exact Ends.readK rfl hB hL hS e.symm (by simp; rfl)
end Go.Proofs.Ytcfkendgjinmiaa
/- Contract by reference: a path. -/
set_option linter.unusedVariables false
set_option linter.unusedSimpArgs false
namespace Go.Proofs.Ytcfkendgjinmiaa
open Go.RowKit
open Go.Proofs.Try (prog)
attribute [local irreducible] CallV RoundV

abbrev rowsL (l : List Leg) : List (List V) := l.map (encLeg true)
/-- A path's value, read so far: what is left, what was told, and the law's word on the whole. -/
structure Way (v : List UInt8) where
  left : List UInt8
  told : List (UInt8 × List UInt32)
  law : legs v = (legs left).map (told ++ ·)
  len : left.length ≤ v.length
  few : 2 * told.length + left.length ≤ v.length
def wayA (told : List (UInt8 × List UInt32)) : List Leg := told.map legOf
/-- The cells ahead of and behind the path. -/
def cellsW (a : Attrs) (p : V) : List V := [cB a.origin, p, cW a.next, .bool a.hasMed, cW a.med, .bool a.hasPref, cW a.pref, encW true a.tags]
theorem u8_is (x : UInt8) (k : Nat) (hk : k < 256) : ((x.toNat : Int) == (k : Int)) = (x == UInt8.ofNat k) := by
  cases h : x == UInt8.ofNat k with
  | true =>
    have h := eq_of_beq h
    subst h
    simp [UInt8.toNat_ofNat']
    omega
  | false =>
    have h : x ≠ UInt8.ofNat k := by simpa using h
    simp only [beq_eq_false_iff_ne, ne_eq]
    intro e
    exact h (UInt8.toNat_inj.1 (by simp [UInt8.toNat_ofNat']; omega))
theorem u8_is1 (x : UInt8) : ((x.toNat : Int) == 1) = (x == 1) := u8_is x 1 (by decide)
theorem u8_is2 (x : UInt8) : ((x.toNat : Int) == 2) = (x == 2) := u8_is x 2 (by decide)
set_option maxRecDepth 100000 in
theorem readRoute_ok (fr : Bool) (v : List UInt8) (hv : v.length ≤ 1000000) (a : Attrs) (B L S : V) (hB : Free B) (hL : Free L) (hS : Free S) : CallV prog 64 [.ptr 0 3, encB fr v] [(0, some (.var true 78 (B :: L :: S :: cellsR false a)))] 1 (RR 2 v false a B L S) := by
  refine callV_of (fn := Go.Proofs.Try.f64) (body := _) tab_ok mixed rfl rfl (by decide) (by simp [Go.Proofs.Try.f64]) ?_
  (conv => whnf)
  refine vcg_loop tab_ok mixed (fun k : Way v => ⟨[(0, .ptr 0 3), (1, encB fr k.left), (5, .bool (k.told.all fun p => kindOk p.1))], [(0, some (.var true 78 (B :: L :: S :: cellsW a (.osl 1 2 0 k.told.length)))), (1, some (.arr true false 54 2 (rowsL (wayA k.told))))], 2⟩) (fun k => k.left.length) ⟨v, [], by simp, Nat.le_refl _, by simp⟩ ?_ (fun k => ?_)
  · refine Wk.of id [] ⟨.ptr rfl (by omega), .free (encB_free _ _), .bool_of rfl, trivial⟩ (LeH.of ⟨⟨by omega, .inl ⟨by simp, _, rfl, id, rfl, .free hB, .free hL, .free hS, .free .int, ?_, .free .int, .free .bool, .free .int, .free .bool, .free .int, .free (encW_free _ _), trivial⟩⟩, ⟨by omega, .inr ⟨by simp, _, _, _, _, rfl⟩⟩, trivial⟩ (fun _ _ _ _ h => h) (fun _ _ => rfl) (by omega) (by simp))
    exact .osl0
  obtain ⟨left, told, law, len, few⟩ := k
  rcases left with _ | ⟨x, _ | ⟨n, r⟩⟩
  · have hl : legs v = some told := by rw [law, legs_nil]; simp
    (conv => whnf)
    intro _
    (conv => whnf)
    split
    · rename_i hk
      have hk : (told.all fun p => kindOk p.1) = false := by simpa using hk
      have e : lowE 2 v = 296 := by simp only [lowE, pathE, hl, hk]; rfl
      (conv => whnf)
      exact Ends.readE rfl rfl hB hL hS e.symm (by rw [e]; decide)
    · rename_i hk
      have hk : (told.all fun p => kindOk p.1) = true := by simpa using hk
      (conv => whnf)
      refine callV_lend [1] (path_ok false (wayA told)) ⟨.less (v1 := encLegs true (wayA told)) (LeV.freeze_of (by simp) rfl (by simp [wayA]) (rowsLegs_free true (wayA told)) (by rw [List.drop_zero]; exact List.take_of_length_le (by simp [wayA]))) .legs, trivial⟩ (by intro v hv; simp at hv; subst hv; exact encLegs_cold _) (one_none rfl) .bool ?_
      cases hp : pathOk (wayA told) with
      | false =>
        have e : lowE 2 v = 296 := by simp only [lowE, pathE, hl, hk, show told.map legOf = wayA told from rfl, hp]; rfl
        (conv => whnf)
        exact Ends.readE rfl rfl hB hL hS e.symm (by rw [e]; decide)
      | true =>
        have e : lowE 2 v = 0 := by simp only [lowE, pathE, hl, hk, show told.map legOf = wayA told from rfl, hp]; rfl
        have ep : pathA v = wayA told := by simp only [pathA, hl]; rfl
        (conv => whnf)
        refine Ends.read [1] (cellsR true (lowA 2 a v)) rfl rfl (cellsR_free _ _) (.int_of e.symm) ⟨.free hB, .free hL, .free hS, .free .int, ?_, .free .int, .free .bool, .free .int, .free .bool, .free .int, .free (encW_free _ _), trivial⟩ (fun _ => rfl) (one_none rfl) (by simp)
        show LeV _ _ _ _ _ _ (encLegs true (pathA v))
        rw [ep]
        exact LeV.freeze_of (by simp) rfl (by simp [wayA]) (rowsLegs_free true (wayA told)) (by rw [List.drop_zero]; exact List.take_of_length_le (by simp [wayA]))
  · have e : lowE 2 v = 294 := by
      rw [legs_one] at law
      simp [lowE, pathE, law]
    (conv => whnf)
    intro _
    (conv => whnf)
    intro _
    (conv => whnf)
    exact Ends.readE rfl rfl hB hL hS e.symm (by rw [e]; decide)
  · have hw : IntKind.i64.wrap (2 + IntKind.i64.wrap (4 * IntKind.i64.wrap (n.toNat : Int))) = (2 + 4 * n.toNat : Nat) := by
      have := n.toNat_lt
      rw [wrap64 (n := (n.toNat : Int)) (by omega) (by omega), wrap64 (n := 4 * (n.toNat : Int)) (by omega) (by omega), wrap64 (by omega) (by omega)]
      omega
    (conv => whnf)
    intro _
    (conv => whnf)
    split
    case h_2 h => exact absurd h (by simp; omega)
    (conv => whnf)
    intro _
    (conv => whnf)
    intro _
    (conv => whnf)
    refine ⟨rfl, _, ⟨by simp, rfl⟩, ?_⟩
    (conv => whnf)
    split
    · rename_i h
      have h : r.length < 4 * n.toNat := by rw [hw] at h; simp at h; omega
      have e : lowE 2 v = 294 := by
        rw [legs_no h] at law
        simp [lowE, pathE, law]
      (conv => whnf)
      exact Ends.readE rfl rfl hB hL hS e.symm (by rw [e]; decide)
    rename_i h
    have h : ¬ r.length < 4 * n.toNat := by rw [hw] at h; simp at h; omega
    (conv => whnf)
    refine ⟨rfl, _, ⟨by simp, rfl⟩, ?_⟩
    (conv => whnf)
    have hsl : List.drop (Int.toNat 2) (List.take (IntKind.i64.wrap (2 + IntKind.i64.wrap (4 * IntKind.i64.wrap (n.toNat : Int)))).toNat (List.map (fun x => [V.int .u8 x.toNat]) (x :: n :: r))) = rowsB (r.take (4 * n.toNat)) := by
      rw [hw, Int.toNat_natCast, ← List.map_take, ← List.map_drop, show 2 + 4 * n.toNat = (4 * n.toNat) + 1 + 1 by omega]
      rfl
    have hnk : numsK (r.take (4 * n.toNat)) n.toNat = numsK r n.toNat := numsK_take _ _ _ (Nat.le_refl _)
    have hn256 := n.toNat_lt
    have hfew := few
    simp only [List.length_cons] at hfew
    have hsl2 : List.drop (IntKind.i64.wrap (2 + IntKind.i64.wrap (4 * IntKind.i64.wrap (n.toNat : Int)))).toNat (List.map (fun x => [V.int .u8 x.toNat]) (x :: n :: r)) = rowsB (r.drop (4 * n.toNat)) := by
      rw [hw, Int.toNat_natCast, ← List.map_drop, show 2 + 4 * n.toNat = (4 * n.toNat) + 1 + 1 by omega]
      rfl
    have law' : legs v = (legs (r.drop (4 * n.toNat))).map ((told ++ [(x, numsK r n.toNat)]) ++ ·) := by
      rw [law, legs_go h, Option.map_map]
      congr 1
      funext l
      simp
    have hall : ((told ++ [(x, numsK r n.toNat)]).all fun p => kindOk p.1) = ((told.all fun p => kindOk p.1) && kindOk x) := by simp
    cases hk : (told.all fun p => kindOk p.1) with
    | false =>
      (conv => whnf)
      refine ⟨rfl, _, ⟨by simp, rfl⟩, ?_⟩
      (conv => whnf)
      refine ⟨rfl, ⟨by simp, by rw [hw]; omega, by rw [hw]; simp; omega, by rw [hw]; simp; omega⟩, ?_⟩
      (conv => whnf)
      refine ⟨encW true (numsK r n.toNat), [], fun h nx _ => ?_, by simp, ?_⟩
      · rw [← hnk]
        exact pureV_pure (numbers_ok fr (r.take (4 * n.toNat)) n.toNat (by simp; omega) (by omega)) ⟨.eq_of (congrArg (V.sl fr 1) hsl) (encB_free _ _), trivial⟩
      (conv => whnf)
      refine ⟨rfl, by simp, ⟨rfl, rfl, rfl, rfl, by decide⟩, by simp [wayA], ⟨by simp [tab, tabOf, nth]; omega, by simp; omega⟩, ?_⟩
      (conv => whnf)
      refine ⟨by kernel_rfl, ?_⟩
      (conv => whnf)
      refine ⟨rfl, ⟨by rw [hw]; omega, by rw [hw]; simp; omega⟩, ?_⟩
      (conv => whnf)
      refine ⟨⟨r.drop (4 * n.toNat), told ++ [(x, numsK r n.toNat)], law', by simp at len ⊢; omega, by simp; omega⟩, Wk.of (renOf [(1, 3)]) [] ⟨.ptr rfl (by omega), .eq_of (congrArg (V.sl fr 1) hsl2) (encB_free _ _), .bool_of ?_, trivial⟩ (LeH.of ⟨⟨by omega, .inl ⟨by simp, _, rfl, id, rfl, .free hB, .free hL, .free hS, .free .int, .osl_of rfl (by omega) (by simp), .free .int, .free .bool, .free .int, .free .bool, .free .int, .free (encW_free _ _), trivial⟩⟩, ⟨by omega, .inl ⟨by simp, _, rfl, LeB.eq_of ?_ (rowsLegs_free true _)⟩⟩, trivial⟩ (show ∀ b ∈ [0, 1], ∀ b' ∈ [0, 1], renOf [(1, 3)] b = renOf [(1, 3)] b' → b = b' by decide) (show ∀ b, b < 1 → renOf [(1, 3)] b = b by decide) (by omega) (by simp)), by simp only [List.length_cons, List.length_drop]; omega⟩
      · symm
        exact (by rw [hall, hk]; rfl)
      · simp only
        rw [List.take_of_length_le (by simp [wayA])]
        simp [wayA, legOf, encLeg, u8_is1, encW]
    | true =>
      (conv => whnf)
      refine ⟨rfl, _, ⟨by simp, rfl⟩, ?_⟩
      (conv => whnf)
      split
      · rename_i h1
        have h1 : kindOk x = true := by
          simp only [u8_is1] at h1
          simp [kindOk, h1]
        (conv => whnf)
        refine ⟨rfl, _, ⟨by simp, rfl⟩, ?_⟩
        (conv => whnf)
        refine ⟨rfl, ⟨by simp, by rw [hw]; omega, by rw [hw]; simp; omega, by rw [hw]; simp; omega⟩, ?_⟩
        (conv => whnf)
        refine ⟨encW true (numsK r n.toNat), [], fun h nx _ => ?_, by simp, ?_⟩
        · rw [← hnk]
          exact pureV_pure (numbers_ok fr (r.take (4 * n.toNat)) n.toNat (by simp; omega) (by omega)) ⟨.eq_of (congrArg (V.sl fr 1) hsl) (encB_free _ _), trivial⟩
        (conv => whnf)
        refine ⟨rfl, by simp, ⟨rfl, rfl, rfl, rfl, by decide⟩, by simp [wayA], ⟨by simp [tab, tabOf, nth]; omega, by simp; omega⟩, ?_⟩
        (conv => whnf)
        refine ⟨by kernel_rfl, ?_⟩
        (conv => whnf)
        refine ⟨rfl, ⟨by rw [hw]; omega, by rw [hw]; simp; omega⟩, ?_⟩
        (conv => whnf)
        refine ⟨⟨r.drop (4 * n.toNat), told ++ [(x, numsK r n.toNat)], law', by simp at len ⊢; omega, by simp; omega⟩, Wk.of (renOf [(1, 3)]) [] ⟨.ptr rfl (by omega), .eq_of (congrArg (V.sl fr 1) hsl2) (encB_free _ _), .bool_of ?_, trivial⟩ (LeH.of ⟨⟨by omega, .inl ⟨by simp, _, rfl, id, rfl, .free hB, .free hL, .free hS, .free .int, .osl_of rfl (by omega) (by simp), .free .int, .free .bool, .free .int, .free .bool, .free .int, .free (encW_free _ _), trivial⟩⟩, ⟨by omega, .inl ⟨by simp, _, rfl, LeB.eq_of ?_ (rowsLegs_free true _)⟩⟩, trivial⟩ (show ∀ b ∈ [0, 1], ∀ b' ∈ [0, 1], renOf [(1, 3)] b = renOf [(1, 3)] b' → b = b' by decide) (show ∀ b, b < 1 → renOf [(1, 3)] b = b by decide) (by omega) (by simp)), by simp only [List.length_cons, List.length_drop]; omega⟩
        · symm
          exact (by rw [hall, hk, h1]; rfl)
        · simp only
          rw [List.take_of_length_le (by simp [wayA])]
          simp [wayA, legOf, encLeg, u8_is1, encW]
      · rename_i h1
        have h1 : kindOk x = (x == 2) := by
          simp only [u8_is1] at h1
          simp [kindOk, h1]
        (conv => whnf)
        refine ⟨rfl, _, ⟨by simp, rfl⟩, ?_⟩
        (conv => whnf)
        refine ⟨rfl, _, ⟨by simp, rfl⟩, ?_⟩
        (conv => whnf)
        refine ⟨rfl, ⟨by simp, by rw [hw]; omega, by rw [hw]; simp; omega, by rw [hw]; simp; omega⟩, ?_⟩
        (conv => whnf)
        refine ⟨encW true (numsK r n.toNat), [], fun h nx _ => ?_, by simp, ?_⟩
        · rw [← hnk]
          exact pureV_pure (numbers_ok fr (r.take (4 * n.toNat)) n.toNat (by simp; omega) (by omega)) ⟨.eq_of (congrArg (V.sl fr 1) hsl) (encB_free _ _), trivial⟩
        (conv => whnf)
        refine ⟨rfl, by simp, ⟨rfl, rfl, rfl, rfl, by decide⟩, by simp [wayA], ⟨by simp [tab, tabOf, nth]; omega, by simp; omega⟩, ?_⟩
        (conv => whnf)
        refine ⟨by kernel_rfl, ?_⟩
        (conv => whnf)
        refine ⟨rfl, ⟨by rw [hw]; omega, by rw [hw]; simp; omega⟩, ?_⟩
        (conv => whnf)
        refine ⟨⟨r.drop (4 * n.toNat), told ++ [(x, numsK r n.toNat)], law', by simp at len ⊢; omega, by simp; omega⟩, Wk.of (renOf [(1, 3)]) [] ⟨.ptr rfl (by omega), .eq_of (congrArg (V.sl fr 1) hsl2) (encB_free _ _), .bool_of ?_, trivial⟩ (LeH.of ⟨⟨by omega, .inl ⟨by simp, _, rfl, id, rfl, .free hB, .free hL, .free hS, .free .int, .osl_of rfl (by omega) (by simp), .free .int, .free .bool, .free .int, .free .bool, .free .int, .free (encW_free _ _), trivial⟩⟩, ⟨by omega, .inl ⟨by simp, _, rfl, LeB.eq_of ?_ (rowsLegs_free true _)⟩⟩, trivial⟩ (show ∀ b ∈ [0, 1], ∀ b' ∈ [0, 1], renOf [(1, 3)] b = renOf [(1, 3)] b' → b = b' by decide) (show ∀ b, b < 1 → renOf [(1, 3)] b = b by decide) (by omega) (by simp)), by simp only [List.length_cons, List.length_drop]; omega⟩
        · symm
          exact (by rw [hall, hk, h1]; simp [u8_is2])
        · simp only
          rw [List.take_of_length_le (by simp [wayA])]
          simp [wayA, legOf, encLeg, u8_is1, encW]
end Go.Proofs.Ytcfkendgjinmiaa
/- Contract by reference: one attribute read. -/
set_option linter.unusedVariables false
set_option linter.unusedSimpArgs false
namespace Go.Proofs.Ytcfkendgjinmiaa
open Go.RowKit
open Go.Proofs.Try (prog)
attribute [local irreducible] CallV RoundV

theorem and16 : ∀ n : Nat, n < 256 → decide (0 < bits .and .u8 (n : Int) 16) = (n / 16 % 2 == 1) := by decide +kernel
theorem andNot16 : ∀ n : Nat, n < 256 → bits .andNot .u8 (n : Int) 16 = (n : Int) - (if (n / 16 % 2 == 1) = true then 16 else 0) := by decide +kernel
theorem or_len (x y : UInt8) : bits .or .i64 (IntKind.i64.wrap (IntKind.i64.wrap (x.toNat : Int) * 2 ^ (min (Int.toNat 8) IntKind.i64.bits))) (IntKind.i64.wrap (y.toNat : Int)) = (256 * x.toNat + y.toNat : Nat) := by
  have hx := x.toNat_lt
  have hy := y.toNat_lt
  have e : (2 : Int) ^ (min (Int.toNat 8) IntKind.i64.bits) = 256 := by decide
  rw [e, wrap64 (n := (x.toNat : Int)) (by omega) (by omega), wrap64 (n := (y.toNat : Int)) (by omega) (by omega), wrap64 (by omega) (by omega)]
  rw [bits_join .i64 63 (by decide) (fun n h0 h1 => by rw [wrap64] <;> omega) 8 _ _ (by omega) (by omega) (by omega) (by omega) (by omega) (by omega)]
  omega
def oneE (b : List UInt8) (last : Nat) : Int := if headE b last ≠ 0 then headE b last else lowE (byteN b 1) (valB b)
def readerV (fr : Bool) (b : List UInt8) (last seen : Nat) (q : Bool) (a : Attrs) : List V := encB fr b :: .int .u8 last :: cI seen :: cellsR q a
/-- How one ends. -/
def OneR (fr : Bool) (b : List UInt8) (last seen : Nat) (q : Bool) (a : Attrs) : V → Heap → Nat → Prop := fun v' h' nx' =>
  ∃ cells', v' = .int .i64 (oneE b last) ∧ (∀ x ∈ cells', Free x) ∧ (oneE b last = 0 → cells' = readerV fr (restB b) (byteN b 1) (if byteN b 1 ≤ 3 then seen + 1 else seen) (q || byteN b 1 == 2) (lowA (byteN b 1) a (valB b))) ∧ h' = [(0, some (.var true 78 cells'))] ∧ nx' = 1
theorem Ends.oneE {s : St} {e : Int} {fr : Bool} {b : List UInt8} {last seen : Nat} {q : Bool} {a : Attrs} {cells : List V} (hb : hget s.h 0 = some (.var true 78 cells)) (hf : ∀ x ∈ cells, Free x) (he : e = Go.Proofs.Ytcfkendgjinmiaa.oneE b last) (hne : Go.Proofs.Ytcfkendgjinmiaa.oneE b last ≠ 0) :
    ∃ v1 h' nx', Ends 1 s (.int .i64 e) v1 h' nx' ∧ OneR fr b last seen q a v1 h' nx' :=
  ⟨.int .i64 (Go.Proofs.Ytcfkendgjinmiaa.oneE b last), [(0, some (.var true 78 cells))], 1, Ends.of id [] (.int_of he) (LeH.of ⟨⟨by omega, .inl ⟨by simp, _, hb, id, rfl, LeL.free hf⟩⟩, trivial⟩ (fun _ _ _ _ h => h) (fun _ _ => rfl) (by omega) (by simp)), cells, rfl, hf, fun h => absurd h hne, rfl, rfl⟩
theorem Ends.oneK {s : St} {e : Int} {fr : Bool} {b : List UInt8} {last seen : Nat} {q : Bool} {a : Attrs} {cells cells' : List V} (hb : hget s.h 0 = some (.var true 78 cells)) (hf : ∀ x ∈ cells', Free x) (hle : LeL s.h s.nx id 1 [] cells cells') (he : e = Go.Proofs.Ytcfkendgjinmiaa.oneE b last)
    (h : Go.Proofs.Ytcfkendgjinmiaa.oneE b last = 0 → cells' = readerV fr (restB b) (byteN b 1) (if byteN b 1 ≤ 3 then seen + 1 else seen) (q || byteN b 1 == 2) (lowA (byteN b 1) a (valB b))) :
    ∃ v1 h' nx', Ends 1 s (.int .i64 e) v1 h' nx' ∧ OneR fr b last seen q a v1 h' nx' :=
  ⟨.int .i64 (Go.Proofs.Ytcfkendgjinmiaa.oneE b last), [(0, some (.var true 78 cells'))], 1, Ends.of id [] (.int_of he) (LeH.of ⟨⟨by omega, .inl ⟨by simp, _, hb, id, rfl, hle⟩⟩, trivial⟩ (fun _ _ _ _ h => h) (fun _ _ => rfl) (by omega) (by simp)), cells', rfl, hf, h, rfl, rfl⟩
theorem readerV_free (fr : Bool) (b : List UInt8) (last seen : Nat) (q : Bool) (a : Attrs) : ∀ x ∈ readerV fr b last seen q a, Free x := by
  intro x hx
  simp only [readerV, List.mem_cons] at hx
  rcases hx with rfl | rfl | rfl | hx
  · exact encB_free _ _
  · exact .int
  · exact .int
  · exact cellsR_free _ _ x hx
theorem headE_short {b : List UInt8} {last : Nat} (h : b.length < 3) : oneE b last = 290 := by simp [oneE, headE, h]
def codesL : List Nat := [1, 2, 3, 4, 5, 8]
def oneH (fr : Bool) (b : List UInt8) (last seen : Nat) (q : Bool) (a : Attrs) (x0 x1 : UInt8) (e : Int) : Heap :=
  [(0, some (.var true 78 (readerV fr b last seen q a))), (1, some (.var true 74 [.ptr 0 0])), (2, some (.var true 5 [cB x0])), (3, some (.var true 5 [cB x1])), (4, some (.var true 3 [cI (numB b)])), (5, some (.var true 3 [cI (atB b)])), (6, some (.var true 4 [.bool (lngB b)])), (7, some (.var true 31 [.int .i64 e]))]
theorem head_is {b : List UInt8} {last : Nat} (h3 : 3 ≤ b.length) (h4 : lngB b = true → 4 ≤ b.length) (hl : atB b + numB b ≤ b.length) (hf : 0 ≤ flagsI (byteN b 1)) :
    headE b last = if (byteN b 0 : Int) - (if lngB b then 16 else 0) ≠ flagsI (byteN b 1) ∨ lngB b ≠ decide (255 < numB b) then 292 else if byteN b 1 ≤ last then 293 else 0 := by
  unfold headE
  rw [if_neg (by omega), if_neg (by rintro ⟨h1, h2⟩; have := h4 h1; omega), if_neg (by omega), if_neg (by omega)]
/-- A value's call, in the reader that stands at b. -/
theorem callV_read {f : FuncId} {args args0 : List V} {c : Nat} {v : List UInt8} {q : Bool} {a : Attrs} {B L S : V} {h : Heap} {nx b : Nat} {K : V → Heap → Nat → Prop} (hc : CallV prog f args0 [(0, some (.var true 78 (B :: L :: S :: cellsR q a)))] 1 (RR c v q a B L S))
    (hb : hget h b = some (.var true 78 (B :: L :: S :: cellsR q a))) (hB : Free B) (hL : Free L) (hS : Free S) (ha : LeL h nx (fun _ => b) 1 [] args args0)
    (hK : ∀ c8 : List V, c8.length = 8 → (∀ x ∈ c8, Free x) → (lowE c v = 0 → c8 = cellsR (q || c == 2) (lowA c a v)) → K (.int .i64 (lowE c v)) ((b, some (.var true 78 (B :: L :: S :: c8))) :: h) nx) : CallV prog f args h nx K := by
  refine callV_ptr (R := fun v' cells' => ∃ c8, cells' = B :: L :: S :: c8 ∧ v' = .int .i64 (lowE c v) ∧ c8.length = 8 ∧ (∀ x ∈ c8, Free x) ∧ (lowE c v = 0 → c8 = cellsR (q || c == 2) (lowA c a v))) (hc.mono ?_) hb ?_ ha ?_
  · rintro v' h' nx' ⟨c8, rfl, h8, hf, hok, rfl, rfl⟩
    exact ⟨_, ⟨c8, rfl, rfl, h8, hf, hok⟩, rfl, rfl⟩
  · intro x hx
    simp only [List.mem_cons] at hx
    rcases hx with rfl | rfl | rfl | hx
    · exact hB
    · exact hL
    · exact hS
    · exact cellsR_free _ _ x hx
  · rintro v' cells' ⟨c8, rfl, rfl, h8, hf, hok⟩
    refine ⟨.int, fun x hx => ?_, hK c8 h8 hf hok⟩
    simp only [List.mem_cons] at hx
    rcases hx with rfl | rfl | rfl | hx
    · exact hB
    · exact hL
    · exact hS
    · exact hf x hx
theorem rest8_free {fr : Bool} {b : List UInt8} {x : UInt8} {seen : Nat} {c8 : List V} (h : ∀ x ∈ c8, Free x) {n : Nat} : ∀ v ∈ (V.sl fr 1 (List.drop n (b.map fun x => [V.int .u8 x.toNat])) :: cB x :: cI seen :: c8), Free v := by
  intro v hv
  simp only [List.mem_cons] at hv
  rcases hv with rfl | rfl | rfl | hv
  · rw [← List.map_drop]; exact encB_free _ _
  · exact .int
  · exact .int
  · exact h v hv
theorem eight {c8 : List V} (h : c8.length = 8) : ∃ a0 a1 a2 a3 a4 a5 a6 a7, c8 = [a0, a1, a2, a3, a4, a5, a6, a7] := by
  rcases c8 with _ | ⟨a0, _ | ⟨a1, _ | ⟨a2, _ | ⟨a3, _ | ⟨a4, _ | ⟨a5, _ | ⟨a6, _ | ⟨a7, _ | ⟨a8, l⟩⟩⟩⟩⟩⟩⟩⟩⟩
  all_goals first | (exact ⟨a0, a1, a2, a3, a4, a5, a6, a7, rfl⟩) | (simp at h)
theorem LeL.of_eq {h : Heap} {nx : Nat} {ρ : Nat → Nat} {nx' : Nat} {Z : List Nat} {cs cs' : List V} (e : cs = cs') (hf : ∀ v ∈ cs', Free v) : LeL h nx ρ nx' Z cs cs' := by subst e; exact LeL.free hf
theorem attrV_free : Free (.sl true 5 attrRows) := .sl attrRows_free
theorem attributesV_cap : Free (.iptr true [.sl true 5 attrRows]) := .iptr (by intro v hv; simp at hv; subst hv; exact attrV_free)
theorem rest_free (fr : Bool) (b : List UInt8) (x : UInt8) (seen : Nat) (q : Bool) (a : Attrs) {n : Nat} : ∀ v ∈ (V.sl fr 1 (List.drop n (b.map fun x => [V.int .u8 x.toNat])) :: cB x :: cI seen :: cellsR q a), Free v := by
  intro v hv
  simp only [List.mem_cons] at hv
  rcases hv with rfl | rfl | rfl | hv
  · rw [← List.map_drop]; exact encB_free _ _
  · exact .int
  · exact .int
  · exact cellsR_free _ _ v hv
theorem iptr_fn_free (n : Nat) : Free (.iptr true [fnV n]) := .iptr (by intro v hv; simp at hv; subst hv; exact fnV_free _)
theorem flags_none {n : Nat} (h : ∀ j, j < 6 → codesL.getD j 0 ≠ n) : flagsI n = -1 := by
  have h0 := h 0 (by omega)
  have h1 := h 1 (by omega)
  have h2 := h 2 (by omega)
  have h3 := h 3 (by omega)
  have h4 := h 4 (by omega)
  have h5 := h 5 (by omega)
  simp [codesL] at h0 h1 h2 h3 h4 h5
  unfold flagsI
  rw [if_neg (by omega), if_neg (by omega), if_neg (by omega), if_neg (by omega), if_neg (by omega), if_neg (by omega)]
set_option maxRecDepth 100000 in
set_option maxHeartbeats 8000000 in
theorem one_ok (fr : Bool) (b : List UInt8) (hb : b.length ≤ 1000000) (last seen : Nat) (hlast : last < 256) (hseen : seen ≤ 1000000) (q : Bool) (hq : last < 2 → q = false) (a : Attrs) :
    CallV prog 45 [.ptr 0 0] [(0, some (.var true 78 (readerV fr b last seen q a)))] 1 (OneR fr b last seen q a) := by
  refine callV_of (fn := Go.Proofs.Try.f45) (body := _) tab_ok mixed rfl rfl (by decide) (by simp [Go.Proofs.Try.f45]) ?_
  (conv => whnf)
  intro _
  (conv => whnf)
  split
  · rename_i h
    have h : b.length < 3 := by simp at h; omega
    have e := headE_short (last := last) h
    (conv => whnf)
    exact Ends.oneE rfl (readerV_free _ _ _ _ _ _) e.symm (by rw [e]; decide)
  rename_i h
  have h : 3 ≤ b.length := by simp at h; omega
  obtain ⟨x0, x1, x2, r, hX⟩ : ∃ x0 x1 x2 r, b = x0 :: x1 :: x2 :: r := by
    rcases b with _ | ⟨x0, _ | ⟨x1, _ | ⟨x2, r⟩⟩⟩
    · simp at h
    · simp at h
    · simp at h
    · exact ⟨x0, x1, x2, r, rfl⟩
  have h0 := x0.toNat_lt
  have h1 := x1.toNat_lt
  have h2 := x2.toNat_lt
  have n0 : byteN b 0 = x0.toNat := by rw [hX]; rfl
  have n1 : byteN b 1 = x1.toNat := by rw [hX]; rfl
  have n2 : byteN b 2 = x2.toNat := by rw [hX]; rfl
  have w2 : IntKind.i64.wrap (x2.toNat : Int) = x2.toNat := wrap64 (by omega) (by omega)
  have eL : decide (0 < bits .and .u8 (x0.toNat : Int) 16) = lngB b := by rw [and16 x0.toNat h0, lngB, n0]
  (conv => whnf)
  refine ⟨rfl, [cB x0], ⟨by simp, by rw [hX]; rfl⟩, ?_⟩
  (conv => whnf)
  refine ⟨rfl, [cB x1], ⟨by simp, by rw [hX]; rfl⟩, ?_⟩
  (conv => whnf)
  refine ⟨rfl, [cB x2], ⟨by simp, by rw [hX]; rfl⟩, ?_⟩
  (conv => whnf)
  refine ⟨by kernel_rfl, ?_⟩
  (conv => whnf)
  rw [eL]
  cases hL : lngB b with
  | false =>
    have eN : numB b = x2.toNat := by simp [numB, hL, n2]
    have eA : atB b = 3 := by simp [atB, hL]
    have w3 : IntKind.i64.wrap (3 + IntKind.i64.wrap (x2.toNat : Int)) = (atB b + numB b : Nat) := by rw [w2, eN, eA, wrap64] <;> omega
    (conv => whnf)
    refine ⟨by kernel_rfl, ?_⟩
    (conv => whnf)
    split
    · rename_i h3
      have h3 : b.length < atB b + numB b := by rw [w3, List.length_map] at h3; simp at h3; omega
      have e : oneE b last = 290 := by simp [oneE, headE, hL, h3]
      (conv => whnf)
      exact Ends.oneE rfl (readerV_free _ _ _ _ _ _) e.symm (by rw [e]; decide)
    rename_i h3
    have h3 : atB b + numB b ≤ b.length := by rw [w3, List.length_map] at h3; simp at h3; omega
    have h4 : lngB b = true → 4 ≤ b.length := fun h => by rw [hL] at h; cases h
    have hAN : IntKind.i64.wrap ((atB b : Int) + (numB b : Int)) = (atB b + numB b : Nat) := by rw [wrap64] <;> omega
    have hd : decide ((255 : Int) < (numB b : Int)) = decide (255 < numB b) := decide_eq_decide.2 (by omega)
    have hse : IntKind.i64.wrap ((seen : Int) + 1) = (seen + 1 : Nat) := by rw [wrap64] <;> omega
    (conv => whnf)
    refine callV_pure attributes_ok trivial ?_
    (conv => whnf)
    refine callV_loop [(1, .ptr 1 0), (3, .ptr 2 0), (4, .ptr 3 0), (5, .ptr 4 0), (6, .ptr 5 0), (7, .ptr 6 0), (8, .ptr 7 0)] ⟨rfl, rfl, rfl, rfl, rfl, rfl, rfl, trivial⟩ fun asg' body' hasg hbody => ?_
    refine callV_of (fn := Go.Proofs.Try.f95) (body := _) tab_ok mixed rfl rfl (by decide) (by simp [Go.Proofs.Try.f95]) ?_
    (conv => whnf)
    intro _
    (conv => whnf)
    refine vcg_loop tab_ok mixed (fun k : {k : Nat // k ≤ 6 ∧ ∀ j, j < k → codesL.getD j 0 ≠ x1.toNat} => ⟨[(0, .yld 8), (1, .iptr true [.sl true 5 attrRows]), (5, .sl true 5 attrRows), (6, .int .i64 6), (7, cI k.1)], (8, some (.loop 141 [(1, .ptr 1 0), (3, .ptr 2 0), (4, .ptr 3 0), (5, .ptr 4 0), (6, .ptr 5 0), (7, .ptr 6 0), (8, .ptr 7 0)] [72] asg' body' .ready none)) :: oneH fr b last seen q a x0 x1 291, 9⟩) (fun k => 6 - k.1) ⟨0, by omega, by omega⟩ ?_ (fun k => ?_)
    · refine Wk.of id [] ⟨.yld rfl (by omega), .free attributesV_cap, .free attrV_free, .int_of rfl, .int_of rfl, trivial⟩ (LeH.of ⟨⟨by omega, .inl ⟨by simp, _, rfl, rfl, rfl, rfl, rfl, rfl, rfl, .ptr rfl (by omega), .ptr rfl (by omega), .ptr rfl (by omega), .ptr rfl (by omega), .ptr rfl (by omega), .ptr rfl (by omega), .ptr rfl (by omega), trivial⟩⟩,
        ⟨by omega, .inl ⟨by simp, _, rfl, LeB.free (blk := .var true 78 (readerV fr b last seen q a)) (readerV_free _ _ _ _ _ _)⟩⟩, ⟨by omega, .inl ⟨by simp, _, rfl, id, rfl, .ptr rfl (by omega), trivial⟩⟩, ⟨by omega, .inl ⟨by simp, _, rfl, id, rfl, .int_of rfl, trivial⟩⟩, ⟨by omega, .inl ⟨by simp, _, rfl, id, rfl, .int_of rfl, trivial⟩⟩,
        ⟨by omega, .inl ⟨by simp, _, rfl, id, rfl, .int_of (by rw [w2, eN]), trivial⟩⟩, ⟨by omega, .inl ⟨by simp, _, rfl, id, rfl, .int_of (by rw [eA]; rfl), trivial⟩⟩, ⟨by omega, .inl ⟨by simp, _, rfl, id, rfl, .bool_of hL.symm, trivial⟩⟩, ⟨by omega, .inl ⟨by simp, _, rfl, id, rfl, .int_of rfl, trivial⟩⟩, trivial⟩ (fun _ _ _ _ h => h) (fun _ _ => rfl) (by omega) (by simp))
    obtain ⟨k, hk, hne⟩ := k
    rcases k with _ | _ | _ | _ | _ | _ | _ | k
    case succ.succ.succ.succ.succ.succ.succ => omega
    case zero =>
      (conv => whnf)
      refine ⟨rfl, _, ⟨by simp, rfl⟩, ?_⟩
      (conv => whnf)
      subst hasg hbody
      refine roundV_of tab_ok mixed rfl (by simp) (show 8 < 10 by omega) ?_
      (conv => whnf)
      refine ⟨rfl, ?_⟩
      (conv => whnf)
      split
      · rename_i hc
        have hc : x1.toNat ≠ 1 := by simp at hc; omega
        (conv => whnf)
        refine ⟨rfl, ?_⟩
        (conv => whnf)
        refine ⟨⟨0 + 1, by omega, ?_⟩, Wk.of id [] ⟨.yld rfl (by omega), .free attributesV_cap, .free attrV_free, .int_of rfl, .int_of rfl, trivial⟩ (LeH.of ⟨⟨by omega, .inl ⟨by simp, _, rfl, rfl, rfl, rfl, rfl, rfl, rfl, .ptr rfl (by omega), .ptr rfl (by omega), .ptr rfl (by omega), .ptr rfl (by omega), .ptr rfl (by omega), .ptr rfl (by omega), .ptr rfl (by omega), trivial⟩⟩,
          ⟨by omega, .inl ⟨by simp, _, rfl, LeB.free (blk := .var true 78 (readerV fr b last seen q a)) (readerV_free _ _ _ _ _ _)⟩⟩, ⟨by omega, .inl ⟨by simp, _, rfl, id, rfl, .ptr rfl (by omega), trivial⟩⟩, ⟨by omega, .inl ⟨by simp, _, rfl, id, rfl, .free .int, trivial⟩⟩, ⟨by omega, .inl ⟨by simp, _, rfl, id, rfl, .free .int, trivial⟩⟩,
          ⟨by omega, .inl ⟨by simp, _, rfl, id, rfl, .free .int, trivial⟩⟩, ⟨by omega, .inl ⟨by simp, _, rfl, id, rfl, .free .int, trivial⟩⟩, ⟨by omega, .inl ⟨by simp, _, rfl, id, rfl, .free .bool, trivial⟩⟩, ⟨by omega, .inl ⟨by simp, _, rfl, id, rfl, .free .int, trivial⟩⟩, trivial⟩ (fun _ _ _ _ h => h) (fun _ _ => rfl) (by omega) (by simp)), by simp only; omega⟩
        intro j hj
        rcases Nat.lt_or_ge j 0 with h | h
        · exact hne j h
        · obtain rfl : j = 0 := by omega
          exact fun e => hc e.symm
      rename_i hc
      have hc : x1.toNat = 1 := by simp at hc; omega
      obtain rfl : x1 = 1 := UInt8.toNat_inj.1 hc
      have n1' : byteN b 1 = 1 := by rw [n1]; rfl
      (conv => whnf)
      have hF : flagsI (byteN b 1) = 64 := by rw [n1']; rfl
      have hH := head_is (last := last) h h4 h3 (by rw [hF]; decide)
      rw [hF] at hH
      cases hf : (bits BinOp.andNot IntKind.u8 (x0.toNat : Int) 16 != 64)
      case true =>
        have e : oneE b last = 292 := by
          have : headE b last = 292 := by
            rw [hH, if_pos]
            left
            rw [andNot16 _ h0] at hf
            rw [n0, show lngB b = (x0.toNat / 16 % 2 == 1) by rw [lngB, n0]]
            simpa using hf
          simp [oneE, this]
        (conv => whnf)
        refine ⟨rfl, ?_⟩
        (conv => whnf)
        refine ⟨_, _, _, Ends.here, ?_⟩
        (conv => whnf)
        refine ⟨rfl, ⟨by rw [hAN]; omega, by rw [hAN]; simp; omega⟩, ?_⟩
        (conv => whnf)
        refine ⟨by kernel_rfl, ?_⟩
        (conv => whnf)
        exact Ends.oneE rfl (rest_free _ _ _ _ _ _) e.symm (by rw [e]; decide)
      have hf : (byteN b 0 : Int) - (if lngB b then 16 else 0) = 64 := by
        rw [andNot16 _ h0] at hf
        rw [n0, show lngB b = (x0.toNat / 16 % 2 == 1) by rw [lngB, n0]]
        simpa using hf
      (conv => whnf)
      split
      · rename_i hg
        have e : oneE b last = 292 := by
          have : headE b last = 292 := by
            rw [hH, if_pos]
            right
            rw [hd] at hg
            simpa using hg
          simp [oneE, this]
        (conv => whnf)
        refine ⟨rfl, ?_⟩
        (conv => whnf)
        refine ⟨_, _, _, Ends.here, ?_⟩
        (conv => whnf)
        refine ⟨rfl, ⟨by rw [hAN]; omega, by rw [hAN]; simp; omega⟩, ?_⟩
        (conv => whnf)
        refine ⟨by kernel_rfl, ?_⟩
        (conv => whnf)
        exact Ends.oneE rfl (rest_free _ _ _ _ _ _) e.symm (by rw [e]; decide)
      rename_i hg
      have hg : lngB b = decide (255 < numB b) := by rw [hd] at hg; simpa using hg
      rw [if_neg (by rintro (h | h) <;> contradiction)] at hH
      (conv => whnf)
      refine ⟨by kernel_rfl, ?_⟩
      (conv => whnf)
      split
      · rename_i hr
        have e : oneE b last = 293 := by
          have : headE b last = 293 := by
            rw [hH, if_pos]
            rw [n1']
            simp at hr
            omega
          simp [oneE, this]
        (conv => whnf)
        refine ⟨rfl, ?_⟩
        (conv => whnf)
        refine ⟨_, _, _, Ends.here, ?_⟩
        (conv => whnf)
        refine ⟨rfl, ⟨by rw [hAN]; omega, by rw [hAN]; simp; omega⟩, ?_⟩
        (conv => whnf)
        refine ⟨by kernel_rfl, ?_⟩
        (conv => whnf)
        exact Ends.oneE rfl (rest_free _ _ _ _ _ _) e.symm (by rw [e]; decide)
      rename_i hr
      have hr : ¬ 1 ≤ last := by simp at hr; omega
      rw [if_neg (by rw [n1']; exact hr)] at hH
      (conv => whnf)
      refine ⟨rfl, ⟨by omega, by rw [hAN]; omega, by rw [hAN]; simp; omega, by rw [hAN]; simp; omega⟩, ?_⟩
      (conv => whnf)
      refine ⟨by kernel_rfl, ?_⟩
      (conv => whnf)
      have hsl : V.sl fr 1 (List.drop (atB b : Int).toNat (List.take (IntKind.i64.wrap ((atB b : Int) + (numB b : Int))).toNat (List.map (fun x => [V.int .u8 x.toNat]) b))) = encB fr (valB b) := by
        rw [hAN, Int.toNat_natCast, Int.toNat_natCast, ← List.map_take, ← List.map_drop, List.drop_take, Nat.add_sub_cancel_left]
        rfl
      have hsr : V.sl fr 1 (List.drop (IntKind.i64.wrap ((atB b : Int) + (numB b : Int))).toNat (List.map (fun x => [V.int .u8 x.toNat]) b)) = encB fr (restB b) := by
        rw [hAN, Int.toNat_natCast, ← List.map_drop]
        rfl
      have hvl : (valB b).length ≤ 1000000 := by simp [valB]; omega
      refine callV_read (b := 0) (read1_ok fr (valB b) q a _ _ _ (encB_free _ _) .int .int) rfl (encB_free _ _) .int .int ⟨.ptr rfl (by omega), .eq_of hsl (encB_free _ _), trivial⟩ fun c8 h8 hf8 hok => ?_
      obtain ⟨a0, a1, a2, a3, a4, a5, a6, a7, rfl⟩ := eight h8
      have ee : oneE b last = lowE 1 (valB b) := by
        rw [oneE, if_neg (by simp [hH]), n1']
      (conv => whnf)
      refine ⟨rfl, ?_⟩
      (conv => whnf)
      refine ⟨_, _, _, Ends.here, ?_⟩
      (conv => whnf)
      cases he : (lowE 1 (valB b) == 0) with
      | false =>
        have he' : lowE 1 (valB b) ≠ 0 := by simpa using he
        (conv => whnf)
        refine ⟨rfl, ⟨by rw [hAN]; omega, by rw [hAN]; simp; omega⟩, ?_⟩
        (conv => whnf)
        refine ⟨by kernel_rfl, ?_⟩
        (conv => whnf)
        exact Ends.oneE rfl (rest8_free hf8) ee.symm (by rw [ee]; exact he')
      | true =>
        have he' : lowE 1 (valB b) = 0 := by simpa using he
        have h8 := hok he'
        (conv => whnf)
        refine ⟨rfl, ⟨by rw [hAN]; omega, by rw [hAN]; simp; omega⟩, ?_⟩
        (conv => whnf)
        refine ⟨by kernel_rfl, ?_⟩
        (conv => whnf)
        refine Ends.oneK (cells' := readerV fr (restB b) 1 (seen + 1) _ (lowA 1 a (valB b))) rfl (readerV_free _ _ _ _ _ _) ⟨.eq_of hsr (encB_free _ _), .int_of rfl, .int_of hse, .of_eq h8 (cellsR_free _ _)⟩ ee.symm (fun _ => by rw [n1']; rfl)
    case succ.zero =>
      (conv => whnf)
      refine ⟨rfl, _, ⟨by simp, rfl⟩, ?_⟩
      (conv => whnf)
      subst hasg hbody
      refine roundV_of tab_ok mixed rfl (by simp) (show 8 < 10 by omega) ?_
      (conv => whnf)
      refine ⟨rfl, ?_⟩
      (conv => whnf)
      split
      · rename_i hc
        have hc : x1.toNat ≠ 2 := by simp at hc; omega
        (conv => whnf)
        refine ⟨rfl, ?_⟩
        (conv => whnf)
        refine ⟨⟨1 + 1, by omega, ?_⟩, Wk.of id [] ⟨.yld rfl (by omega), .free attributesV_cap, .free attrV_free, .int_of rfl, .int_of rfl, trivial⟩ (LeH.of ⟨⟨by omega, .inl ⟨by simp, _, rfl, rfl, rfl, rfl, rfl, rfl, rfl, .ptr rfl (by omega), .ptr rfl (by omega), .ptr rfl (by omega), .ptr rfl (by omega), .ptr rfl (by omega), .ptr rfl (by omega), .ptr rfl (by omega), trivial⟩⟩,
          ⟨by omega, .inl ⟨by simp, _, rfl, LeB.free (blk := .var true 78 (readerV fr b last seen q a)) (readerV_free _ _ _ _ _ _)⟩⟩, ⟨by omega, .inl ⟨by simp, _, rfl, id, rfl, .ptr rfl (by omega), trivial⟩⟩, ⟨by omega, .inl ⟨by simp, _, rfl, id, rfl, .free .int, trivial⟩⟩, ⟨by omega, .inl ⟨by simp, _, rfl, id, rfl, .free .int, trivial⟩⟩,
          ⟨by omega, .inl ⟨by simp, _, rfl, id, rfl, .free .int, trivial⟩⟩, ⟨by omega, .inl ⟨by simp, _, rfl, id, rfl, .free .int, trivial⟩⟩, ⟨by omega, .inl ⟨by simp, _, rfl, id, rfl, .free .bool, trivial⟩⟩, ⟨by omega, .inl ⟨by simp, _, rfl, id, rfl, .free .int, trivial⟩⟩, trivial⟩ (fun _ _ _ _ h => h) (fun _ _ => rfl) (by omega) (by simp)), by simp only; omega⟩
        intro j hj
        rcases Nat.lt_or_ge j 1 with h | h
        · exact hne j h
        · obtain rfl : j = 1 := by omega
          exact fun e => hc e.symm
      rename_i hc
      have hc : x1.toNat = 2 := by simp at hc; omega
      obtain rfl : x1 = 2 := UInt8.toNat_inj.1 hc
      have n1' : byteN b 1 = 2 := by rw [n1]; rfl
      (conv => whnf)
      have hF : flagsI (byteN b 1) = 64 := by rw [n1']; rfl
      have hH := head_is (last := last) h h4 h3 (by rw [hF]; decide)
      rw [hF] at hH
      cases hf : (bits BinOp.andNot IntKind.u8 (x0.toNat : Int) 16 != 64)
      case true =>
        have e : oneE b last = 292 := by
          have : headE b last = 292 := by
            rw [hH, if_pos]
            left
            rw [andNot16 _ h0] at hf
            rw [n0, show lngB b = (x0.toNat / 16 % 2 == 1) by rw [lngB, n0]]
            simpa using hf
          simp [oneE, this]
        (conv => whnf)
        refine ⟨rfl, ?_⟩
        (conv => whnf)
        refine ⟨_, _, _, Ends.here, ?_⟩
        (conv => whnf)
        refine ⟨rfl, ⟨by rw [hAN]; omega, by rw [hAN]; simp; omega⟩, ?_⟩
        (conv => whnf)
        refine ⟨by kernel_rfl, ?_⟩
        (conv => whnf)
        exact Ends.oneE rfl (rest_free _ _ _ _ _ _) e.symm (by rw [e]; decide)
      have hf : (byteN b 0 : Int) - (if lngB b then 16 else 0) = 64 := by
        rw [andNot16 _ h0] at hf
        rw [n0, show lngB b = (x0.toNat / 16 % 2 == 1) by rw [lngB, n0]]
        simpa using hf
      (conv => whnf)
      split
      · rename_i hg
        have e : oneE b last = 292 := by
          have : headE b last = 292 := by
            rw [hH, if_pos]
            right
            rw [hd] at hg
            simpa using hg
          simp [oneE, this]
        (conv => whnf)
        refine ⟨rfl, ?_⟩
        (conv => whnf)
        refine ⟨_, _, _, Ends.here, ?_⟩
        (conv => whnf)
        refine ⟨rfl, ⟨by rw [hAN]; omega, by rw [hAN]; simp; omega⟩, ?_⟩
        (conv => whnf)
        refine ⟨by kernel_rfl, ?_⟩
        (conv => whnf)
        exact Ends.oneE rfl (rest_free _ _ _ _ _ _) e.symm (by rw [e]; decide)
      rename_i hg
      have hg : lngB b = decide (255 < numB b) := by rw [hd] at hg; simpa using hg
      rw [if_neg (by rintro (h | h) <;> contradiction)] at hH
      (conv => whnf)
      refine ⟨by kernel_rfl, ?_⟩
      (conv => whnf)
      split
      · rename_i hr
        have e : oneE b last = 293 := by
          have : headE b last = 293 := by
            rw [hH, if_pos]
            rw [n1']
            simp at hr
            omega
          simp [oneE, this]
        (conv => whnf)
        refine ⟨rfl, ?_⟩
        (conv => whnf)
        refine ⟨_, _, _, Ends.here, ?_⟩
        (conv => whnf)
        refine ⟨rfl, ⟨by rw [hAN]; omega, by rw [hAN]; simp; omega⟩, ?_⟩
        (conv => whnf)
        refine ⟨by kernel_rfl, ?_⟩
        (conv => whnf)
        exact Ends.oneE rfl (rest_free _ _ _ _ _ _) e.symm (by rw [e]; decide)
      rename_i hr
      have hr : ¬ 2 ≤ last := by simp at hr; omega
      rw [if_neg (by rw [n1']; exact hr)] at hH
      (conv => whnf)
      refine ⟨rfl, ⟨by omega, by rw [hAN]; omega, by rw [hAN]; simp; omega, by rw [hAN]; simp; omega⟩, ?_⟩
      (conv => whnf)
      refine ⟨by kernel_rfl, ?_⟩
      (conv => whnf)
      obtain rfl := hq (by omega)
      have hsl : V.sl fr 1 (List.drop (atB b : Int).toNat (List.take (IntKind.i64.wrap ((atB b : Int) + (numB b : Int))).toNat (List.map (fun x => [V.int .u8 x.toNat]) b))) = encB fr (valB b) := by
        rw [hAN, Int.toNat_natCast, Int.toNat_natCast, ← List.map_take, ← List.map_drop, List.drop_take, Nat.add_sub_cancel_left]
        rfl
      have hsr : V.sl fr 1 (List.drop (IntKind.i64.wrap ((atB b : Int) + (numB b : Int))).toNat (List.map (fun x => [V.int .u8 x.toNat]) b)) = encB fr (restB b) := by
        rw [hAN, Int.toNat_natCast, ← List.map_drop]
        rfl
      have hvl : (valB b).length ≤ 1000000 := by simp [valB]; omega
      refine callV_read (b := 0) (readRoute_ok fr (valB b) hvl a _ _ _ (encB_free _ _) .int .int) rfl (encB_free _ _) .int .int ⟨.ptr rfl (by omega), .eq_of hsl (encB_free _ _), trivial⟩ fun c8 h8 hf8 hok => ?_
      obtain ⟨a0, a1, a2, a3, a4, a5, a6, a7, rfl⟩ := eight h8
      have ee : oneE b last = lowE 2 (valB b) := by
        rw [oneE, if_neg (by simp [hH]), n1']
      (conv => whnf)
      refine ⟨rfl, ?_⟩
      (conv => whnf)
      refine ⟨_, _, _, Ends.here, ?_⟩
      (conv => whnf)
      cases he : (lowE 2 (valB b) == 0) with
      | false =>
        have he' : lowE 2 (valB b) ≠ 0 := by simpa using he
        (conv => whnf)
        refine ⟨rfl, ⟨by rw [hAN]; omega, by rw [hAN]; simp; omega⟩, ?_⟩
        (conv => whnf)
        refine ⟨by kernel_rfl, ?_⟩
        (conv => whnf)
        exact Ends.oneE rfl (rest8_free hf8) ee.symm (by rw [ee]; exact he')
      | true =>
        have he' : lowE 2 (valB b) = 0 := by simpa using he
        have h8 := hok he'
        (conv => whnf)
        refine ⟨rfl, ⟨by rw [hAN]; omega, by rw [hAN]; simp; omega⟩, ?_⟩
        (conv => whnf)
        refine ⟨by kernel_rfl, ?_⟩
        (conv => whnf)
        refine Ends.oneK (cells' := readerV fr (restB b) 2 (seen + 1) _ (lowA 2 a (valB b))) rfl (readerV_free _ _ _ _ _ _) ⟨.eq_of hsr (encB_free _ _), .int_of rfl, .int_of hse, .of_eq h8 (cellsR_free _ _)⟩ ee.symm (fun _ => by rw [n1']; rfl)
    case succ.succ.zero =>
      (conv => whnf)
      refine ⟨rfl, _, ⟨by simp, rfl⟩, ?_⟩
      (conv => whnf)
      subst hasg hbody
      refine roundV_of tab_ok mixed rfl (by simp) (show 8 < 10 by omega) ?_
      (conv => whnf)
      refine ⟨rfl, ?_⟩
      (conv => whnf)
      split
      · rename_i hc
        have hc : x1.toNat ≠ 3 := by simp at hc; omega
        (conv => whnf)
        refine ⟨rfl, ?_⟩
        (conv => whnf)
        refine ⟨⟨2 + 1, by omega, ?_⟩, Wk.of id [] ⟨.yld rfl (by omega), .free attributesV_cap, .free attrV_free, .int_of rfl, .int_of rfl, trivial⟩ (LeH.of ⟨⟨by omega, .inl ⟨by simp, _, rfl, rfl, rfl, rfl, rfl, rfl, rfl, .ptr rfl (by omega), .ptr rfl (by omega), .ptr rfl (by omega), .ptr rfl (by omega), .ptr rfl (by omega), .ptr rfl (by omega), .ptr rfl (by omega), trivial⟩⟩,
          ⟨by omega, .inl ⟨by simp, _, rfl, LeB.free (blk := .var true 78 (readerV fr b last seen q a)) (readerV_free _ _ _ _ _ _)⟩⟩, ⟨by omega, .inl ⟨by simp, _, rfl, id, rfl, .ptr rfl (by omega), trivial⟩⟩, ⟨by omega, .inl ⟨by simp, _, rfl, id, rfl, .free .int, trivial⟩⟩, ⟨by omega, .inl ⟨by simp, _, rfl, id, rfl, .free .int, trivial⟩⟩,
          ⟨by omega, .inl ⟨by simp, _, rfl, id, rfl, .free .int, trivial⟩⟩, ⟨by omega, .inl ⟨by simp, _, rfl, id, rfl, .free .int, trivial⟩⟩, ⟨by omega, .inl ⟨by simp, _, rfl, id, rfl, .free .bool, trivial⟩⟩, ⟨by omega, .inl ⟨by simp, _, rfl, id, rfl, .free .int, trivial⟩⟩, trivial⟩ (fun _ _ _ _ h => h) (fun _ _ => rfl) (by omega) (by simp)), by simp only; omega⟩
        intro j hj
        rcases Nat.lt_or_ge j 2 with h | h
        · exact hne j h
        · obtain rfl : j = 2 := by omega
          exact fun e => hc e.symm
      rename_i hc
      have hc : x1.toNat = 3 := by simp at hc; omega
      obtain rfl : x1 = 3 := UInt8.toNat_inj.1 hc
      have n1' : byteN b 1 = 3 := by rw [n1]; rfl
      (conv => whnf)
      have hF : flagsI (byteN b 1) = 64 := by rw [n1']; rfl
      have hH := head_is (last := last) h h4 h3 (by rw [hF]; decide)
      rw [hF] at hH
      cases hf : (bits BinOp.andNot IntKind.u8 (x0.toNat : Int) 16 != 64)
      case true =>
        have e : oneE b last = 292 := by
          have : headE b last = 292 := by
            rw [hH, if_pos]
            left
            rw [andNot16 _ h0] at hf
            rw [n0, show lngB b = (x0.toNat / 16 % 2 == 1) by rw [lngB, n0]]
            simpa using hf
          simp [oneE, this]
        (conv => whnf)
        refine ⟨rfl, ?_⟩
        (conv => whnf)
        refine ⟨_, _, _, Ends.here, ?_⟩
        (conv => whnf)
        refine ⟨rfl, ⟨by rw [hAN]; omega, by rw [hAN]; simp; omega⟩, ?_⟩
        (conv => whnf)
        refine ⟨by kernel_rfl, ?_⟩
        (conv => whnf)
        exact Ends.oneE rfl (rest_free _ _ _ _ _ _) e.symm (by rw [e]; decide)
      have hf : (byteN b 0 : Int) - (if lngB b then 16 else 0) = 64 := by
        rw [andNot16 _ h0] at hf
        rw [n0, show lngB b = (x0.toNat / 16 % 2 == 1) by rw [lngB, n0]]
        simpa using hf
      (conv => whnf)
      split
      · rename_i hg
        have e : oneE b last = 292 := by
          have : headE b last = 292 := by
            rw [hH, if_pos]
            right
            rw [hd] at hg
            simpa using hg
          simp [oneE, this]
        (conv => whnf)
        refine ⟨rfl, ?_⟩
        (conv => whnf)
        refine ⟨_, _, _, Ends.here, ?_⟩
        (conv => whnf)
        refine ⟨rfl, ⟨by rw [hAN]; omega, by rw [hAN]; simp; omega⟩, ?_⟩
        (conv => whnf)
        refine ⟨by kernel_rfl, ?_⟩
        (conv => whnf)
        exact Ends.oneE rfl (rest_free _ _ _ _ _ _) e.symm (by rw [e]; decide)
      rename_i hg
      have hg : lngB b = decide (255 < numB b) := by rw [hd] at hg; simpa using hg
      rw [if_neg (by rintro (h | h) <;> contradiction)] at hH
      (conv => whnf)
      refine ⟨by kernel_rfl, ?_⟩
      (conv => whnf)
      split
      · rename_i hr
        have e : oneE b last = 293 := by
          have : headE b last = 293 := by
            rw [hH, if_pos]
            rw [n1']
            simp at hr
            omega
          simp [oneE, this]
        (conv => whnf)
        refine ⟨rfl, ?_⟩
        (conv => whnf)
        refine ⟨_, _, _, Ends.here, ?_⟩
        (conv => whnf)
        refine ⟨rfl, ⟨by rw [hAN]; omega, by rw [hAN]; simp; omega⟩, ?_⟩
        (conv => whnf)
        refine ⟨by kernel_rfl, ?_⟩
        (conv => whnf)
        exact Ends.oneE rfl (rest_free _ _ _ _ _ _) e.symm (by rw [e]; decide)
      rename_i hr
      have hr : ¬ 3 ≤ last := by simp at hr; omega
      rw [if_neg (by rw [n1']; exact hr)] at hH
      (conv => whnf)
      refine ⟨rfl, ⟨by omega, by rw [hAN]; omega, by rw [hAN]; simp; omega, by rw [hAN]; simp; omega⟩, ?_⟩
      (conv => whnf)
      refine ⟨by kernel_rfl, ?_⟩
      (conv => whnf)
      have hsl : V.sl fr 1 (List.drop (atB b : Int).toNat (List.take (IntKind.i64.wrap ((atB b : Int) + (numB b : Int))).toNat (List.map (fun x => [V.int .u8 x.toNat]) b))) = encB fr (valB b) := by
        rw [hAN, Int.toNat_natCast, Int.toNat_natCast, ← List.map_take, ← List.map_drop, List.drop_take, Nat.add_sub_cancel_left]
        rfl
      have hsr : V.sl fr 1 (List.drop (IntKind.i64.wrap ((atB b : Int) + (numB b : Int))).toNat (List.map (fun x => [V.int .u8 x.toNat]) b)) = encB fr (restB b) := by
        rw [hAN, Int.toNat_natCast, ← List.map_drop]
        rfl
      have hvl : (valB b).length ≤ 1000000 := by simp [valB]; omega
      refine callV_read (b := 0) (read3_ok fr (valB b) q a _ _ _ (encB_free _ _) .int .int) rfl (encB_free _ _) .int .int ⟨.ptr rfl (by omega), .eq_of hsl (encB_free _ _), .free (iptr_fn_free _), trivial⟩ fun c8 h8 hf8 hok => ?_
      obtain ⟨a0, a1, a2, a3, a4, a5, a6, a7, rfl⟩ := eight h8
      have ee : oneE b last = lowE 3 (valB b) := by
        rw [oneE, if_neg (by simp [hH]), n1']
      (conv => whnf)
      refine ⟨rfl, ?_⟩
      (conv => whnf)
      refine ⟨_, _, _, Ends.here, ?_⟩
      (conv => whnf)
      cases he : (lowE 3 (valB b) == 0) with
      | false =>
        have he' : lowE 3 (valB b) ≠ 0 := by simpa using he
        (conv => whnf)
        refine ⟨rfl, ⟨by rw [hAN]; omega, by rw [hAN]; simp; omega⟩, ?_⟩
        (conv => whnf)
        refine ⟨by kernel_rfl, ?_⟩
        (conv => whnf)
        exact Ends.oneE rfl (rest8_free hf8) ee.symm (by rw [ee]; exact he')
      | true =>
        have he' : lowE 3 (valB b) = 0 := by simpa using he
        have h8 := hok he'
        (conv => whnf)
        refine ⟨rfl, ⟨by rw [hAN]; omega, by rw [hAN]; simp; omega⟩, ?_⟩
        (conv => whnf)
        refine ⟨by kernel_rfl, ?_⟩
        (conv => whnf)
        refine Ends.oneK (cells' := readerV fr (restB b) 3 (seen + 1) _ (lowA 3 a (valB b))) rfl (readerV_free _ _ _ _ _ _) ⟨.eq_of hsr (encB_free _ _), .int_of rfl, .int_of hse, .of_eq h8 (cellsR_free _ _)⟩ ee.symm (fun _ => by rw [n1']; rfl)
    case succ.succ.succ.zero =>
      (conv => whnf)
      refine ⟨rfl, _, ⟨by simp, rfl⟩, ?_⟩
      (conv => whnf)
      subst hasg hbody
      refine roundV_of tab_ok mixed rfl (by simp) (show 8 < 10 by omega) ?_
      (conv => whnf)
      refine ⟨rfl, ?_⟩
      (conv => whnf)
      split
      · rename_i hc
        have hc : x1.toNat ≠ 4 := by simp at hc; omega
        (conv => whnf)
        refine ⟨rfl, ?_⟩
        (conv => whnf)
        refine ⟨⟨3 + 1, by omega, ?_⟩, Wk.of id [] ⟨.yld rfl (by omega), .free attributesV_cap, .free attrV_free, .int_of rfl, .int_of rfl, trivial⟩ (LeH.of ⟨⟨by omega, .inl ⟨by simp, _, rfl, rfl, rfl, rfl, rfl, rfl, rfl, .ptr rfl (by omega), .ptr rfl (by omega), .ptr rfl (by omega), .ptr rfl (by omega), .ptr rfl (by omega), .ptr rfl (by omega), .ptr rfl (by omega), trivial⟩⟩,
          ⟨by omega, .inl ⟨by simp, _, rfl, LeB.free (blk := .var true 78 (readerV fr b last seen q a)) (readerV_free _ _ _ _ _ _)⟩⟩, ⟨by omega, .inl ⟨by simp, _, rfl, id, rfl, .ptr rfl (by omega), trivial⟩⟩, ⟨by omega, .inl ⟨by simp, _, rfl, id, rfl, .free .int, trivial⟩⟩, ⟨by omega, .inl ⟨by simp, _, rfl, id, rfl, .free .int, trivial⟩⟩,
          ⟨by omega, .inl ⟨by simp, _, rfl, id, rfl, .free .int, trivial⟩⟩, ⟨by omega, .inl ⟨by simp, _, rfl, id, rfl, .free .int, trivial⟩⟩, ⟨by omega, .inl ⟨by simp, _, rfl, id, rfl, .free .bool, trivial⟩⟩, ⟨by omega, .inl ⟨by simp, _, rfl, id, rfl, .free .int, trivial⟩⟩, trivial⟩ (fun _ _ _ _ h => h) (fun _ _ => rfl) (by omega) (by simp)), by simp only; omega⟩
        intro j hj
        rcases Nat.lt_or_ge j 3 with h | h
        · exact hne j h
        · obtain rfl : j = 3 := by omega
          exact fun e => hc e.symm
      rename_i hc
      have hc : x1.toNat = 4 := by simp at hc; omega
      obtain rfl : x1 = 4 := UInt8.toNat_inj.1 hc
      have n1' : byteN b 1 = 4 := by rw [n1]; rfl
      (conv => whnf)
      have hF : flagsI (byteN b 1) = 128 := by rw [n1']; rfl
      have hH := head_is (last := last) h h4 h3 (by rw [hF]; decide)
      rw [hF] at hH
      cases hf : (bits BinOp.andNot IntKind.u8 (x0.toNat : Int) 16 != 128)
      case true =>
        have e : oneE b last = 292 := by
          have : headE b last = 292 := by
            rw [hH, if_pos]
            left
            rw [andNot16 _ h0] at hf
            rw [n0, show lngB b = (x0.toNat / 16 % 2 == 1) by rw [lngB, n0]]
            simpa using hf
          simp [oneE, this]
        (conv => whnf)
        refine ⟨rfl, ?_⟩
        (conv => whnf)
        refine ⟨_, _, _, Ends.here, ?_⟩
        (conv => whnf)
        refine ⟨rfl, ⟨by rw [hAN]; omega, by rw [hAN]; simp; omega⟩, ?_⟩
        (conv => whnf)
        refine ⟨by kernel_rfl, ?_⟩
        (conv => whnf)
        exact Ends.oneE rfl (rest_free _ _ _ _ _ _) e.symm (by rw [e]; decide)
      have hf : (byteN b 0 : Int) - (if lngB b then 16 else 0) = 128 := by
        rw [andNot16 _ h0] at hf
        rw [n0, show lngB b = (x0.toNat / 16 % 2 == 1) by rw [lngB, n0]]
        simpa using hf
      (conv => whnf)
      split
      · rename_i hg
        have e : oneE b last = 292 := by
          have : headE b last = 292 := by
            rw [hH, if_pos]
            right
            rw [hd] at hg
            simpa using hg
          simp [oneE, this]
        (conv => whnf)
        refine ⟨rfl, ?_⟩
        (conv => whnf)
        refine ⟨_, _, _, Ends.here, ?_⟩
        (conv => whnf)
        refine ⟨rfl, ⟨by rw [hAN]; omega, by rw [hAN]; simp; omega⟩, ?_⟩
        (conv => whnf)
        refine ⟨by kernel_rfl, ?_⟩
        (conv => whnf)
        exact Ends.oneE rfl (rest_free _ _ _ _ _ _) e.symm (by rw [e]; decide)
      rename_i hg
      have hg : lngB b = decide (255 < numB b) := by rw [hd] at hg; simpa using hg
      rw [if_neg (by rintro (h | h) <;> contradiction)] at hH
      (conv => whnf)
      refine ⟨by kernel_rfl, ?_⟩
      (conv => whnf)
      split
      · rename_i hr
        have e : oneE b last = 293 := by
          have : headE b last = 293 := by
            rw [hH, if_pos]
            rw [n1']
            simp at hr
            omega
          simp [oneE, this]
        (conv => whnf)
        refine ⟨rfl, ?_⟩
        (conv => whnf)
        refine ⟨_, _, _, Ends.here, ?_⟩
        (conv => whnf)
        refine ⟨rfl, ⟨by rw [hAN]; omega, by rw [hAN]; simp; omega⟩, ?_⟩
        (conv => whnf)
        refine ⟨by kernel_rfl, ?_⟩
        (conv => whnf)
        exact Ends.oneE rfl (rest_free _ _ _ _ _ _) e.symm (by rw [e]; decide)
      rename_i hr
      have hr : ¬ 4 ≤ last := by simp at hr; omega
      rw [if_neg (by rw [n1']; exact hr)] at hH
      (conv => whnf)
      refine ⟨rfl, ⟨by omega, by rw [hAN]; omega, by rw [hAN]; simp; omega, by rw [hAN]; simp; omega⟩, ?_⟩
      (conv => whnf)
      refine ⟨by kernel_rfl, ?_⟩
      (conv => whnf)
      have hsl : V.sl fr 1 (List.drop (atB b : Int).toNat (List.take (IntKind.i64.wrap ((atB b : Int) + (numB b : Int))).toNat (List.map (fun x => [V.int .u8 x.toNat]) b))) = encB fr (valB b) := by
        rw [hAN, Int.toNat_natCast, Int.toNat_natCast, ← List.map_take, ← List.map_drop, List.drop_take, Nat.add_sub_cancel_left]
        rfl
      have hsr : V.sl fr 1 (List.drop (IntKind.i64.wrap ((atB b : Int) + (numB b : Int))).toNat (List.map (fun x => [V.int .u8 x.toNat]) b)) = encB fr (restB b) := by
        rw [hAN, Int.toNat_natCast, ← List.map_drop]
        rfl
      have hvl : (valB b).length ≤ 1000000 := by simp [valB]; omega
      refine callV_read (b := 0) (read4_ok fr (valB b) q a _ _ _ (encB_free _ _) .int .int) rfl (encB_free _ _) .int .int ⟨.ptr rfl (by omega), .eq_of hsl (encB_free _ _), .free (iptr_fn_free _), trivial⟩ fun c8 h8 hf8 hok => ?_
      obtain ⟨a0, a1, a2, a3, a4, a5, a6, a7, rfl⟩ := eight h8
      have ee : oneE b last = lowE 4 (valB b) := by
        rw [oneE, if_neg (by simp [hH]), n1']
      (conv => whnf)
      refine ⟨rfl, ?_⟩
      (conv => whnf)
      refine ⟨_, _, _, Ends.here, ?_⟩
      (conv => whnf)
      cases he : (lowE 4 (valB b) == 0) with
      | false =>
        have he' : lowE 4 (valB b) ≠ 0 := by simpa using he
        (conv => whnf)
        refine ⟨rfl, ⟨by rw [hAN]; omega, by rw [hAN]; simp; omega⟩, ?_⟩
        (conv => whnf)
        refine ⟨by kernel_rfl, ?_⟩
        (conv => whnf)
        exact Ends.oneE rfl (rest8_free hf8) ee.symm (by rw [ee]; exact he')
      | true =>
        have he' : lowE 4 (valB b) = 0 := by simpa using he
        have h8 := hok he'
        (conv => whnf)
        refine ⟨rfl, ⟨by rw [hAN]; omega, by rw [hAN]; simp; omega⟩, ?_⟩
        (conv => whnf)
        refine ⟨by kernel_rfl, ?_⟩
        (conv => whnf)
        refine Ends.oneK (cells' := readerV fr (restB b) 4 seen _ (lowA 4 a (valB b))) rfl (readerV_free _ _ _ _ _ _) ⟨.eq_of hsr (encB_free _ _), .int_of rfl, .int_of rfl, .of_eq h8 (cellsR_free _ _)⟩ ee.symm (fun _ => by rw [n1']; rfl)
    case succ.succ.succ.succ.zero =>
      (conv => whnf)
      refine ⟨rfl, _, ⟨by simp, rfl⟩, ?_⟩
      (conv => whnf)
      subst hasg hbody
      refine roundV_of tab_ok mixed rfl (by simp) (show 8 < 10 by omega) ?_
      (conv => whnf)
      refine ⟨rfl, ?_⟩
      (conv => whnf)
      split
      · rename_i hc
        have hc : x1.toNat ≠ 5 := by simp at hc; omega
        (conv => whnf)
        refine ⟨rfl, ?_⟩
        (conv => whnf)
        refine ⟨⟨4 + 1, by omega, ?_⟩, Wk.of id [] ⟨.yld rfl (by omega), .free attributesV_cap, .free attrV_free, .int_of rfl, .int_of rfl, trivial⟩ (LeH.of ⟨⟨by omega, .inl ⟨by simp, _, rfl, rfl, rfl, rfl, rfl, rfl, rfl, .ptr rfl (by omega), .ptr rfl (by omega), .ptr rfl (by omega), .ptr rfl (by omega), .ptr rfl (by omega), .ptr rfl (by omega), .ptr rfl (by omega), trivial⟩⟩,
          ⟨by omega, .inl ⟨by simp, _, rfl, LeB.free (blk := .var true 78 (readerV fr b last seen q a)) (readerV_free _ _ _ _ _ _)⟩⟩, ⟨by omega, .inl ⟨by simp, _, rfl, id, rfl, .ptr rfl (by omega), trivial⟩⟩, ⟨by omega, .inl ⟨by simp, _, rfl, id, rfl, .free .int, trivial⟩⟩, ⟨by omega, .inl ⟨by simp, _, rfl, id, rfl, .free .int, trivial⟩⟩,
          ⟨by omega, .inl ⟨by simp, _, rfl, id, rfl, .free .int, trivial⟩⟩, ⟨by omega, .inl ⟨by simp, _, rfl, id, rfl, .free .int, trivial⟩⟩, ⟨by omega, .inl ⟨by simp, _, rfl, id, rfl, .free .bool, trivial⟩⟩, ⟨by omega, .inl ⟨by simp, _, rfl, id, rfl, .free .int, trivial⟩⟩, trivial⟩ (fun _ _ _ _ h => h) (fun _ _ => rfl) (by omega) (by simp)), by simp only; omega⟩
        intro j hj
        rcases Nat.lt_or_ge j 4 with h | h
        · exact hne j h
        · obtain rfl : j = 4 := by omega
          exact fun e => hc e.symm
      rename_i hc
      have hc : x1.toNat = 5 := by simp at hc; omega
      obtain rfl : x1 = 5 := UInt8.toNat_inj.1 hc
      have n1' : byteN b 1 = 5 := by rw [n1]; rfl
      (conv => whnf)
      have hF : flagsI (byteN b 1) = 64 := by rw [n1']; rfl
      have hH := head_is (last := last) h h4 h3 (by rw [hF]; decide)
      rw [hF] at hH
      cases hf : (bits BinOp.andNot IntKind.u8 (x0.toNat : Int) 16 != 64)
      case true =>
        have e : oneE b last = 292 := by
          have : headE b last = 292 := by
            rw [hH, if_pos]
            left
            rw [andNot16 _ h0] at hf
            rw [n0, show lngB b = (x0.toNat / 16 % 2 == 1) by rw [lngB, n0]]
            simpa using hf
          simp [oneE, this]
        (conv => whnf)
        refine ⟨rfl, ?_⟩
        (conv => whnf)
        refine ⟨_, _, _, Ends.here, ?_⟩
        (conv => whnf)
        refine ⟨rfl, ⟨by rw [hAN]; omega, by rw [hAN]; simp; omega⟩, ?_⟩
        (conv => whnf)
        refine ⟨by kernel_rfl, ?_⟩
        (conv => whnf)
        exact Ends.oneE rfl (rest_free _ _ _ _ _ _) e.symm (by rw [e]; decide)
      have hf : (byteN b 0 : Int) - (if lngB b then 16 else 0) = 64 := by
        rw [andNot16 _ h0] at hf
        rw [n0, show lngB b = (x0.toNat / 16 % 2 == 1) by rw [lngB, n0]]
        simpa using hf
      (conv => whnf)
      split
      · rename_i hg
        have e : oneE b last = 292 := by
          have : headE b last = 292 := by
            rw [hH, if_pos]
            right
            rw [hd] at hg
            simpa using hg
          simp [oneE, this]
        (conv => whnf)
        refine ⟨rfl, ?_⟩
        (conv => whnf)
        refine ⟨_, _, _, Ends.here, ?_⟩
        (conv => whnf)
        refine ⟨rfl, ⟨by rw [hAN]; omega, by rw [hAN]; simp; omega⟩, ?_⟩
        (conv => whnf)
        refine ⟨by kernel_rfl, ?_⟩
        (conv => whnf)
        exact Ends.oneE rfl (rest_free _ _ _ _ _ _) e.symm (by rw [e]; decide)
      rename_i hg
      have hg : lngB b = decide (255 < numB b) := by rw [hd] at hg; simpa using hg
      rw [if_neg (by rintro (h | h) <;> contradiction)] at hH
      (conv => whnf)
      refine ⟨by kernel_rfl, ?_⟩
      (conv => whnf)
      split
      · rename_i hr
        have e : oneE b last = 293 := by
          have : headE b last = 293 := by
            rw [hH, if_pos]
            rw [n1']
            simp at hr
            omega
          simp [oneE, this]
        (conv => whnf)
        refine ⟨rfl, ?_⟩
        (conv => whnf)
        refine ⟨_, _, _, Ends.here, ?_⟩
        (conv => whnf)
        refine ⟨rfl, ⟨by rw [hAN]; omega, by rw [hAN]; simp; omega⟩, ?_⟩
        (conv => whnf)
        refine ⟨by kernel_rfl, ?_⟩
        (conv => whnf)
        exact Ends.oneE rfl (rest_free _ _ _ _ _ _) e.symm (by rw [e]; decide)
      rename_i hr
      have hr : ¬ 5 ≤ last := by simp at hr; omega
      rw [if_neg (by rw [n1']; exact hr)] at hH
      (conv => whnf)
      refine ⟨rfl, ⟨by omega, by rw [hAN]; omega, by rw [hAN]; simp; omega, by rw [hAN]; simp; omega⟩, ?_⟩
      (conv => whnf)
      refine ⟨by kernel_rfl, ?_⟩
      (conv => whnf)
      have hsl : V.sl fr 1 (List.drop (atB b : Int).toNat (List.take (IntKind.i64.wrap ((atB b : Int) + (numB b : Int))).toNat (List.map (fun x => [V.int .u8 x.toNat]) b))) = encB fr (valB b) := by
        rw [hAN, Int.toNat_natCast, Int.toNat_natCast, ← List.map_take, ← List.map_drop, List.drop_take, Nat.add_sub_cancel_left]
        rfl
      have hsr : V.sl fr 1 (List.drop (IntKind.i64.wrap ((atB b : Int) + (numB b : Int))).toNat (List.map (fun x => [V.int .u8 x.toNat]) b)) = encB fr (restB b) := by
        rw [hAN, Int.toNat_natCast, ← List.map_drop]
        rfl
      have hvl : (valB b).length ≤ 1000000 := by simp [valB]; omega
      refine callV_read (b := 0) (read5_ok fr (valB b) q a _ _ _ (encB_free _ _) .int .int) rfl (encB_free _ _) .int .int ⟨.ptr rfl (by omega), .eq_of hsl (encB_free _ _), .free (iptr_fn_free _), trivial⟩ fun c8 h8 hf8 hok => ?_
      obtain ⟨a0, a1, a2, a3, a4, a5, a6, a7, rfl⟩ := eight h8
      have ee : oneE b last = lowE 5 (valB b) := by
        rw [oneE, if_neg (by simp [hH]), n1']
      (conv => whnf)
      refine ⟨rfl, ?_⟩
      (conv => whnf)
      refine ⟨_, _, _, Ends.here, ?_⟩
      (conv => whnf)
      cases he : (lowE 5 (valB b) == 0) with
      | false =>
        have he' : lowE 5 (valB b) ≠ 0 := by simpa using he
        (conv => whnf)
        refine ⟨rfl, ⟨by rw [hAN]; omega, by rw [hAN]; simp; omega⟩, ?_⟩
        (conv => whnf)
        refine ⟨by kernel_rfl, ?_⟩
        (conv => whnf)
        exact Ends.oneE rfl (rest8_free hf8) ee.symm (by rw [ee]; exact he')
      | true =>
        have he' : lowE 5 (valB b) = 0 := by simpa using he
        have h8 := hok he'
        (conv => whnf)
        refine ⟨rfl, ⟨by rw [hAN]; omega, by rw [hAN]; simp; omega⟩, ?_⟩
        (conv => whnf)
        refine ⟨by kernel_rfl, ?_⟩
        (conv => whnf)
        refine Ends.oneK (cells' := readerV fr (restB b) 5 seen _ (lowA 5 a (valB b))) rfl (readerV_free _ _ _ _ _ _) ⟨.eq_of hsr (encB_free _ _), .int_of rfl, .int_of rfl, .of_eq h8 (cellsR_free _ _)⟩ ee.symm (fun _ => by rw [n1']; rfl)
    case succ.succ.succ.succ.succ.zero =>
      (conv => whnf)
      refine ⟨rfl, _, ⟨by simp, rfl⟩, ?_⟩
      (conv => whnf)
      subst hasg hbody
      refine roundV_of tab_ok mixed rfl (by simp) (show 8 < 10 by omega) ?_
      (conv => whnf)
      refine ⟨rfl, ?_⟩
      (conv => whnf)
      split
      · rename_i hc
        have hc : x1.toNat ≠ 8 := by simp at hc; omega
        (conv => whnf)
        refine ⟨rfl, ?_⟩
        (conv => whnf)
        refine ⟨⟨5 + 1, by omega, ?_⟩, Wk.of id [] ⟨.yld rfl (by omega), .free attributesV_cap, .free attrV_free, .int_of rfl, .int_of rfl, trivial⟩ (LeH.of ⟨⟨by omega, .inl ⟨by simp, _, rfl, rfl, rfl, rfl, rfl, rfl, rfl, .ptr rfl (by omega), .ptr rfl (by omega), .ptr rfl (by omega), .ptr rfl (by omega), .ptr rfl (by omega), .ptr rfl (by omega), .ptr rfl (by omega), trivial⟩⟩,
          ⟨by omega, .inl ⟨by simp, _, rfl, LeB.free (blk := .var true 78 (readerV fr b last seen q a)) (readerV_free _ _ _ _ _ _)⟩⟩, ⟨by omega, .inl ⟨by simp, _, rfl, id, rfl, .ptr rfl (by omega), trivial⟩⟩, ⟨by omega, .inl ⟨by simp, _, rfl, id, rfl, .free .int, trivial⟩⟩, ⟨by omega, .inl ⟨by simp, _, rfl, id, rfl, .free .int, trivial⟩⟩,
          ⟨by omega, .inl ⟨by simp, _, rfl, id, rfl, .free .int, trivial⟩⟩, ⟨by omega, .inl ⟨by simp, _, rfl, id, rfl, .free .int, trivial⟩⟩, ⟨by omega, .inl ⟨by simp, _, rfl, id, rfl, .free .bool, trivial⟩⟩, ⟨by omega, .inl ⟨by simp, _, rfl, id, rfl, .free .int, trivial⟩⟩, trivial⟩ (fun _ _ _ _ h => h) (fun _ _ => rfl) (by omega) (by simp)), by simp only; omega⟩
        intro j hj
        rcases Nat.lt_or_ge j 5 with h | h
        · exact hne j h
        · obtain rfl : j = 5 := by omega
          exact fun e => hc e.symm
      rename_i hc
      have hc : x1.toNat = 8 := by simp at hc; omega
      obtain rfl : x1 = 8 := UInt8.toNat_inj.1 hc
      have n1' : byteN b 1 = 8 := by rw [n1]; rfl
      (conv => whnf)
      have hF : flagsI (byteN b 1) = 192 := by rw [n1']; rfl
      have hH := head_is (last := last) h h4 h3 (by rw [hF]; decide)
      rw [hF] at hH
      cases hf : (bits BinOp.andNot IntKind.u8 (x0.toNat : Int) 16 != 192)
      case true =>
        have e : oneE b last = 292 := by
          have : headE b last = 292 := by
            rw [hH, if_pos]
            left
            rw [andNot16 _ h0] at hf
            rw [n0, show lngB b = (x0.toNat / 16 % 2 == 1) by rw [lngB, n0]]
            simpa using hf
          simp [oneE, this]
        (conv => whnf)
        refine ⟨rfl, ?_⟩
        (conv => whnf)
        refine ⟨_, _, _, Ends.here, ?_⟩
        (conv => whnf)
        refine ⟨rfl, ⟨by rw [hAN]; omega, by rw [hAN]; simp; omega⟩, ?_⟩
        (conv => whnf)
        refine ⟨by kernel_rfl, ?_⟩
        (conv => whnf)
        exact Ends.oneE rfl (rest_free _ _ _ _ _ _) e.symm (by rw [e]; decide)
      have hf : (byteN b 0 : Int) - (if lngB b then 16 else 0) = 192 := by
        rw [andNot16 _ h0] at hf
        rw [n0, show lngB b = (x0.toNat / 16 % 2 == 1) by rw [lngB, n0]]
        simpa using hf
      (conv => whnf)
      split
      · rename_i hg
        have e : oneE b last = 292 := by
          have : headE b last = 292 := by
            rw [hH, if_pos]
            right
            rw [hd] at hg
            simpa using hg
          simp [oneE, this]
        (conv => whnf)
        refine ⟨rfl, ?_⟩
        (conv => whnf)
        refine ⟨_, _, _, Ends.here, ?_⟩
        (conv => whnf)
        refine ⟨rfl, ⟨by rw [hAN]; omega, by rw [hAN]; simp; omega⟩, ?_⟩
        (conv => whnf)
        refine ⟨by kernel_rfl, ?_⟩
        (conv => whnf)
        exact Ends.oneE rfl (rest_free _ _ _ _ _ _) e.symm (by rw [e]; decide)
      rename_i hg
      have hg : lngB b = decide (255 < numB b) := by rw [hd] at hg; simpa using hg
      rw [if_neg (by rintro (h | h) <;> contradiction)] at hH
      (conv => whnf)
      refine ⟨by kernel_rfl, ?_⟩
      (conv => whnf)
      split
      · rename_i hr
        have e : oneE b last = 293 := by
          have : headE b last = 293 := by
            rw [hH, if_pos]
            rw [n1']
            simp at hr
            omega
          simp [oneE, this]
        (conv => whnf)
        refine ⟨rfl, ?_⟩
        (conv => whnf)
        refine ⟨_, _, _, Ends.here, ?_⟩
        (conv => whnf)
        refine ⟨rfl, ⟨by rw [hAN]; omega, by rw [hAN]; simp; omega⟩, ?_⟩
        (conv => whnf)
        refine ⟨by kernel_rfl, ?_⟩
        (conv => whnf)
        exact Ends.oneE rfl (rest_free _ _ _ _ _ _) e.symm (by rw [e]; decide)
      rename_i hr
      have hr : ¬ 8 ≤ last := by simp at hr; omega
      rw [if_neg (by rw [n1']; exact hr)] at hH
      (conv => whnf)
      refine ⟨rfl, ⟨by omega, by rw [hAN]; omega, by rw [hAN]; simp; omega, by rw [hAN]; simp; omega⟩, ?_⟩
      (conv => whnf)
      refine ⟨by kernel_rfl, ?_⟩
      (conv => whnf)
      have hsl : V.sl fr 1 (List.drop (atB b : Int).toNat (List.take (IntKind.i64.wrap ((atB b : Int) + (numB b : Int))).toNat (List.map (fun x => [V.int .u8 x.toNat]) b))) = encB fr (valB b) := by
        rw [hAN, Int.toNat_natCast, Int.toNat_natCast, ← List.map_take, ← List.map_drop, List.drop_take, Nat.add_sub_cancel_left]
        rfl
      have hsr : V.sl fr 1 (List.drop (IntKind.i64.wrap ((atB b : Int) + (numB b : Int))).toNat (List.map (fun x => [V.int .u8 x.toNat]) b)) = encB fr (restB b) := by
        rw [hAN, Int.toNat_natCast, ← List.map_drop]
        rfl
      have hvl : (valB b).length ≤ 1000000 := by simp [valB]; omega
      refine callV_read (b := 0) (read8_ok fr (valB b) hvl q a _ _ _ (encB_free _ _) .int .int) rfl (encB_free _ _) .int .int ⟨.ptr rfl (by omega), .eq_of hsl (encB_free _ _), trivial⟩ fun c8 h8 hf8 hok => ?_
      obtain ⟨a0, a1, a2, a3, a4, a5, a6, a7, rfl⟩ := eight h8
      have ee : oneE b last = lowE 8 (valB b) := by
        rw [oneE, if_neg (by simp [hH]), n1']
      (conv => whnf)
      refine ⟨rfl, ?_⟩
      (conv => whnf)
      refine ⟨_, _, _, Ends.here, ?_⟩
      (conv => whnf)
      cases he : (lowE 8 (valB b) == 0) with
      | false =>
        have he' : lowE 8 (valB b) ≠ 0 := by simpa using he
        (conv => whnf)
        refine ⟨rfl, ⟨by rw [hAN]; omega, by rw [hAN]; simp; omega⟩, ?_⟩
        (conv => whnf)
        refine ⟨by kernel_rfl, ?_⟩
        (conv => whnf)
        exact Ends.oneE rfl (rest8_free hf8) ee.symm (by rw [ee]; exact he')
      | true =>
        have he' : lowE 8 (valB b) = 0 := by simpa using he
        have h8 := hok he'
        (conv => whnf)
        refine ⟨rfl, ⟨by rw [hAN]; omega, by rw [hAN]; simp; omega⟩, ?_⟩
        (conv => whnf)
        refine ⟨by kernel_rfl, ?_⟩
        (conv => whnf)
        refine Ends.oneK (cells' := readerV fr (restB b) 8 seen _ (lowA 8 a (valB b))) rfl (readerV_free _ _ _ _ _ _) ⟨.eq_of hsr (encB_free _ _), .int_of rfl, .int_of rfl, .of_eq h8 (cellsR_free _ _)⟩ ee.symm (fun _ => by rw [n1']; rfl)
    case succ.succ.succ.succ.succ.succ.zero =>
      have hF := flags_none hne
      have e : oneE b last = 291 := by
        have : headE b last = 291 := by
          unfold headE
          rw [if_neg (by omega), if_neg (by rintro ⟨h1, h2⟩; have := h4 h1; omega), if_neg (by omega), if_pos (by rw [n1, hF]; decide)]
        simp [oneE, this]
      (conv => whnf)
      refine ⟨_, _, _, Ends.here, ?_⟩
      (conv => whnf)
      refine ⟨rfl, ⟨by rw [hAN]; omega, by rw [hAN]; simp; omega⟩, ?_⟩
      (conv => whnf)
      refine ⟨by kernel_rfl, ?_⟩
      (conv => whnf)
      exact Ends.oneE rfl (rest_free _ _ _ _ _ _) e.symm (by rw [e]; decide)
  | true =>
    (conv => whnf)
    intro _
    (conv => whnf)
    split
    · rename_i h3
      have h3 : b.length < 4 := by rw [List.length_map] at h3; simp at h3; omega
      have e : oneE b last = 290 := by
        have : headE b last = 290 := by
          unfold headE
          rw [if_neg (by omega), if_pos ⟨hL, h3⟩]
        simp [oneE, this]
      (conv => whnf)
      exact Ends.oneE rfl (readerV_free _ _ _ _ _ _) e.symm (by rw [e]; decide)
    rename_i h4'
    have h4' : 4 ≤ b.length := by rw [List.length_map] at h4'; simp at h4'; omega
    obtain ⟨x3, r3, rfl⟩ : ∃ x3 r3, r = x3 :: r3 := by
      rcases r with _ | ⟨x3, r3⟩
      · rw [hX] at h4'; simp at h4'
      · exact ⟨x3, r3, rfl⟩
    have n3 : byteN b 3 = x3.toNat := by rw [hX]; rfl
    have hx3 := x3.toNat_lt
    have eN : numB b = 256 * x2.toNat + x3.toNat := by simp [numB, hL, n2, n3]
    have eA : atB b = 4 := by simp [atB, hL]
    have eO := or_len x2 x3
    (conv => whnf)
    refine ⟨by decide, ?_⟩
    (conv => whnf)
    refine ⟨rfl, [cB x3], ⟨by simp, by rw [hX]; rfl⟩, ?_⟩
    (conv => whnf)
    refine ⟨by kernel_rfl, ?_⟩
    (conv => whnf)
    refine ⟨by kernel_rfl, ?_⟩
    (conv => whnf)
    have w3 : IntKind.i64.wrap (4 + bits .or .i64 (IntKind.i64.wrap (IntKind.i64.wrap (x2.toNat : Int) * 2 ^ (min (Int.toNat 8) IntKind.i64.bits))) (IntKind.i64.wrap (x3.toNat : Int))) = (atB b + numB b : Nat) := by rw [eO, eN, eA, wrap64] <;> omega
    split
    · rename_i h3
      have h3 : b.length < atB b + numB b := by rw [w3, List.length_map] at h3; simp at h3; omega
      have e : oneE b last = 290 := by
        have : headE b last = 290 := by
          unfold headE
          rw [if_neg (by omega), if_neg (by rintro ⟨_, h2⟩; omega), if_pos h3]
        simp [oneE, this]
      (conv => whnf)
      exact Ends.oneE rfl (readerV_free _ _ _ _ _ _) e.symm (by rw [e]; decide)
    rename_i h3
    have h3 : atB b + numB b ≤ b.length := by rw [w3, List.length_map] at h3; simp at h3; omega
    have h4 : lngB b = true → 4 ≤ b.length := fun _ => h4'
    have hAN : IntKind.i64.wrap ((atB b : Int) + (numB b : Int)) = (atB b + numB b : Nat) := by rw [wrap64] <;> omega
    have hd : decide ((255 : Int) < (numB b : Int)) = decide (255 < numB b) := decide_eq_decide.2 (by omega)
    have hse : IntKind.i64.wrap ((seen : Int) + 1) = (seen + 1 : Nat) := by rw [wrap64] <;> omega
    (conv => whnf)
    refine callV_pure attributes_ok trivial ?_
    (conv => whnf)
    refine callV_loop [(1, .ptr 1 0), (3, .ptr 2 0), (4, .ptr 3 0), (5, .ptr 4 0), (6, .ptr 5 0), (7, .ptr 6 0), (8, .ptr 7 0)] ⟨rfl, rfl, rfl, rfl, rfl, rfl, rfl, trivial⟩ fun asg' body' hasg hbody => ?_
    refine callV_of (fn := Go.Proofs.Try.f95) (body := _) tab_ok mixed rfl rfl (by decide) (by simp [Go.Proofs.Try.f95]) ?_
    (conv => whnf)
    intro _
    (conv => whnf)
    refine vcg_loop tab_ok mixed (fun k : {k : Nat // k ≤ 6 ∧ ∀ j, j < k → codesL.getD j 0 ≠ x1.toNat} => ⟨[(0, .yld 8), (1, .iptr true [.sl true 5 attrRows]), (5, .sl true 5 attrRows), (6, .int .i64 6), (7, cI k.1)], (8, some (.loop 141 [(1, .ptr 1 0), (3, .ptr 2 0), (4, .ptr 3 0), (5, .ptr 4 0), (6, .ptr 5 0), (7, .ptr 6 0), (8, .ptr 7 0)] [72] asg' body' .ready none)) :: oneH fr b last seen q a x0 x1 291, 9⟩) (fun k => 6 - k.1) ⟨0, by omega, by omega⟩ ?_ (fun k => ?_)
    · refine Wk.of id [] ⟨.yld rfl (by omega), .free attributesV_cap, .free attrV_free, .int_of rfl, .int_of rfl, trivial⟩ (LeH.of ⟨⟨by omega, .inl ⟨by simp, _, rfl, rfl, rfl, rfl, rfl, rfl, rfl, .ptr rfl (by omega), .ptr rfl (by omega), .ptr rfl (by omega), .ptr rfl (by omega), .ptr rfl (by omega), .ptr rfl (by omega), .ptr rfl (by omega), trivial⟩⟩,
        ⟨by omega, .inl ⟨by simp, _, rfl, LeB.free (blk := .var true 78 (readerV fr b last seen q a)) (readerV_free _ _ _ _ _ _)⟩⟩, ⟨by omega, .inl ⟨by simp, _, rfl, id, rfl, .ptr rfl (by omega), trivial⟩⟩, ⟨by omega, .inl ⟨by simp, _, rfl, id, rfl, .int_of rfl, trivial⟩⟩, ⟨by omega, .inl ⟨by simp, _, rfl, id, rfl, .int_of rfl, trivial⟩⟩,
        ⟨by omega, .inl ⟨by simp, _, rfl, id, rfl, .int_of (by rw [eO, eN]), trivial⟩⟩, ⟨by omega, .inl ⟨by simp, _, rfl, id, rfl, .int_of (by rw [eA]; rfl), trivial⟩⟩, ⟨by omega, .inl ⟨by simp, _, rfl, id, rfl, .bool_of hL.symm, trivial⟩⟩, ⟨by omega, .inl ⟨by simp, _, rfl, id, rfl, .int_of rfl, trivial⟩⟩, trivial⟩ (fun _ _ _ _ h => h) (fun _ _ => rfl) (by omega) (by simp))
    obtain ⟨k, hk, hne⟩ := k
    rcases k with _ | _ | _ | _ | _ | _ | _ | k
    case succ.succ.succ.succ.succ.succ.succ => omega
    case zero =>
      (conv => whnf)
      refine ⟨rfl, _, ⟨by simp, rfl⟩, ?_⟩
      (conv => whnf)
      subst hasg hbody
      refine roundV_of tab_ok mixed rfl (by simp) (show 8 < 10 by omega) ?_
      (conv => whnf)
      refine ⟨rfl, ?_⟩
      (conv => whnf)
      split
      · rename_i hc
        have hc : x1.toNat ≠ 1 := by simp at hc; omega
        (conv => whnf)
        refine ⟨rfl, ?_⟩
        (conv => whnf)
        refine ⟨⟨0 + 1, by omega, ?_⟩, Wk.of id [] ⟨.yld rfl (by omega), .free attributesV_cap, .free attrV_free, .int_of rfl, .int_of rfl, trivial⟩ (LeH.of ⟨⟨by omega, .inl ⟨by simp, _, rfl, rfl, rfl, rfl, rfl, rfl, rfl, .ptr rfl (by omega), .ptr rfl (by omega), .ptr rfl (by omega), .ptr rfl (by omega), .ptr rfl (by omega), .ptr rfl (by omega), .ptr rfl (by omega), trivial⟩⟩,
          ⟨by omega, .inl ⟨by simp, _, rfl, LeB.free (blk := .var true 78 (readerV fr b last seen q a)) (readerV_free _ _ _ _ _ _)⟩⟩, ⟨by omega, .inl ⟨by simp, _, rfl, id, rfl, .ptr rfl (by omega), trivial⟩⟩, ⟨by omega, .inl ⟨by simp, _, rfl, id, rfl, .free .int, trivial⟩⟩, ⟨by omega, .inl ⟨by simp, _, rfl, id, rfl, .free .int, trivial⟩⟩,
          ⟨by omega, .inl ⟨by simp, _, rfl, id, rfl, .free .int, trivial⟩⟩, ⟨by omega, .inl ⟨by simp, _, rfl, id, rfl, .free .int, trivial⟩⟩, ⟨by omega, .inl ⟨by simp, _, rfl, id, rfl, .free .bool, trivial⟩⟩, ⟨by omega, .inl ⟨by simp, _, rfl, id, rfl, .free .int, trivial⟩⟩, trivial⟩ (fun _ _ _ _ h => h) (fun _ _ => rfl) (by omega) (by simp)), by simp only; omega⟩
        intro j hj
        rcases Nat.lt_or_ge j 0 with h | h
        · exact hne j h
        · obtain rfl : j = 0 := by omega
          exact fun e => hc e.symm
      rename_i hc
      have hc : x1.toNat = 1 := by simp at hc; omega
      obtain rfl : x1 = 1 := UInt8.toNat_inj.1 hc
      have n1' : byteN b 1 = 1 := by rw [n1]; rfl
      (conv => whnf)
      have hF : flagsI (byteN b 1) = 64 := by rw [n1']; rfl
      have hH := head_is (last := last) h h4 h3 (by rw [hF]; decide)
      rw [hF] at hH
      cases hf : (bits BinOp.andNot IntKind.u8 (x0.toNat : Int) 16 != 64)
      case true =>
        have e : oneE b last = 292 := by
          have : headE b last = 292 := by
            rw [hH, if_pos]
            left
            rw [andNot16 _ h0] at hf
            rw [n0, show lngB b = (x0.toNat / 16 % 2 == 1) by rw [lngB, n0]]
            simpa using hf
          simp [oneE, this]
        (conv => whnf)
        refine ⟨rfl, ?_⟩
        (conv => whnf)
        refine ⟨_, _, _, Ends.here, ?_⟩
        (conv => whnf)
        refine ⟨rfl, ⟨by rw [hAN]; omega, by rw [hAN]; simp; omega⟩, ?_⟩
        (conv => whnf)
        refine ⟨by kernel_rfl, ?_⟩
        (conv => whnf)
        exact Ends.oneE rfl (rest_free _ _ _ _ _ _) e.symm (by rw [e]; decide)
      have hf : (byteN b 0 : Int) - (if lngB b then 16 else 0) = 64 := by
        rw [andNot16 _ h0] at hf
        rw [n0, show lngB b = (x0.toNat / 16 % 2 == 1) by rw [lngB, n0]]
        simpa using hf
      (conv => whnf)
      split
      · rename_i hg
        have e : oneE b last = 292 := by
          have : headE b last = 292 := by
            rw [hH, if_pos]
            right
            rw [hd] at hg
            simpa using hg
          simp [oneE, this]
        (conv => whnf)
        refine ⟨rfl, ?_⟩
        (conv => whnf)
        refine ⟨_, _, _, Ends.here, ?_⟩
        (conv => whnf)
        refine ⟨rfl, ⟨by rw [hAN]; omega, by rw [hAN]; simp; omega⟩, ?_⟩
        (conv => whnf)
        refine ⟨by kernel_rfl, ?_⟩
        (conv => whnf)
        exact Ends.oneE rfl (rest_free _ _ _ _ _ _) e.symm (by rw [e]; decide)
      rename_i hg
      have hg : lngB b = decide (255 < numB b) := by rw [hd] at hg; simpa using hg
      rw [if_neg (by rintro (h | h) <;> contradiction)] at hH
      (conv => whnf)
      refine ⟨by kernel_rfl, ?_⟩
      (conv => whnf)
      split
      · rename_i hr
        have e : oneE b last = 293 := by
          have : headE b last = 293 := by
            rw [hH, if_pos]
            rw [n1']
            simp at hr
            omega
          simp [oneE, this]
        (conv => whnf)
        refine ⟨rfl, ?_⟩
        (conv => whnf)
        refine ⟨_, _, _, Ends.here, ?_⟩
        (conv => whnf)
        refine ⟨rfl, ⟨by rw [hAN]; omega, by rw [hAN]; simp; omega⟩, ?_⟩
        (conv => whnf)
        refine ⟨by kernel_rfl, ?_⟩
        (conv => whnf)
        exact Ends.oneE rfl (rest_free _ _ _ _ _ _) e.symm (by rw [e]; decide)
      rename_i hr
      have hr : ¬ 1 ≤ last := by simp at hr; omega
      rw [if_neg (by rw [n1']; exact hr)] at hH
      (conv => whnf)
      refine ⟨rfl, ⟨by omega, by rw [hAN]; omega, by rw [hAN]; simp; omega, by rw [hAN]; simp; omega⟩, ?_⟩
      (conv => whnf)
      refine ⟨by kernel_rfl, ?_⟩
      (conv => whnf)
      have hsl : V.sl fr 1 (List.drop (atB b : Int).toNat (List.take (IntKind.i64.wrap ((atB b : Int) + (numB b : Int))).toNat (List.map (fun x => [V.int .u8 x.toNat]) b))) = encB fr (valB b) := by
        rw [hAN, Int.toNat_natCast, Int.toNat_natCast, ← List.map_take, ← List.map_drop, List.drop_take, Nat.add_sub_cancel_left]
        rfl
      have hsr : V.sl fr 1 (List.drop (IntKind.i64.wrap ((atB b : Int) + (numB b : Int))).toNat (List.map (fun x => [V.int .u8 x.toNat]) b)) = encB fr (restB b) := by
        rw [hAN, Int.toNat_natCast, ← List.map_drop]
        rfl
      have hvl : (valB b).length ≤ 1000000 := by simp [valB]; omega
      refine callV_read (b := 0) (read1_ok fr (valB b) q a _ _ _ (encB_free _ _) .int .int) rfl (encB_free _ _) .int .int ⟨.ptr rfl (by omega), .eq_of hsl (encB_free _ _), trivial⟩ fun c8 h8 hf8 hok => ?_
      obtain ⟨a0, a1, a2, a3, a4, a5, a6, a7, rfl⟩ := eight h8
      have ee : oneE b last = lowE 1 (valB b) := by
        rw [oneE, if_neg (by simp [hH]), n1']
      (conv => whnf)
      refine ⟨rfl, ?_⟩
      (conv => whnf)
      refine ⟨_, _, _, Ends.here, ?_⟩
      (conv => whnf)
      cases he : (lowE 1 (valB b) == 0) with
      | false =>
        have he' : lowE 1 (valB b) ≠ 0 := by simpa using he
        (conv => whnf)
        refine ⟨rfl, ⟨by rw [hAN]; omega, by rw [hAN]; simp; omega⟩, ?_⟩
        (conv => whnf)
        refine ⟨by kernel_rfl, ?_⟩
        (conv => whnf)
        exact Ends.oneE rfl (rest8_free hf8) ee.symm (by rw [ee]; exact he')
      | true =>
        have he' : lowE 1 (valB b) = 0 := by simpa using he
        have h8 := hok he'
        (conv => whnf)
        refine ⟨rfl, ⟨by rw [hAN]; omega, by rw [hAN]; simp; omega⟩, ?_⟩
        (conv => whnf)
        refine ⟨by kernel_rfl, ?_⟩
        (conv => whnf)
        refine Ends.oneK (cells' := readerV fr (restB b) 1 (seen + 1) _ (lowA 1 a (valB b))) rfl (readerV_free _ _ _ _ _ _) ⟨.eq_of hsr (encB_free _ _), .int_of rfl, .int_of hse, .of_eq h8 (cellsR_free _ _)⟩ ee.symm (fun _ => by rw [n1']; rfl)
    case succ.zero =>
      (conv => whnf)
      refine ⟨rfl, _, ⟨by simp, rfl⟩, ?_⟩
      (conv => whnf)
      subst hasg hbody
      refine roundV_of tab_ok mixed rfl (by simp) (show 8 < 10 by omega) ?_
      (conv => whnf)
      refine ⟨rfl, ?_⟩
      (conv => whnf)
      split
      · rename_i hc
        have hc : x1.toNat ≠ 2 := by simp at hc; omega
        (conv => whnf)
        refine ⟨rfl, ?_⟩
        (conv => whnf)
        refine ⟨⟨1 + 1, by omega, ?_⟩, Wk.of id [] ⟨.yld rfl (by omega), .free attributesV_cap, .free attrV_free, .int_of rfl, .int_of rfl, trivial⟩ (LeH.of ⟨⟨by omega, .inl ⟨by simp, _, rfl, rfl, rfl, rfl, rfl, rfl, rfl, .ptr rfl (by omega), .ptr rfl (by omega), .ptr rfl (by omega), .ptr rfl (by omega), .ptr rfl (by omega), .ptr rfl (by omega), .ptr rfl (by omega), trivial⟩⟩,
          ⟨by omega, .inl ⟨by simp, _, rfl, LeB.free (blk := .var true 78 (readerV fr b last seen q a)) (readerV_free _ _ _ _ _ _)⟩⟩, ⟨by omega, .inl ⟨by simp, _, rfl, id, rfl, .ptr rfl (by omega), trivial⟩⟩, ⟨by omega, .inl ⟨by simp, _, rfl, id, rfl, .free .int, trivial⟩⟩, ⟨by omega, .inl ⟨by simp, _, rfl, id, rfl, .free .int, trivial⟩⟩,
          ⟨by omega, .inl ⟨by simp, _, rfl, id, rfl, .free .int, trivial⟩⟩, ⟨by omega, .inl ⟨by simp, _, rfl, id, rfl, .free .int, trivial⟩⟩, ⟨by omega, .inl ⟨by simp, _, rfl, id, rfl, .free .bool, trivial⟩⟩, ⟨by omega, .inl ⟨by simp, _, rfl, id, rfl, .free .int, trivial⟩⟩, trivial⟩ (fun _ _ _ _ h => h) (fun _ _ => rfl) (by omega) (by simp)), by simp only; omega⟩
        intro j hj
        rcases Nat.lt_or_ge j 1 with h | h
        · exact hne j h
        · obtain rfl : j = 1 := by omega
          exact fun e => hc e.symm
      rename_i hc
      have hc : x1.toNat = 2 := by simp at hc; omega
      obtain rfl : x1 = 2 := UInt8.toNat_inj.1 hc
      have n1' : byteN b 1 = 2 := by rw [n1]; rfl
      (conv => whnf)
      have hF : flagsI (byteN b 1) = 64 := by rw [n1']; rfl
      have hH := head_is (last := last) h h4 h3 (by rw [hF]; decide)
      rw [hF] at hH
      cases hf : (bits BinOp.andNot IntKind.u8 (x0.toNat : Int) 16 != 64)
      case true =>
        have e : oneE b last = 292 := by
          have : headE b last = 292 := by
            rw [hH, if_pos]
            left
            rw [andNot16 _ h0] at hf
            rw [n0, show lngB b = (x0.toNat / 16 % 2 == 1) by rw [lngB, n0]]
            simpa using hf
          simp [oneE, this]
        (conv => whnf)
        refine ⟨rfl, ?_⟩
        (conv => whnf)
        refine ⟨_, _, _, Ends.here, ?_⟩
        (conv => whnf)
        refine ⟨rfl, ⟨by rw [hAN]; omega, by rw [hAN]; simp; omega⟩, ?_⟩
        (conv => whnf)
        refine ⟨by kernel_rfl, ?_⟩
        (conv => whnf)
        exact Ends.oneE rfl (rest_free _ _ _ _ _ _) e.symm (by rw [e]; decide)
      have hf : (byteN b 0 : Int) - (if lngB b then 16 else 0) = 64 := by
        rw [andNot16 _ h0] at hf
        rw [n0, show lngB b = (x0.toNat / 16 % 2 == 1) by rw [lngB, n0]]
        simpa using hf
      (conv => whnf)
      split
      · rename_i hg
        have e : oneE b last = 292 := by
          have : headE b last = 292 := by
            rw [hH, if_pos]
            right
            rw [hd] at hg
            simpa using hg
          simp [oneE, this]
        (conv => whnf)
        refine ⟨rfl, ?_⟩
        (conv => whnf)
        refine ⟨_, _, _, Ends.here, ?_⟩
        (conv => whnf)
        refine ⟨rfl, ⟨by rw [hAN]; omega, by rw [hAN]; simp; omega⟩, ?_⟩
        (conv => whnf)
        refine ⟨by kernel_rfl, ?_⟩
        (conv => whnf)
        exact Ends.oneE rfl (rest_free _ _ _ _ _ _) e.symm (by rw [e]; decide)
      rename_i hg
      have hg : lngB b = decide (255 < numB b) := by rw [hd] at hg; simpa using hg
      rw [if_neg (by rintro (h | h) <;> contradiction)] at hH
      (conv => whnf)
      refine ⟨by kernel_rfl, ?_⟩
      (conv => whnf)
      split
      · rename_i hr
        have e : oneE b last = 293 := by
          have : headE b last = 293 := by
            rw [hH, if_pos]
            rw [n1']
            simp at hr
            omega
          simp [oneE, this]
        (conv => whnf)
        refine ⟨rfl, ?_⟩
        (conv => whnf)
        refine ⟨_, _, _, Ends.here, ?_⟩
        (conv => whnf)
        refine ⟨rfl, ⟨by rw [hAN]; omega, by rw [hAN]; simp; omega⟩, ?_⟩
        (conv => whnf)
        refine ⟨by kernel_rfl, ?_⟩
        (conv => whnf)
        exact Ends.oneE rfl (rest_free _ _ _ _ _ _) e.symm (by rw [e]; decide)
      rename_i hr
      have hr : ¬ 2 ≤ last := by simp at hr; omega
      rw [if_neg (by rw [n1']; exact hr)] at hH
      (conv => whnf)
      refine ⟨rfl, ⟨by omega, by rw [hAN]; omega, by rw [hAN]; simp; omega, by rw [hAN]; simp; omega⟩, ?_⟩
      (conv => whnf)
      refine ⟨by kernel_rfl, ?_⟩
      (conv => whnf)
      obtain rfl := hq (by omega)
      have hsl : V.sl fr 1 (List.drop (atB b : Int).toNat (List.take (IntKind.i64.wrap ((atB b : Int) + (numB b : Int))).toNat (List.map (fun x => [V.int .u8 x.toNat]) b))) = encB fr (valB b) := by
        rw [hAN, Int.toNat_natCast, Int.toNat_natCast, ← List.map_take, ← List.map_drop, List.drop_take, Nat.add_sub_cancel_left]
        rfl
      have hsr : V.sl fr 1 (List.drop (IntKind.i64.wrap ((atB b : Int) + (numB b : Int))).toNat (List.map (fun x => [V.int .u8 x.toNat]) b)) = encB fr (restB b) := by
        rw [hAN, Int.toNat_natCast, ← List.map_drop]
        rfl
      have hvl : (valB b).length ≤ 1000000 := by simp [valB]; omega
      refine callV_read (b := 0) (readRoute_ok fr (valB b) hvl a _ _ _ (encB_free _ _) .int .int) rfl (encB_free _ _) .int .int ⟨.ptr rfl (by omega), .eq_of hsl (encB_free _ _), trivial⟩ fun c8 h8 hf8 hok => ?_
      obtain ⟨a0, a1, a2, a3, a4, a5, a6, a7, rfl⟩ := eight h8
      have ee : oneE b last = lowE 2 (valB b) := by
        rw [oneE, if_neg (by simp [hH]), n1']
      (conv => whnf)
      refine ⟨rfl, ?_⟩
      (conv => whnf)
      refine ⟨_, _, _, Ends.here, ?_⟩
      (conv => whnf)
      cases he : (lowE 2 (valB b) == 0) with
      | false =>
        have he' : lowE 2 (valB b) ≠ 0 := by simpa using he
        (conv => whnf)
        refine ⟨rfl, ⟨by rw [hAN]; omega, by rw [hAN]; simp; omega⟩, ?_⟩
        (conv => whnf)
        refine ⟨by kernel_rfl, ?_⟩
        (conv => whnf)
        exact Ends.oneE rfl (rest8_free hf8) ee.symm (by rw [ee]; exact he')
      | true =>
        have he' : lowE 2 (valB b) = 0 := by simpa using he
        have h8 := hok he'
        (conv => whnf)
        refine ⟨rfl, ⟨by rw [hAN]; omega, by rw [hAN]; simp; omega⟩, ?_⟩
        (conv => whnf)
        refine ⟨by kernel_rfl, ?_⟩
        (conv => whnf)
        refine Ends.oneK (cells' := readerV fr (restB b) 2 (seen + 1) _ (lowA 2 a (valB b))) rfl (readerV_free _ _ _ _ _ _) ⟨.eq_of hsr (encB_free _ _), .int_of rfl, .int_of hse, .of_eq h8 (cellsR_free _ _)⟩ ee.symm (fun _ => by rw [n1']; rfl)
    case succ.succ.zero =>
      (conv => whnf)
      refine ⟨rfl, _, ⟨by simp, rfl⟩, ?_⟩
      (conv => whnf)
      subst hasg hbody
      refine roundV_of tab_ok mixed rfl (by simp) (show 8 < 10 by omega) ?_
      (conv => whnf)
      refine ⟨rfl, ?_⟩
      (conv => whnf)
      split
      · rename_i hc
        have hc : x1.toNat ≠ 3 := by simp at hc; omega
        (conv => whnf)
        refine ⟨rfl, ?_⟩
        (conv => whnf)
        refine ⟨⟨2 + 1, by omega, ?_⟩, Wk.of id [] ⟨.yld rfl (by omega), .free attributesV_cap, .free attrV_free, .int_of rfl, .int_of rfl, trivial⟩ (LeH.of ⟨⟨by omega, .inl ⟨by simp, _, rfl, rfl, rfl, rfl, rfl, rfl, rfl, .ptr rfl (by omega), .ptr rfl (by omega), .ptr rfl (by omega), .ptr rfl (by omega), .ptr rfl (by omega), .ptr rfl (by omega), .ptr rfl (by omega), trivial⟩⟩,
          ⟨by omega, .inl ⟨by simp, _, rfl, LeB.free (blk := .var true 78 (readerV fr b last seen q a)) (readerV_free _ _ _ _ _ _)⟩⟩, ⟨by omega, .inl ⟨by simp, _, rfl, id, rfl, .ptr rfl (by omega), trivial⟩⟩, ⟨by omega, .inl ⟨by simp, _, rfl, id, rfl, .free .int, trivial⟩⟩, ⟨by omega, .inl ⟨by simp, _, rfl, id, rfl, .free .int, trivial⟩⟩,
          ⟨by omega, .inl ⟨by simp, _, rfl, id, rfl, .free .int, trivial⟩⟩, ⟨by omega, .inl ⟨by simp, _, rfl, id, rfl, .free .int, trivial⟩⟩, ⟨by omega, .inl ⟨by simp, _, rfl, id, rfl, .free .bool, trivial⟩⟩, ⟨by omega, .inl ⟨by simp, _, rfl, id, rfl, .free .int, trivial⟩⟩, trivial⟩ (fun _ _ _ _ h => h) (fun _ _ => rfl) (by omega) (by simp)), by simp only; omega⟩
        intro j hj
        rcases Nat.lt_or_ge j 2 with h | h
        · exact hne j h
        · obtain rfl : j = 2 := by omega
          exact fun e => hc e.symm
      rename_i hc
      have hc : x1.toNat = 3 := by simp at hc; omega
      obtain rfl : x1 = 3 := UInt8.toNat_inj.1 hc
      have n1' : byteN b 1 = 3 := by rw [n1]; rfl
      (conv => whnf)
      have hF : flagsI (byteN b 1) = 64 := by rw [n1']; rfl
      have hH := head_is (last := last) h h4 h3 (by rw [hF]; decide)
      rw [hF] at hH
      cases hf : (bits BinOp.andNot IntKind.u8 (x0.toNat : Int) 16 != 64)
      case true =>
        have e : oneE b last = 292 := by
          have : headE b last = 292 := by
            rw [hH, if_pos]
            left
            rw [andNot16 _ h0] at hf
            rw [n0, show lngB b = (x0.toNat / 16 % 2 == 1) by rw [lngB, n0]]
            simpa using hf
          simp [oneE, this]
        (conv => whnf)
        refine ⟨rfl, ?_⟩
        (conv => whnf)
        refine ⟨_, _, _, Ends.here, ?_⟩
        (conv => whnf)
        refine ⟨rfl, ⟨by rw [hAN]; omega, by rw [hAN]; simp; omega⟩, ?_⟩
        (conv => whnf)
        refine ⟨by kernel_rfl, ?_⟩
        (conv => whnf)
        exact Ends.oneE rfl (rest_free _ _ _ _ _ _) e.symm (by rw [e]; decide)
      have hf : (byteN b 0 : Int) - (if lngB b then 16 else 0) = 64 := by
        rw [andNot16 _ h0] at hf
        rw [n0, show lngB b = (x0.toNat / 16 % 2 == 1) by rw [lngB, n0]]
        simpa using hf
      (conv => whnf)
      split
      · rename_i hg
        have e : oneE b last = 292 := by
          have : headE b last = 292 := by
            rw [hH, if_pos]
            right
            rw [hd] at hg
            simpa using hg
          simp [oneE, this]
        (conv => whnf)
        refine ⟨rfl, ?_⟩
        (conv => whnf)
        refine ⟨_, _, _, Ends.here, ?_⟩
        (conv => whnf)
        refine ⟨rfl, ⟨by rw [hAN]; omega, by rw [hAN]; simp; omega⟩, ?_⟩
        (conv => whnf)
        refine ⟨by kernel_rfl, ?_⟩
        (conv => whnf)
        exact Ends.oneE rfl (rest_free _ _ _ _ _ _) e.symm (by rw [e]; decide)
      rename_i hg
      have hg : lngB b = decide (255 < numB b) := by rw [hd] at hg; simpa using hg
      rw [if_neg (by rintro (h | h) <;> contradiction)] at hH
      (conv => whnf)
      refine ⟨by kernel_rfl, ?_⟩
      (conv => whnf)
      split
      · rename_i hr
        have e : oneE b last = 293 := by
          have : headE b last = 293 := by
            rw [hH, if_pos]
            rw [n1']
            simp at hr
            omega
          simp [oneE, this]
        (conv => whnf)
        refine ⟨rfl, ?_⟩
        (conv => whnf)
        refine ⟨_, _, _, Ends.here, ?_⟩
        (conv => whnf)
        refine ⟨rfl, ⟨by rw [hAN]; omega, by rw [hAN]; simp; omega⟩, ?_⟩
        (conv => whnf)
        refine ⟨by kernel_rfl, ?_⟩
        (conv => whnf)
        exact Ends.oneE rfl (rest_free _ _ _ _ _ _) e.symm (by rw [e]; decide)
      rename_i hr
      have hr : ¬ 3 ≤ last := by simp at hr; omega
      rw [if_neg (by rw [n1']; exact hr)] at hH
      (conv => whnf)
      refine ⟨rfl, ⟨by omega, by rw [hAN]; omega, by rw [hAN]; simp; omega, by rw [hAN]; simp; omega⟩, ?_⟩
      (conv => whnf)
      refine ⟨by kernel_rfl, ?_⟩
      (conv => whnf)
      have hsl : V.sl fr 1 (List.drop (atB b : Int).toNat (List.take (IntKind.i64.wrap ((atB b : Int) + (numB b : Int))).toNat (List.map (fun x => [V.int .u8 x.toNat]) b))) = encB fr (valB b) := by
        rw [hAN, Int.toNat_natCast, Int.toNat_natCast, ← List.map_take, ← List.map_drop, List.drop_take, Nat.add_sub_cancel_left]
        rfl
      have hsr : V.sl fr 1 (List.drop (IntKind.i64.wrap ((atB b : Int) + (numB b : Int))).toNat (List.map (fun x => [V.int .u8 x.toNat]) b)) = encB fr (restB b) := by
        rw [hAN, Int.toNat_natCast, ← List.map_drop]
        rfl
      have hvl : (valB b).length ≤ 1000000 := by simp [valB]; omega
      refine callV_read (b := 0) (read3_ok fr (valB b) q a _ _ _ (encB_free _ _) .int .int) rfl (encB_free _ _) .int .int ⟨.ptr rfl (by omega), .eq_of hsl (encB_free _ _), .free (iptr_fn_free _), trivial⟩ fun c8 h8 hf8 hok => ?_
      obtain ⟨a0, a1, a2, a3, a4, a5, a6, a7, rfl⟩ := eight h8
      have ee : oneE b last = lowE 3 (valB b) := by
        rw [oneE, if_neg (by simp [hH]), n1']
      (conv => whnf)
      refine ⟨rfl, ?_⟩
      (conv => whnf)
      refine ⟨_, _, _, Ends.here, ?_⟩
      (conv => whnf)
      cases he : (lowE 3 (valB b) == 0) with
      | false =>
        have he' : lowE 3 (valB b) ≠ 0 := by simpa using he
        (conv => whnf)
        refine ⟨rfl, ⟨by rw [hAN]; omega, by rw [hAN]; simp; omega⟩, ?_⟩
        (conv => whnf)
        refine ⟨by kernel_rfl, ?_⟩
        (conv => whnf)
        exact Ends.oneE rfl (rest8_free hf8) ee.symm (by rw [ee]; exact he')
      | true =>
        have he' : lowE 3 (valB b) = 0 := by simpa using he
        have h8 := hok he'
        (conv => whnf)
        refine ⟨rfl, ⟨by rw [hAN]; omega, by rw [hAN]; simp; omega⟩, ?_⟩
        (conv => whnf)
        refine ⟨by kernel_rfl, ?_⟩
        (conv => whnf)
        refine Ends.oneK (cells' := readerV fr (restB b) 3 (seen + 1) _ (lowA 3 a (valB b))) rfl (readerV_free _ _ _ _ _ _) ⟨.eq_of hsr (encB_free _ _), .int_of rfl, .int_of hse, .of_eq h8 (cellsR_free _ _)⟩ ee.symm (fun _ => by rw [n1']; rfl)
    case succ.succ.succ.zero =>
      (conv => whnf)
      refine ⟨rfl, _, ⟨by simp, rfl⟩, ?_⟩
      (conv => whnf)
      subst hasg hbody
      refine roundV_of tab_ok mixed rfl (by simp) (show 8 < 10 by omega) ?_
      (conv => whnf)
      refine ⟨rfl, ?_⟩
      (conv => whnf)
      split
      · rename_i hc
        have hc : x1.toNat ≠ 4 := by simp at hc; omega
        (conv => whnf)
        refine ⟨rfl, ?_⟩
        (conv => whnf)
        refine ⟨⟨3 + 1, by omega, ?_⟩, Wk.of id [] ⟨.yld rfl (by omega), .free attributesV_cap, .free attrV_free, .int_of rfl, .int_of rfl, trivial⟩ (LeH.of ⟨⟨by omega, .inl ⟨by simp, _, rfl, rfl, rfl, rfl, rfl, rfl, rfl, .ptr rfl (by omega), .ptr rfl (by omega), .ptr rfl (by omega), .ptr rfl (by omega), .ptr rfl (by omega), .ptr rfl (by omega), .ptr rfl (by omega), trivial⟩⟩,
          ⟨by omega, .inl ⟨by simp, _, rfl, LeB.free (blk := .var true 78 (readerV fr b last seen q a)) (readerV_free _ _ _ _ _ _)⟩⟩, ⟨by omega, .inl ⟨by simp, _, rfl, id, rfl, .ptr rfl (by omega), trivial⟩⟩, ⟨by omega, .inl ⟨by simp, _, rfl, id, rfl, .free .int, trivial⟩⟩, ⟨by omega, .inl ⟨by simp, _, rfl, id, rfl, .free .int, trivial⟩⟩,
          ⟨by omega, .inl ⟨by simp, _, rfl, id, rfl, .free .int, trivial⟩⟩, ⟨by omega, .inl ⟨by simp, _, rfl, id, rfl, .free .int, trivial⟩⟩, ⟨by omega, .inl ⟨by simp, _, rfl, id, rfl, .free .bool, trivial⟩⟩, ⟨by omega, .inl ⟨by simp, _, rfl, id, rfl, .free .int, trivial⟩⟩, trivial⟩ (fun _ _ _ _ h => h) (fun _ _ => rfl) (by omega) (by simp)), by simp only; omega⟩
        intro j hj
        rcases Nat.lt_or_ge j 3 with h | h
        · exact hne j h
        · obtain rfl : j = 3 := by omega
          exact fun e => hc e.symm
      rename_i hc
      have hc : x1.toNat = 4 := by simp at hc; omega
      obtain rfl : x1 = 4 := UInt8.toNat_inj.1 hc
      have n1' : byteN b 1 = 4 := by rw [n1]; rfl
      (conv => whnf)
      have hF : flagsI (byteN b 1) = 128 := by rw [n1']; rfl
      have hH := head_is (last := last) h h4 h3 (by rw [hF]; decide)
      rw [hF] at hH
      cases hf : (bits BinOp.andNot IntKind.u8 (x0.toNat : Int) 16 != 128)
      case true =>
        have e : oneE b last = 292 := by
          have : headE b last = 292 := by
            rw [hH, if_pos]
            left
            rw [andNot16 _ h0] at hf
            rw [n0, show lngB b = (x0.toNat / 16 % 2 == 1) by rw [lngB, n0]]
            simpa using hf
          simp [oneE, this]
        (conv => whnf)
        refine ⟨rfl, ?_⟩
        (conv => whnf)
        refine ⟨_, _, _, Ends.here, ?_⟩
        (conv => whnf)
        refine ⟨rfl, ⟨by rw [hAN]; omega, by rw [hAN]; simp; omega⟩, ?_⟩
        (conv => whnf)
        refine ⟨by kernel_rfl, ?_⟩
        (conv => whnf)
        exact Ends.oneE rfl (rest_free _ _ _ _ _ _) e.symm (by rw [e]; decide)
      have hf : (byteN b 0 : Int) - (if lngB b then 16 else 0) = 128 := by
        rw [andNot16 _ h0] at hf
        rw [n0, show lngB b = (x0.toNat / 16 % 2 == 1) by rw [lngB, n0]]
        simpa using hf
      (conv => whnf)
      split
      · rename_i hg
        have e : oneE b last = 292 := by
          have : headE b last = 292 := by
            rw [hH, if_pos]
            right
            rw [hd] at hg
            simpa using hg
          simp [oneE, this]
        (conv => whnf)
        refine ⟨rfl, ?_⟩
        (conv => whnf)
        refine ⟨_, _, _, Ends.here, ?_⟩
        (conv => whnf)
        refine ⟨rfl, ⟨by rw [hAN]; omega, by rw [hAN]; simp; omega⟩, ?_⟩
        (conv => whnf)
        refine ⟨by kernel_rfl, ?_⟩
        (conv => whnf)
        exact Ends.oneE rfl (rest_free _ _ _ _ _ _) e.symm (by rw [e]; decide)
      rename_i hg
      have hg : lngB b = decide (255 < numB b) := by rw [hd] at hg; simpa using hg
      rw [if_neg (by rintro (h | h) <;> contradiction)] at hH
      (conv => whnf)
      refine ⟨by kernel_rfl, ?_⟩
      (conv => whnf)
      split
      · rename_i hr
        have e : oneE b last = 293 := by
          have : headE b last = 293 := by
            rw [hH, if_pos]
            rw [n1']
            simp at hr
            omega
          simp [oneE, this]
        (conv => whnf)
        refine ⟨rfl, ?_⟩
        (conv => whnf)
        refine ⟨_, _, _, Ends.here, ?_⟩
        (conv => whnf)
        refine ⟨rfl, ⟨by rw [hAN]; omega, by rw [hAN]; simp; omega⟩, ?_⟩
        (conv => whnf)
        refine ⟨by kernel_rfl, ?_⟩
        (conv => whnf)
        exact Ends.oneE rfl (rest_free _ _ _ _ _ _) e.symm (by rw [e]; decide)
      rename_i hr
      have hr : ¬ 4 ≤ last := by simp at hr; omega
      rw [if_neg (by rw [n1']; exact hr)] at hH
      (conv => whnf)
      refine ⟨rfl, ⟨by omega, by rw [hAN]; omega, by rw [hAN]; simp; omega, by rw [hAN]; simp; omega⟩, ?_⟩
      (conv => whnf)
      refine ⟨by kernel_rfl, ?_⟩
      (conv => whnf)
      have hsl : V.sl fr 1 (List.drop (atB b : Int).toNat (List.take (IntKind.i64.wrap ((atB b : Int) + (numB b : Int))).toNat (List.map (fun x => [V.int .u8 x.toNat]) b))) = encB fr (valB b) := by
        rw [hAN, Int.toNat_natCast, Int.toNat_natCast, ← List.map_take, ← List.map_drop, List.drop_take, Nat.add_sub_cancel_left]
        rfl
      have hsr : V.sl fr 1 (List.drop (IntKind.i64.wrap ((atB b : Int) + (numB b : Int))).toNat (List.map (fun x => [V.int .u8 x.toNat]) b)) = encB fr (restB b) := by
        rw [hAN, Int.toNat_natCast, ← List.map_drop]
        rfl
      have hvl : (valB b).length ≤ 1000000 := by simp [valB]; omega
      refine callV_read (b := 0) (read4_ok fr (valB b) q a _ _ _ (encB_free _ _) .int .int) rfl (encB_free _ _) .int .int ⟨.ptr rfl (by omega), .eq_of hsl (encB_free _ _), .free (iptr_fn_free _), trivial⟩ fun c8 h8 hf8 hok => ?_
      obtain ⟨a0, a1, a2, a3, a4, a5, a6, a7, rfl⟩ := eight h8
      have ee : oneE b last = lowE 4 (valB b) := by
        rw [oneE, if_neg (by simp [hH]), n1']
      (conv => whnf)
      refine ⟨rfl, ?_⟩
      (conv => whnf)
      refine ⟨_, _, _, Ends.here, ?_⟩
      (conv => whnf)
      cases he : (lowE 4 (valB b) == 0) with
      | false =>
        have he' : lowE 4 (valB b) ≠ 0 := by simpa using he
        (conv => whnf)
        refine ⟨rfl, ⟨by rw [hAN]; omega, by rw [hAN]; simp; omega⟩, ?_⟩
        (conv => whnf)
        refine ⟨by kernel_rfl, ?_⟩
        (conv => whnf)
        exact Ends.oneE rfl (rest8_free hf8) ee.symm (by rw [ee]; exact he')
      | true =>
        have he' : lowE 4 (valB b) = 0 := by simpa using he
        have h8 := hok he'
        (conv => whnf)
        refine ⟨rfl, ⟨by rw [hAN]; omega, by rw [hAN]; simp; omega⟩, ?_⟩
        (conv => whnf)
        refine ⟨by kernel_rfl, ?_⟩
        (conv => whnf)
        refine Ends.oneK (cells' := readerV fr (restB b) 4 seen _ (lowA 4 a (valB b))) rfl (readerV_free _ _ _ _ _ _) ⟨.eq_of hsr (encB_free _ _), .int_of rfl, .int_of rfl, .of_eq h8 (cellsR_free _ _)⟩ ee.symm (fun _ => by rw [n1']; rfl)
    case succ.succ.succ.succ.zero =>
      (conv => whnf)
      refine ⟨rfl, _, ⟨by simp, rfl⟩, ?_⟩
      (conv => whnf)
      subst hasg hbody
      refine roundV_of tab_ok mixed rfl (by simp) (show 8 < 10 by omega) ?_
      (conv => whnf)
      refine ⟨rfl, ?_⟩
      (conv => whnf)
      split
      · rename_i hc
        have hc : x1.toNat ≠ 5 := by simp at hc; omega
        (conv => whnf)
        refine ⟨rfl, ?_⟩
        (conv => whnf)
        refine ⟨⟨4 + 1, by omega, ?_⟩, Wk.of id [] ⟨.yld rfl (by omega), .free attributesV_cap, .free attrV_free, .int_of rfl, .int_of rfl, trivial⟩ (LeH.of ⟨⟨by omega, .inl ⟨by simp, _, rfl, rfl, rfl, rfl, rfl, rfl, rfl, .ptr rfl (by omega), .ptr rfl (by omega), .ptr rfl (by omega), .ptr rfl (by omega), .ptr rfl (by omega), .ptr rfl (by omega), .ptr rfl (by omega), trivial⟩⟩,
          ⟨by omega, .inl ⟨by simp, _, rfl, LeB.free (blk := .var true 78 (readerV fr b last seen q a)) (readerV_free _ _ _ _ _ _)⟩⟩, ⟨by omega, .inl ⟨by simp, _, rfl, id, rfl, .ptr rfl (by omega), trivial⟩⟩, ⟨by omega, .inl ⟨by simp, _, rfl, id, rfl, .free .int, trivial⟩⟩, ⟨by omega, .inl ⟨by simp, _, rfl, id, rfl, .free .int, trivial⟩⟩,
          ⟨by omega, .inl ⟨by simp, _, rfl, id, rfl, .free .int, trivial⟩⟩, ⟨by omega, .inl ⟨by simp, _, rfl, id, rfl, .free .int, trivial⟩⟩, ⟨by omega, .inl ⟨by simp, _, rfl, id, rfl, .free .bool, trivial⟩⟩, ⟨by omega, .inl ⟨by simp, _, rfl, id, rfl, .free .int, trivial⟩⟩, trivial⟩ (fun _ _ _ _ h => h) (fun _ _ => rfl) (by omega) (by simp)), by simp only; omega⟩
        intro j hj
        rcases Nat.lt_or_ge j 4 with h | h
        · exact hne j h
        · obtain rfl : j = 4 := by omega
          exact fun e => hc e.symm
      rename_i hc
      have hc : x1.toNat = 5 := by simp at hc; omega
      obtain rfl : x1 = 5 := UInt8.toNat_inj.1 hc
      have n1' : byteN b 1 = 5 := by rw [n1]; rfl
      (conv => whnf)
      have hF : flagsI (byteN b 1) = 64 := by rw [n1']; rfl
      have hH := head_is (last := last) h h4 h3 (by rw [hF]; decide)
      rw [hF] at hH
      cases hf : (bits BinOp.andNot IntKind.u8 (x0.toNat : Int) 16 != 64)
      case true =>
        have e : oneE b last = 292 := by
          have : headE b last = 292 := by
            rw [hH, if_pos]
            left
            rw [andNot16 _ h0] at hf
            rw [n0, show lngB b = (x0.toNat / 16 % 2 == 1) by rw [lngB, n0]]
            simpa using hf
          simp [oneE, this]
        (conv => whnf)
        refine ⟨rfl, ?_⟩
        (conv => whnf)
        refine ⟨_, _, _, Ends.here, ?_⟩
        (conv => whnf)
        refine ⟨rfl, ⟨by rw [hAN]; omega, by rw [hAN]; simp; omega⟩, ?_⟩
        (conv => whnf)
        refine ⟨by kernel_rfl, ?_⟩
        (conv => whnf)
        exact Ends.oneE rfl (rest_free _ _ _ _ _ _) e.symm (by rw [e]; decide)
      have hf : (byteN b 0 : Int) - (if lngB b then 16 else 0) = 64 := by
        rw [andNot16 _ h0] at hf
        rw [n0, show lngB b = (x0.toNat / 16 % 2 == 1) by rw [lngB, n0]]
        simpa using hf
      (conv => whnf)
      split
      · rename_i hg
        have e : oneE b last = 292 := by
          have : headE b last = 292 := by
            rw [hH, if_pos]
            right
            rw [hd] at hg
            simpa using hg
          simp [oneE, this]
        (conv => whnf)
        refine ⟨rfl, ?_⟩
        (conv => whnf)
        refine ⟨_, _, _, Ends.here, ?_⟩
        (conv => whnf)
        refine ⟨rfl, ⟨by rw [hAN]; omega, by rw [hAN]; simp; omega⟩, ?_⟩
        (conv => whnf)
        refine ⟨by kernel_rfl, ?_⟩
        (conv => whnf)
        exact Ends.oneE rfl (rest_free _ _ _ _ _ _) e.symm (by rw [e]; decide)
      rename_i hg
      have hg : lngB b = decide (255 < numB b) := by rw [hd] at hg; simpa using hg
      rw [if_neg (by rintro (h | h) <;> contradiction)] at hH
      (conv => whnf)
      refine ⟨by kernel_rfl, ?_⟩
      (conv => whnf)
      split
      · rename_i hr
        have e : oneE b last = 293 := by
          have : headE b last = 293 := by
            rw [hH, if_pos]
            rw [n1']
            simp at hr
            omega
          simp [oneE, this]
        (conv => whnf)
        refine ⟨rfl, ?_⟩
        (conv => whnf)
        refine ⟨_, _, _, Ends.here, ?_⟩
        (conv => whnf)
        refine ⟨rfl, ⟨by rw [hAN]; omega, by rw [hAN]; simp; omega⟩, ?_⟩
        (conv => whnf)
        refine ⟨by kernel_rfl, ?_⟩
        (conv => whnf)
        exact Ends.oneE rfl (rest_free _ _ _ _ _ _) e.symm (by rw [e]; decide)
      rename_i hr
      have hr : ¬ 5 ≤ last := by simp at hr; omega
      rw [if_neg (by rw [n1']; exact hr)] at hH
      (conv => whnf)
      refine ⟨rfl, ⟨by omega, by rw [hAN]; omega, by rw [hAN]; simp; omega, by rw [hAN]; simp; omega⟩, ?_⟩
      (conv => whnf)
      refine ⟨by kernel_rfl, ?_⟩
      (conv => whnf)
      have hsl : V.sl fr 1 (List.drop (atB b : Int).toNat (List.take (IntKind.i64.wrap ((atB b : Int) + (numB b : Int))).toNat (List.map (fun x => [V.int .u8 x.toNat]) b))) = encB fr (valB b) := by
        rw [hAN, Int.toNat_natCast, Int.toNat_natCast, ← List.map_take, ← List.map_drop, List.drop_take, Nat.add_sub_cancel_left]
        rfl
      have hsr : V.sl fr 1 (List.drop (IntKind.i64.wrap ((atB b : Int) + (numB b : Int))).toNat (List.map (fun x => [V.int .u8 x.toNat]) b)) = encB fr (restB b) := by
        rw [hAN, Int.toNat_natCast, ← List.map_drop]
        rfl
      have hvl : (valB b).length ≤ 1000000 := by simp [valB]; omega
      refine callV_read (b := 0) (read5_ok fr (valB b) q a _ _ _ (encB_free _ _) .int .int) rfl (encB_free _ _) .int .int ⟨.ptr rfl (by omega), .eq_of hsl (encB_free _ _), .free (iptr_fn_free _), trivial⟩ fun c8 h8 hf8 hok => ?_
      obtain ⟨a0, a1, a2, a3, a4, a5, a6, a7, rfl⟩ := eight h8
      have ee : oneE b last = lowE 5 (valB b) := by
        rw [oneE, if_neg (by simp [hH]), n1']
      (conv => whnf)
      refine ⟨rfl, ?_⟩
      (conv => whnf)
      refine ⟨_, _, _, Ends.here, ?_⟩
      (conv => whnf)
      cases he : (lowE 5 (valB b) == 0) with
      | false =>
        have he' : lowE 5 (valB b) ≠ 0 := by simpa using he
        (conv => whnf)
        refine ⟨rfl, ⟨by rw [hAN]; omega, by rw [hAN]; simp; omega⟩, ?_⟩
        (conv => whnf)
        refine ⟨by kernel_rfl, ?_⟩
        (conv => whnf)
        exact Ends.oneE rfl (rest8_free hf8) ee.symm (by rw [ee]; exact he')
      | true =>
        have he' : lowE 5 (valB b) = 0 := by simpa using he
        have h8 := hok he'
        (conv => whnf)
        refine ⟨rfl, ⟨by rw [hAN]; omega, by rw [hAN]; simp; omega⟩, ?_⟩
        (conv => whnf)
        refine ⟨by kernel_rfl, ?_⟩
        (conv => whnf)
        refine Ends.oneK (cells' := readerV fr (restB b) 5 seen _ (lowA 5 a (valB b))) rfl (readerV_free _ _ _ _ _ _) ⟨.eq_of hsr (encB_free _ _), .int_of rfl, .int_of rfl, .of_eq h8 (cellsR_free _ _)⟩ ee.symm (fun _ => by rw [n1']; rfl)
    case succ.succ.succ.succ.succ.zero =>
      (conv => whnf)
      refine ⟨rfl, _, ⟨by simp, rfl⟩, ?_⟩
      (conv => whnf)
      subst hasg hbody
      refine roundV_of tab_ok mixed rfl (by simp) (show 8 < 10 by omega) ?_
      (conv => whnf)
      refine ⟨rfl, ?_⟩
      (conv => whnf)
      split
      · rename_i hc
        have hc : x1.toNat ≠ 8 := by simp at hc; omega
        (conv => whnf)
        refine ⟨rfl, ?_⟩
        (conv => whnf)
        refine ⟨⟨5 + 1, by omega, ?_⟩, Wk.of id [] ⟨.yld rfl (by omega), .free attributesV_cap, .free attrV_free, .int_of rfl, .int_of rfl, trivial⟩ (LeH.of ⟨⟨by omega, .inl ⟨by simp, _, rfl, rfl, rfl, rfl, rfl, rfl, rfl, .ptr rfl (by omega), .ptr rfl (by omega), .ptr rfl (by omega), .ptr rfl (by omega), .ptr rfl (by omega), .ptr rfl (by omega), .ptr rfl (by omega), trivial⟩⟩,
          ⟨by omega, .inl ⟨by simp, _, rfl, LeB.free (blk := .var true 78 (readerV fr b last seen q a)) (readerV_free _ _ _ _ _ _)⟩⟩, ⟨by omega, .inl ⟨by simp, _, rfl, id, rfl, .ptr rfl (by omega), trivial⟩⟩, ⟨by omega, .inl ⟨by simp, _, rfl, id, rfl, .free .int, trivial⟩⟩, ⟨by omega, .inl ⟨by simp, _, rfl, id, rfl, .free .int, trivial⟩⟩,
          ⟨by omega, .inl ⟨by simp, _, rfl, id, rfl, .free .int, trivial⟩⟩, ⟨by omega, .inl ⟨by simp, _, rfl, id, rfl, .free .int, trivial⟩⟩, ⟨by omega, .inl ⟨by simp, _, rfl, id, rfl, .free .bool, trivial⟩⟩, ⟨by omega, .inl ⟨by simp, _, rfl, id, rfl, .free .int, trivial⟩⟩, trivial⟩ (fun _ _ _ _ h => h) (fun _ _ => rfl) (by omega) (by simp)), by simp only; omega⟩
        intro j hj
        rcases Nat.lt_or_ge j 5 with h | h
        · exact hne j h
        · obtain rfl : j = 5 := by omega
          exact fun e => hc e.symm
      rename_i hc
      have hc : x1.toNat = 8 := by simp at hc; omega
      obtain rfl : x1 = 8 := UInt8.toNat_inj.1 hc
      have n1' : byteN b 1 = 8 := by rw [n1]; rfl
      (conv => whnf)
      have hF : flagsI (byteN b 1) = 192 := by rw [n1']; rfl
      have hH := head_is (last := last) h h4 h3 (by rw [hF]; decide)
      rw [hF] at hH
      cases hf : (bits BinOp.andNot IntKind.u8 (x0.toNat : Int) 16 != 192)
      case true =>
        have e : oneE b last = 292 := by
          have : headE b last = 292 := by
            rw [hH, if_pos]
            left
            rw [andNot16 _ h0] at hf
            rw [n0, show lngB b = (x0.toNat / 16 % 2 == 1) by rw [lngB, n0]]
            simpa using hf
          simp [oneE, this]
        (conv => whnf)
        refine ⟨rfl, ?_⟩
        (conv => whnf)
        refine ⟨_, _, _, Ends.here, ?_⟩
        (conv => whnf)
        refine ⟨rfl, ⟨by rw [hAN]; omega, by rw [hAN]; simp; omega⟩, ?_⟩
        (conv => whnf)
        refine ⟨by kernel_rfl, ?_⟩
        (conv => whnf)
        exact Ends.oneE rfl (rest_free _ _ _ _ _ _) e.symm (by rw [e]; decide)
      have hf : (byteN b 0 : Int) - (if lngB b then 16 else 0) = 192 := by
        rw [andNot16 _ h0] at hf
        rw [n0, show lngB b = (x0.toNat / 16 % 2 == 1) by rw [lngB, n0]]
        simpa using hf
      (conv => whnf)
      split
      · rename_i hg
        have e : oneE b last = 292 := by
          have : headE b last = 292 := by
            rw [hH, if_pos]
            right
            rw [hd] at hg
            simpa using hg
          simp [oneE, this]
        (conv => whnf)
        refine ⟨rfl, ?_⟩
        (conv => whnf)
        refine ⟨_, _, _, Ends.here, ?_⟩
        (conv => whnf)
        refine ⟨rfl, ⟨by rw [hAN]; omega, by rw [hAN]; simp; omega⟩, ?_⟩
        (conv => whnf)
        refine ⟨by kernel_rfl, ?_⟩
        (conv => whnf)
        exact Ends.oneE rfl (rest_free _ _ _ _ _ _) e.symm (by rw [e]; decide)
      rename_i hg
      have hg : lngB b = decide (255 < numB b) := by rw [hd] at hg; simpa using hg
      rw [if_neg (by rintro (h | h) <;> contradiction)] at hH
      (conv => whnf)
      refine ⟨by kernel_rfl, ?_⟩
      (conv => whnf)
      split
      · rename_i hr
        have e : oneE b last = 293 := by
          have : headE b last = 293 := by
            rw [hH, if_pos]
            rw [n1']
            simp at hr
            omega
          simp [oneE, this]
        (conv => whnf)
        refine ⟨rfl, ?_⟩
        (conv => whnf)
        refine ⟨_, _, _, Ends.here, ?_⟩
        (conv => whnf)
        refine ⟨rfl, ⟨by rw [hAN]; omega, by rw [hAN]; simp; omega⟩, ?_⟩
        (conv => whnf)
        refine ⟨by kernel_rfl, ?_⟩
        (conv => whnf)
        exact Ends.oneE rfl (rest_free _ _ _ _ _ _) e.symm (by rw [e]; decide)
      rename_i hr
      have hr : ¬ 8 ≤ last := by simp at hr; omega
      rw [if_neg (by rw [n1']; exact hr)] at hH
      (conv => whnf)
      refine ⟨rfl, ⟨by omega, by rw [hAN]; omega, by rw [hAN]; simp; omega, by rw [hAN]; simp; omega⟩, ?_⟩
      (conv => whnf)
      refine ⟨by kernel_rfl, ?_⟩
      (conv => whnf)
      have hsl : V.sl fr 1 (List.drop (atB b : Int).toNat (List.take (IntKind.i64.wrap ((atB b : Int) + (numB b : Int))).toNat (List.map (fun x => [V.int .u8 x.toNat]) b))) = encB fr (valB b) := by
        rw [hAN, Int.toNat_natCast, Int.toNat_natCast, ← List.map_take, ← List.map_drop, List.drop_take, Nat.add_sub_cancel_left]
        rfl
      have hsr : V.sl fr 1 (List.drop (IntKind.i64.wrap ((atB b : Int) + (numB b : Int))).toNat (List.map (fun x => [V.int .u8 x.toNat]) b)) = encB fr (restB b) := by
        rw [hAN, Int.toNat_natCast, ← List.map_drop]
        rfl
      have hvl : (valB b).length ≤ 1000000 := by simp [valB]; omega
      refine callV_read (b := 0) (read8_ok fr (valB b) hvl q a _ _ _ (encB_free _ _) .int .int) rfl (encB_free _ _) .int .int ⟨.ptr rfl (by omega), .eq_of hsl (encB_free _ _), trivial⟩ fun c8 h8 hf8 hok => ?_
      obtain ⟨a0, a1, a2, a3, a4, a5, a6, a7, rfl⟩ := eight h8
      have ee : oneE b last = lowE 8 (valB b) := by
        rw [oneE, if_neg (by simp [hH]), n1']
      (conv => whnf)
      refine ⟨rfl, ?_⟩
      (conv => whnf)
      refine ⟨_, _, _, Ends.here, ?_⟩
      (conv => whnf)
      cases he : (lowE 8 (valB b) == 0) with
      | false =>
        have he' : lowE 8 (valB b) ≠ 0 := by simpa using he
        (conv => whnf)
        refine ⟨rfl, ⟨by rw [hAN]; omega, by rw [hAN]; simp; omega⟩, ?_⟩
        (conv => whnf)
        refine ⟨by kernel_rfl, ?_⟩
        (conv => whnf)
        exact Ends.oneE rfl (rest8_free hf8) ee.symm (by rw [ee]; exact he')
      | true =>
        have he' : lowE 8 (valB b) = 0 := by simpa using he
        have h8 := hok he'
        (conv => whnf)
        refine ⟨rfl, ⟨by rw [hAN]; omega, by rw [hAN]; simp; omega⟩, ?_⟩
        (conv => whnf)
        refine ⟨by kernel_rfl, ?_⟩
        (conv => whnf)
        refine Ends.oneK (cells' := readerV fr (restB b) 8 seen _ (lowA 8 a (valB b))) rfl (readerV_free _ _ _ _ _ _) ⟨.eq_of hsr (encB_free _ _), .int_of rfl, .int_of rfl, .of_eq h8 (cellsR_free _ _)⟩ ee.symm (fun _ => by rw [n1']; rfl)
    case succ.succ.succ.succ.succ.succ.zero =>
      have hF := flags_none hne
      have e : oneE b last = 291 := by
        have : headE b last = 291 := by
          unfold headE
          rw [if_neg (by omega), if_neg (by rintro ⟨h1, h2⟩; have := h4 h1; omega), if_neg (by omega), if_pos (by rw [n1, hF]; decide)]
        simp [oneE, this]
      (conv => whnf)
      refine ⟨_, _, _, Ends.here, ?_⟩
      (conv => whnf)
      refine ⟨rfl, ⟨by rw [hAN]; omega, by rw [hAN]; simp; omega⟩, ?_⟩
      (conv => whnf)
      refine ⟨by kernel_rfl, ?_⟩
      (conv => whnf)
      exact Ends.oneE rfl (rest_free _ _ _ _ _ _) e.symm (by rw [e]; decide)
end Go.Proofs.Ytcfkendgjinmiaa
/- Contract: all attributes read. -/
set_option linter.unusedVariables false
set_option linter.unusedSimpArgs false
namespace Go.Proofs.Ytcfkendgjinmiaa
open Go.RowKit
open Go.Proofs.Try (prog)
attribute [local irreducible] CallV RoundV

theorem callV_one {f : FuncId} {args : List V} {fr : Bool} {b : List UInt8} {last seen : Nat} {q : Bool} {a : Attrs} {h : Heap} {nx i : Nat} {K : V → Heap → Nat → Prop}
    (hc : CallV prog f [.ptr 0 0] [(0, some (.var true 78 (readerV fr b last seen q a)))] 1 (OneR fr b last seen q a)) (hb : hget h i = some (.var true 78 (readerV fr b last seen q a))) (ha : LeL h nx (fun _ => i) 1 [] args [.ptr 0 0])
    (hK : ∀ cells' : List V, (∀ x ∈ cells', Free x) → (oneE b last = 0 → cells' = readerV fr (restB b) (byteN b 1) (if byteN b 1 ≤ 3 then seen + 1 else seen) (q || byteN b 1 == 2) (lowA (byteN b 1) a (valB b))) →
      K (.int .i64 (oneE b last)) ((i, some (.var true 78 cells')) :: h) nx) : CallV prog f args h nx K := by
  refine callV_ptr (R := fun v' cells' => v' = .int .i64 (oneE b last) ∧ (∀ x ∈ cells', Free x) ∧ (oneE b last = 0 → cells' = readerV fr (restB b) (byteN b 1) (if byteN b 1 ≤ 3 then seen + 1 else seen) (q || byteN b 1 == 2) (lowA (byteN b 1) a (valB b)))) (hc.mono ?_) hb (readerV_free _ _ _ _ _ _) ha ?_
  · rintro v' h' nx' ⟨cells', rfl, hf, hok, rfl, rfl⟩
    exact ⟨_, ⟨rfl, hf, hok⟩, rfl, rfl⟩
  · rintro v' cells' ⟨rfl, hf, hok⟩
    exact ⟨.int, hf, hK cells' hf hok⟩
/-- Where a reading stands. -/
structure At (b : List UInt8) where
  rest : List UInt8
  last : Nat
  seen : Nat
  q : Bool
  a : Attrs
  law : parseA b 0 0 noA = parseA rest last seen a
  lim : last < 256
  cnt : seen + rest.length ≤ b.length
  nop : last < 2 → q = false
  nil : q = false → a.path = []
theorem oneE_zero {b : List UInt8} {last : Nat} (h : oneE b last = 0) : headE b last = 0 ∧ lowE (byteN b 1) (valB b) = 0 := by
  unfold oneE at h
  split at h
  · rename_i h1; exact absurd h h1
  · rename_i h1; exact ⟨by simpa using h1, h⟩
theorem parseA_err {b : List UInt8} {last seen : Nat} {a : Attrs} (hb : b ≠ []) (h : oneE b last ≠ 0) : parseA b last seen a = (noA, oneE b last) := by
  by_cases h1 : headE b last = 0
  · have : oneE b last = lowE (byteN b 1) (valB b) := by simp [oneE, h1]
    rw [this] at h ⊢
    exact parseA_low hb h1 h
  · have : oneE b last = headE b last := by simp [oneE, h1]
    rw [this]
    exact parseA_head hb h1
def At.next {b : List UInt8} (k : At b) (hb : k.rest ≠ []) (h : oneE k.rest k.last = 0) : At b where
  rest := restB k.rest
  last := byteN k.rest 1
  seen := if byteN k.rest 1 ≤ 3 then k.seen + 1 else k.seen
  q := k.q || byteN k.rest 1 == 2
  a := lowA (byteN k.rest 1) k.a (valB k.rest)
  law := k.law.trans (parseA_go hb (oneE_zero h).1 (oneE_zero h).2)
  lim := byteN_lt _ _
  cnt := by
    have := restB_lt hb
    have := k.cnt
    split <;> omega
  nop := fun hl => by
    have h1 : ¬ byteN k.rest 1 ≤ k.last := by
      have := (oneE_zero h).1
      unfold headE at this
      intro hle
      rw [if_pos hle] at this
      revert this
      repeat' split
      all_goals decide
    have h2 : k.q = false := k.nop (by omega)
    have h3 : (byteN k.rest 1 == 2) = false := by simp; omega
    rw [h2, h3]; rfl
  nil := fun hq => by
    have h1 : k.q = false := by cases hk : k.q with | false => rfl | true => rw [hk] at hq; cases hq
    have h2 : byteN k.rest 1 ≠ 2 := by intro e; rw [h1, e] at hq; cases hq
    have h3 := k.nil h1
    unfold lowA
    repeat' split
    all_goals first | exact h3 | contradiction
set_option maxRecDepth 100000 in
theorem parse_ok (fr : Bool) (b : List UInt8) (hb : b.length ≤ 1000000) : PCon prog 20 [encB fr b] (parseE true (parseA b 0 0 noA).1 (parseA b 0 0 noA).2) := by
  refine callV_of (fn := Go.Proofs.Try.f20) (body := _) tab_ok mixed rfl rfl (by decide) (by simp [Go.Proofs.Try.f20]) ?_
  (conv => whnf)
  refine vcg_loop tab_ok mixed (fun k : At b => ⟨[(2, .ptr 0 0), (4, .ptr 1 0)], [(0, some (.var true 26 zeroA)), (1, some (.var true 78 (readerV fr k.rest k.last k.seen k.q k.a)))], 2⟩) (fun k => k.rest.length) ⟨b, 0, 0, false, noA, rfl, by omega, by omega, fun _ => rfl, fun _ => rfl⟩ (Wk.of id [] ⟨.ptr rfl (by omega), .ptr rfl (by omega), trivial⟩ (LeH.of ⟨⟨by omega, .inl ⟨by simp, _, rfl, id, rfl, ?_⟩⟩, ⟨by omega, .inl ⟨by simp, _, rfl, id, rfl, ?_⟩⟩, trivial⟩ (fun _ _ _ _ h => h) (fun _ _ => rfl) (by omega) (by simp))) (fun k => ?_)
  · exact LeL.free zeroA_free
  · exact ⟨.free (encB_free _ _), .int_of rfl, .int_of rfl, .free .int, .free .snil, .free .int, .free .bool, .free .int, .free .bool, .free .int, .snil_sl, trivial⟩
  (conv => whnf)
  intro _
  (conv => whnf)
  split
  · rename_i hc
    have hne : k.rest ≠ [] := by intro e; rw [e] at hc; simp at hc
    (conv => whnf)
    refine callV_one (i := 1) (one_ok fr k.rest (by have := k.cnt; omega) k.last k.seen k.lim (by have := k.cnt; omega) k.q k.nop k.a) rfl ⟨.ptr rfl (by omega), trivial⟩ fun cells' hf hok => ?_
    (conv => whnf)
    cases he : (oneE k.rest k.last != 0) with
    | true =>
      have he' : oneE k.rest k.last ≠ 0 := by simpa using he
      have hp : parseA b 0 0 noA = (noA, oneE k.rest k.last) := k.law.trans (parseA_err hne he')
      (conv => whnf)
      rw [hp]
      exact Ends.pure [] (.tupL ⟨.noA, .int_of rfl, trivial⟩) (by simp)
    | false =>
      have he' : oneE k.rest k.last = 0 := by simpa using he
      (conv => whnf)
      refine ⟨k.next hne he', Wk.of id [] ⟨.ptr rfl (by omega), .ptr rfl (by omega), trivial⟩ (LeH.of ⟨⟨by omega, .inl ⟨by simp, _, rfl, id, rfl, LeL.free zeroA_free⟩⟩, ⟨by omega, .inl ⟨by simp, _, rfl, id, rfl, .of_eq (hok he') (readerV_free _ _ _ _ _ _)⟩⟩, trivial⟩ (fun _ _ _ _ h => h) (fun _ _ => rfl) (by omega) (by simp)), restB_lt hne⟩
  · rename_i hc
    have hnil : k.rest = [] := by simp at hc; exact hc
    have hl : parseA b 0 0 noA = if k.seen = 3 then (k.a, 0) else (noA, 299) := by rw [k.law, hnil, parseA_nil]
    (conv => whnf)
    cases h3 : ((k.seen : Int) != 3) with
    | true =>
      have h3' : k.seen ≠ 3 := by simp at h3; omega
      rw [if_neg h3'] at hl
      (conv => whnf)
      rw [hl]
      exact Ends.pure [] (.tupL ⟨.noA, .int_of rfl, trivial⟩) (by simp)
    | false =>
      have h3' : k.seen = 3 := by simp at h3; omega
      rw [if_pos h3'] at hl
      cases hq : k.q with
      | true =>
        (conv => whnf)
        rw [hl]
        exact Ends.pure [] (.tupL ⟨.eq_of rfl (encA_free true k.a), .int_of rfl, trivial⟩) (by simp)
      | false =>
        have hp := k.nil hq
        (conv => whnf)
        rw [hl]
        refine Ends.pure [] (.tupL ⟨.aggL ⟨.free .int, ?_, .free .int, .free .bool, .free .int, .free .bool, .free .int, .free (encW_free _ _), trivial⟩, .int_of rfl, trivial⟩) (by simp)
        show LeV _ _ _ _ _ .snil (encLegs true k.a.path)
        rw [hp]
        exact .snil_sl
end Go.Proofs.Ytcfkendgjinmiaa
/- Contracts of the document's answer: flags, a path. -/
set_option linter.unusedVariables false
set_option linter.unusedSimpArgs false
namespace Go.Proofs.Ytcfkendgjinmiaa
open Go.RowKit
open Go.Proofs.Try (prog)
attribute [local irreducible] CallV RoundV

theorem eqI (c : Nat) (k : Nat) : ((c : Int) == (k : Int)) = (c == k) := by
  cases h : c == k with
  | true => have h := eq_of_beq h; subst h; simp
  | false => have h : c ≠ k := by simpa using h
             simp; omega
set_option maxRecDepth 100000 in
theorem flags_ok (c : Nat) : PCon prog 46 [cI c] (.int .i64 (flagsI c)) := by
  refine callV_of (fn := Go.Proofs.Try.f46) (body := _) tab_ok mixed rfl rfl (by decide) (by simp [Go.Proofs.Try.f46]) ?_
  have fin : ∀ {s : St} {e : Int}, flagsI c = e → ∃ v1 h' nx', Ends 0 s (.int .i64 e) v1 h' nx' ∧ (v1 = .int .i64 (flagsI c) ∧ h' = [] ∧ nx' = 0) := fun h => Ends.pure [] (.int_of h.symm) (by simp)
  (conv => whnf)
  cases h1 : ((c : Int) == 1) with
  | true => 
    have : c = 1 := by simp at h1; omega
    subst this
    (conv => whnf)
    exact fin rfl
  | false =>
  have h1 : c ≠ 1 := by simp at h1; omega
  (conv => whnf)
  cases h2 : ((c : Int) == 2) with
  | true => 
    have : c = 2 := by simp at h2; omega
    subst this
    (conv => whnf)
    exact fin rfl
  | false =>
  have h2 : c ≠ 2 := by simp at h2; omega
  (conv => whnf)
  cases h3 : ((c : Int) == 3) with
  | true => 
    have : c = 3 := by simp at h3; omega
    subst this
    (conv => whnf)
    exact fin rfl
  | false =>
  have h3 : c ≠ 3 := by simp at h3; omega
  (conv => whnf)
  cases h5 : ((c : Int) == 5) with
  | true => 
    have : c = 5 := by simp at h5; omega
    subst this
    (conv => whnf)
    exact fin rfl
  | false =>
  have h5 : c ≠ 5 := by simp at h5; omega
  (conv => whnf)
  cases h4 : ((c : Int) == 4) with
  | true => 
    have : c = 4 := by simp at h4; omega
    subst this
    (conv => whnf)
    exact fin rfl
  | false =>
  have h4 : c ≠ 4 := by simp at h4; omega
  (conv => whnf)
  cases h8 : ((c : Int) == 8) with
  | true => 
    have : c = 8 := by simp at h8; omega
    subst this
    (conv => whnf)
    exact fin rfl
  | false =>
  have h8 : c ≠ 8 := by simp at h8; omega
  (conv => whnf)
  exact fin (by unfold flagsI; rw [if_neg h1, if_neg h2, if_neg h3, if_neg h5, if_neg h4, if_neg h8])

/-- Where a path's reading stands, by places. -/
structure Road (v : List UInt8) where
  i : Nat
  told : List (UInt8 × List UInt32)
  law : legs v = (legs (v.drop i)).map (told ++ ·)
  le : i ≤ v.length
  few : 2 * told.length ≤ i
theorem LeB.snoc {h : Heap} {nx nx' : Nat} {ρ : Nat → Nat} {Z : List Nat} {fr ex : Bool} {ty sz : Nat} {rows r0 r1 : List (List V)} {x x' : List V} (hf : ∀ x ∈ rows, ∀ v ∈ x, Free v) (e0 : r0 = rows ++ [x]) (e1 : r1 = rows ++ [x']) (hx : LeL h nx ρ nx' Z x x') :
    LeB h nx ρ nx' Z (.arr fr ex ty sz r0) (.arr fr ex ty sz r1) := by
  subst e0; subst e1
  refine LeB.rows (by simp) fun j y y' h1 h2 => ?_
  rcases Nat.lt_or_ge j rows.length with hj | hj
  · rw [List.getElem?_append_left hj] at h1 h2
    rw [h1] at h2; cases h2
    exact LeL.free (hf _ (List.mem_of_getElem? h1))
  · rw [List.getElem?_append_right hj] at h1 h2
    have : j - rows.length = 0 := by
      have := (List.getElem?_eq_some_iff.1 h1).1
      simp at this; omega
    rw [this] at h1 h2
    simp at h1 h2
    subst h1; subst h2
    exact hx
def partsV (v : List UInt8) : V := .tup [encLegs true (if pathE v = 0 then pathA v else []), .int .i64 (pathE v)]
set_option maxRecDepth 100000 in
theorem parts_ok (fr : Bool) (v : List UInt8) (hv : v.length ≤ 1000000) : PCon prog 85 [encB fr v] (partsV v) := by
  refine callV_of (fn := Go.Proofs.Try.f85) (body := _) tab_ok mixed rfl rfl (by decide) (by simp [Go.Proofs.Try.f85]) ?_
  (conv => whnf)
  refine vcg_loop tab_ok mixed (fun k : Road v => ⟨[(0, encB fr v), (4, .osl 0 2 0 k.told.length), (5, .bool (!(k.told.all fun p => kindOk p.1))), (6, cI k.i)], [(0, some (.arr true false 54 2 (rowsL (wayA k.told))))], 1⟩) (fun k => v.length - k.i) ⟨0, [], by simp, by omega, by simp⟩ (Wk.of id [] ⟨.free (encB_free _ _), .osl0, .bool_of rfl, .int_of rfl, trivial⟩ (LeH.of ⟨⟨by omega, .inr ⟨by simp, _, _, _, _, rfl⟩⟩, trivial⟩ (fun _ _ _ _ h => h) (fun _ _ => rfl) (by omega) (by simp))) (fun k => ?_)
  obtain ⟨i, told, law, le, few⟩ := k
  (conv => whnf)
  intro _
  (conv => whnf)
  split
  · rename_i hc
    have hc : i < v.length := by simpa using hc
    have w2 : IntKind.i64.wrap ((i : Int) + 2) = (i + 2 : Nat) := by rw [wrap64] <;> omega
    have w1 : IntKind.i64.wrap ((i : Int) + 1) = (i + 1 : Nat) := by rw [wrap64] <;> omega
    (conv => whnf)
    intro _
    (conv => whnf)
    cases h1 : decide (((List.map (fun x => [V.int .u8 x.toNat]) v).length : Int) < IntKind.i64.wrap ((i : Int) + 2)) with
    | true =>
      have h1 : v.length < i + 2 := by rw [w2] at h1; simp at h1; omega
      have hd : (v.drop i).length = 1 := by simp; omega
      obtain ⟨x, hx⟩ := List.length_eq_one_iff.1 hd
      have e : pathE v = 294 := by
        rw [hx, legs_one] at law
        simp [pathE, law]
      (conv => whnf)
      rw [show partsV v = .tup [encLegs true [], .int .i64 (pathE v)] by simp [partsV, e], e]
      exact Ends.pure [] (.tupL ⟨.snil_sl, .int_of rfl, trivial⟩) (by simp)
    | false =>
    have h1 : i + 2 ≤ v.length := by rw [w2] at h1; simp at h1; omega
    obtain ⟨x, n, r, hd⟩ : ∃ x n r, v.drop i = x :: n :: r := by
      have hl : 2 ≤ (v.drop i).length := by simp; omega
      rcases hh : v.drop i with _ | ⟨x, _ | ⟨n, r⟩⟩
      · rw [hh] at hl; simp at hl
      · rw [hh] at hl; simp at hl
      · exact ⟨x, n, r, rfl⟩
    have hx : (List.map (fun x => [V.int .u8 x.toNat]) v)[((i : Nat) : Int).toNat]? = some [cB x] := by
      have : (v.drop i)[0]? = v[i + 0]? := List.getElem?_drop
      rw [hd] at this
      rw [Nat.add_zero] at this
      rw [Int.toNat_natCast, List.getElem?_map, ← this]; rfl
    have hn : (List.map (fun x => [V.int .u8 x.toNat]) v)[(IntKind.i64.wrap ((i : Int) + 1)).toNat]? = some [cB n] := by
      have : (v.drop i)[1]? = v[i + 1]? := List.getElem?_drop
      rw [hd] at this
      rw [w1, Int.toNat_natCast, List.getElem?_map, ← this]; rfl
    have hr : r = v.drop (i + 2) := by
      have : (v.drop i).drop 2 = v.drop (i + 2) := List.drop_drop
      rw [hd] at this
      exact this
    have hrl : r.length = v.length - (i + 2) := by rw [hr]; simp
    have hn256 := n.toNat_lt
    have wn : IntKind.i64.wrap (n.toNat : Int) = n.toNat := wrap64 (by omega) (by omega)
    have w4 : IntKind.i64.wrap (IntKind.i64.wrap ((i : Int) + 2) + IntKind.i64.wrap (4 * IntKind.i64.wrap (n.toNat : Int))) = (i + 2 + 4 * n.toNat : Nat) := by
      rw [w2, wn, wrap64 (n := 4 * (n.toNat : Int)) (by omega) (by omega), wrap64] <;> omega
    (conv => whnf)
    refine ⟨rfl, _, ⟨by rw [w1]; omega, hn⟩, ?_⟩
    (conv => whnf)
    intro _
    (conv => whnf)
    cases h2 : decide (((List.map (fun x => [V.int .u8 x.toNat]) v).length : Int) < IntKind.i64.wrap (IntKind.i64.wrap ((i : Int) + 2) + IntKind.i64.wrap (4 * IntKind.i64.wrap (n.toNat : Int)))) with
    | true =>
      have h2 : r.length < 4 * n.toNat := by rw [w4] at h2; simp at h2; omega
      have e : pathE v = 294 := by
        rw [hd, legs_no h2] at law
        simp [pathE, law]
      (conv => whnf)
      rw [show partsV v = .tup [encLegs true [], .int .i64 (pathE v)] by simp [partsV, e], e]
      exact Ends.pure [] (.tupL ⟨.snil_sl, .int_of rfl, trivial⟩) (by simp)
    | false =>
    have h2 : ¬ r.length < 4 * n.toNat := by rw [w4] at h2; simp at h2; omega
    have law' : legs v = (legs (v.drop (i + 2 + 4 * n.toNat))).map ((told ++ [(x, numsK r n.toNat)]) ++ ·) := by
      rw [law, hd, legs_go h2, Option.map_map, hr, List.drop_drop]
      congr 1
      funext l
      simp
    have hall : ((told ++ [(x, numsK r n.toNat)]).all fun p => kindOk p.1) = ((told.all fun p => kindOk p.1) && kindOk x) := by simp
    (conv => whnf)
    cases hk : (told.all fun p => kindOk p.1) with
    | false =>
      (conv => whnf)
      refine ⟨rfl, _, ⟨by omega, hx⟩, ?_⟩
      (conv => whnf)
      refine vcg_loop tab_ok mixed (fun j : {j : Nat // j ≤ n.toNat} => ⟨[(0, encB fr v), (4, .osl 0 2 0 told.length), (5, .bool (!((told ++ [(x, numsK r n.toNat)]).all fun p => kindOk p.1))), (6, cI i), (7, .ptr 1 0), (8, cI j.1)], [(0, some (.arr true false 54 2 (rowsL (wayA told)))), (1, some (.var true 54 [.bool (x == 1), .osl 2 1 0 j.1])), (2, some (.arr true false 23 1 (rowsW (numsK r j.1))))], 3⟩) (fun j => n.toNat - j.1) ⟨0, by omega⟩ ?_ (fun j => ?_)
      · refine Wk.of id [] ⟨.free (encB_free _ _), .osl_of rfl (by omega) rfl, .bool_of ?_, .int_of rfl, .ptr rfl (by omega), .int_of rfl, trivial⟩ (LeH.of ⟨⟨by omega, .inl ⟨by simp, _, rfl, LeB.free (blk := .arr true false 54 2 (rowsL (wayA told))) (rowsLegs_free true _)⟩⟩, ⟨by omega, .inl ⟨by simp, _, rfl, id, rfl, .bool_of (u8_is1 x), .osl0, trivial⟩⟩, ⟨by omega, .inr ⟨by simp, _, _, _, _, rfl⟩⟩, trivial⟩ (fun _ _ _ _ h => h) (fun _ _ => rfl) (by omega) (by simp))
        symm
        exact (by rw [hall, hk]; rfl)
      obtain ⟨j, hj⟩ := j
      (conv => whnf)
      refine ⟨rfl, _, ⟨by rw [w1]; omega, hn⟩, ?_⟩
      (conv => whnf)
      split
      · rename_i hjc
        have hjc : j < n.toNat := by rw [wn] at hjc; simp at hjc; omega
        have wa : IntKind.i64.wrap (IntKind.i64.wrap ((i : Int) + 2) + IntKind.i64.wrap (4 * (j : Int))) = (i + 2 + 4 * j : Nat) := by rw [w2, wrap64 (n := 4 * (j : Int)) (by omega) (by omega), wrap64] <;> omega
        have wb : IntKind.i64.wrap (IntKind.i64.wrap ((i : Int) + 6) + IntKind.i64.wrap (4 * (j : Int))) = (i + 2 + 4 * j + 4 : Nat) := by rw [wrap64 (n := (i : Int) + 6) (by omega) (by omega), wrap64 (n := 4 * (j : Int)) (by omega) (by omega), wrap64] <;> omega
        have hsl : V.sl fr 1 (List.drop (IntKind.i64.wrap (IntKind.i64.wrap ((i : Int) + 2) + IntKind.i64.wrap (4 * (j : Int)))).toNat (List.take (IntKind.i64.wrap (IntKind.i64.wrap ((i : Int) + 6) + IntKind.i64.wrap (4 * (j : Int)))).toNat (List.map (fun x => [V.int .u8 x.toNat]) v))) = encB fr ((r.drop (4 * j)).take 4) := by
          rw [wa, wb, Int.toNat_natCast, Int.toNat_natCast, ← List.map_take, ← List.map_drop, List.drop_take, hr, List.drop_drop, show i + 2 + 4 * j + 4 - (i + 2 + 4 * j) = 4 by omega]
          rfl
        (conv => whnf)
        refine ⟨rfl, ⟨by rw [wa]; omega, by rw [wb]; omega, by rw [wa, wb]; simp; try omega, by rw [wb]; simp; omega⟩, ?_⟩
        (conv => whnf)
        refine ⟨cW (wordOf ((r.drop (4 * j)).take 4)), [], fun h nx _ => pureV_pure (word_ok fr _) ⟨.eq_of hsl (encB_free _ _), trivial⟩, by simp, ?_⟩
        (conv => whnf)
        refine ⟨rfl, by simp, ⟨rfl, rfl, rfl, rfl, by decide⟩, by simp [numsK_len], ⟨by simp [tab, tabOf, nth]; omega, by simp; omega⟩, ?_⟩
        (conv => whnf)
        refine ⟨by kernel_rfl, ?_⟩
        (conv => whnf)
        refine ⟨⟨j + 1, by omega⟩, Wk.of (renOf [(2, 4)]) [] ⟨.free (encB_free _ _), .osl_of rfl (by omega) rfl, .free .bool, .int_of rfl, .ptr rfl (by omega), .int_of ?_, trivial⟩ (LeH.of ⟨⟨by omega, .inl ⟨by simp, _, rfl, LeB.free (blk := .arr true false 54 2 (rowsL (wayA told))) (rowsLegs_free true _)⟩⟩, ⟨by omega, .inl ⟨by simp, _, rfl, id, rfl, .free .bool, .osl_of rfl (by omega) (by simp), trivial⟩⟩, ⟨by omega, .inl ⟨by simp, _, rfl, LeB.eq_of ?_ (rowsW_free _)⟩⟩, trivial⟩ (show ∀ b ∈ [0, 1, 2], ∀ b' ∈ [0, 1, 2], renOf [(2, 4)] b = renOf [(2, 4)] b' → b = b' by decide) (show ∀ b, b < 0 → renOf [(2, 4)] b = b by decide) (by omega) (by simp)), by simp only; omega⟩
        · rw [wrap64] <;> (simp only; omega)
        · simp only
          rw [numsK_succ, List.take_of_length_le (by simp [numsK_len])]
          simp
      · rename_i hjc
        have hjc : j = n.toNat := by rw [wn] at hjc; simp at hjc; omega
        subst hjc
        (conv => whnf)
        refine ⟨rfl, by simp, ⟨rfl, rfl, rfl, rfl, by decide⟩, by simp [wayA], ⟨by simp [tab, tabOf, nth]; omega, by simp; omega⟩, ?_⟩
        (conv => whnf)
        refine ⟨rfl, _, ⟨by rw [w1]; omega, hn⟩, ?_⟩
        (conv => whnf)
        refine ⟨⟨i + 2 + 4 * n.toNat, told ++ [(x, numsK r n.toNat)], law', by omega, by simp; omega⟩, Wk.of (renOf [(0, 4)]) [2] ⟨.free (encB_free _ _), .osl_of rfl (by omega) (by simp), .free .bool, .int_of w4, trivial⟩ (LeH.of ⟨⟨by omega, .inl ⟨by simp [renOf], _, rfl, LeB.snoc (x := [.bool (x == 1), .osl 2 1 0 n.toNat]) (x' := encLeg true (legOf (x, numsK r n.toNat))) (rowsLegs_free true (wayA told)) ?_ ?_ ?_⟩⟩, trivial⟩ (by simp) (fun b hb => by omega) (by omega) ?_), by simp only; omega⟩
        · rw [List.take_of_length_le (by simp [wayA])]
          simp [wayA]
        · simp [wayA, rowsL]
        · exact ⟨.bool_of rfl, LeV.freeze_of (by simp) rfl (by simp [numsK_len]) (rowsW_free _) (by rw [List.drop_zero]; exact List.take_of_length_le (by simp [numsK_len])), trivial⟩
        · exact one_none rfl
    | true =>
      (conv => whnf)
      refine ⟨rfl, _, ⟨by omega, hx⟩, ?_⟩
      (conv => whnf)
      cases h1 : ((x.toNat : Int) != 1) with
      | false =>
        have h1 : kindOk x = true := by
          have := congrArg Bool.not h1
          simp only [bne, Bool.not_not, Bool.not_false, u8_is1] at this
          simp [kindOk, this]
        (conv => whnf)
        refine ⟨rfl, _, ⟨by omega, hx⟩, ?_⟩
        (conv => whnf)
        refine vcg_loop tab_ok mixed (fun j : {j : Nat // j ≤ n.toNat} => ⟨[(0, encB fr v), (4, .osl 0 2 0 told.length), (5, .bool (!((told ++ [(x, numsK r n.toNat)]).all fun p => kindOk p.1))), (6, cI i), (7, .ptr 1 0), (8, cI j.1)], [(0, some (.arr true false 54 2 (rowsL (wayA told)))), (1, some (.var true 54 [.bool (x == 1), .osl 2 1 0 j.1])), (2, some (.arr true false 23 1 (rowsW (numsK r j.1))))], 3⟩) (fun j => n.toNat - j.1) ⟨0, by omega⟩ ?_ (fun j => ?_)
        · refine Wk.of id [] ⟨.free (encB_free _ _), .osl_of rfl (by omega) rfl, .bool_of ?_, .int_of rfl, .ptr rfl (by omega), .int_of rfl, trivial⟩ (LeH.of ⟨⟨by omega, .inl ⟨by simp, _, rfl, LeB.free (blk := .arr true false 54 2 (rowsL (wayA told))) (rowsLegs_free true _)⟩⟩, ⟨by omega, .inl ⟨by simp, _, rfl, id, rfl, .bool_of (u8_is1 x), .osl0, trivial⟩⟩, ⟨by omega, .inr ⟨by simp, _, _, _, _, rfl⟩⟩, trivial⟩ (fun _ _ _ _ h => h) (fun _ _ => rfl) (by omega) (by simp))
          symm
          exact (by rw [hall, hk, h1]; rfl)
        obtain ⟨j, hj⟩ := j
        (conv => whnf)
        refine ⟨rfl, _, ⟨by rw [w1]; omega, hn⟩, ?_⟩
        (conv => whnf)
        split
        · rename_i hjc
          have hjc : j < n.toNat := by rw [wn] at hjc; simp at hjc; omega
          have wa : IntKind.i64.wrap (IntKind.i64.wrap ((i : Int) + 2) + IntKind.i64.wrap (4 * (j : Int))) = (i + 2 + 4 * j : Nat) := by rw [w2, wrap64 (n := 4 * (j : Int)) (by omega) (by omega), wrap64] <;> omega
          have wb : IntKind.i64.wrap (IntKind.i64.wrap ((i : Int) + 6) + IntKind.i64.wrap (4 * (j : Int))) = (i + 2 + 4 * j + 4 : Nat) := by rw [wrap64 (n := (i : Int) + 6) (by omega) (by omega), wrap64 (n := 4 * (j : Int)) (by omega) (by omega), wrap64] <;> omega
          have hsl : V.sl fr 1 (List.drop (IntKind.i64.wrap (IntKind.i64.wrap ((i : Int) + 2) + IntKind.i64.wrap (4 * (j : Int)))).toNat (List.take (IntKind.i64.wrap (IntKind.i64.wrap ((i : Int) + 6) + IntKind.i64.wrap (4 * (j : Int)))).toNat (List.map (fun x => [V.int .u8 x.toNat]) v))) = encB fr ((r.drop (4 * j)).take 4) := by
            rw [wa, wb, Int.toNat_natCast, Int.toNat_natCast, ← List.map_take, ← List.map_drop, List.drop_take, hr, List.drop_drop, show i + 2 + 4 * j + 4 - (i + 2 + 4 * j) = 4 by omega]
            rfl
          (conv => whnf)
          refine ⟨rfl, ⟨by rw [wa]; omega, by rw [wb]; omega, by rw [wa, wb]; simp; try omega, by rw [wb]; simp; omega⟩, ?_⟩
          (conv => whnf)
          refine ⟨cW (wordOf ((r.drop (4 * j)).take 4)), [], fun h nx _ => pureV_pure (word_ok fr _) ⟨.eq_of hsl (encB_free _ _), trivial⟩, by simp, ?_⟩
          (conv => whnf)
          refine ⟨rfl, by simp, ⟨rfl, rfl, rfl, rfl, by decide⟩, by simp [numsK_len], ⟨by simp [tab, tabOf, nth]; omega, by simp; omega⟩, ?_⟩
          (conv => whnf)
          refine ⟨by kernel_rfl, ?_⟩
          (conv => whnf)
          refine ⟨⟨j + 1, by omega⟩, Wk.of (renOf [(2, 4)]) [] ⟨.free (encB_free _ _), .osl_of rfl (by omega) rfl, .free .bool, .int_of rfl, .ptr rfl (by omega), .int_of ?_, trivial⟩ (LeH.of ⟨⟨by omega, .inl ⟨by simp, _, rfl, LeB.free (blk := .arr true false 54 2 (rowsL (wayA told))) (rowsLegs_free true _)⟩⟩, ⟨by omega, .inl ⟨by simp, _, rfl, id, rfl, .free .bool, .osl_of rfl (by omega) (by simp), trivial⟩⟩, ⟨by omega, .inl ⟨by simp, _, rfl, LeB.eq_of ?_ (rowsW_free _)⟩⟩, trivial⟩ (show ∀ b ∈ [0, 1, 2], ∀ b' ∈ [0, 1, 2], renOf [(2, 4)] b = renOf [(2, 4)] b' → b = b' by decide) (show ∀ b, b < 0 → renOf [(2, 4)] b = b by decide) (by omega) (by simp)), by simp only; omega⟩
          · rw [wrap64] <;> (simp only; omega)
          · simp only
            rw [numsK_succ, List.take_of_length_le (by simp [numsK_len])]
            simp
        · rename_i hjc
          have hjc : j = n.toNat := by rw [wn] at hjc; simp at hjc; omega
          subst hjc
          (conv => whnf)
          refine ⟨rfl, by simp, ⟨rfl, rfl, rfl, rfl, by decide⟩, by simp [wayA], ⟨by simp [tab, tabOf, nth]; omega, by simp; omega⟩, ?_⟩
          (conv => whnf)
          refine ⟨rfl, _, ⟨by rw [w1]; omega, hn⟩, ?_⟩
          (conv => whnf)
          refine ⟨⟨i + 2 + 4 * n.toNat, told ++ [(x, numsK r n.toNat)], law', by omega, by simp; omega⟩, Wk.of (renOf [(0, 4)]) [2] ⟨.free (encB_free _ _), .osl_of rfl (by omega) (by simp), .free .bool, .int_of w4, trivial⟩ (LeH.of ⟨⟨by omega, .inl ⟨by simp [renOf], _, rfl, LeB.snoc (x := [.bool (x == 1), .osl 2 1 0 n.toNat]) (x' := encLeg true (legOf (x, numsK r n.toNat))) (rowsLegs_free true (wayA told)) ?_ ?_ ?_⟩⟩, trivial⟩ (by simp) (fun b hb => by omega) (by omega) ?_), by simp only; omega⟩
          · rw [List.take_of_length_le (by simp [wayA])]
            simp [wayA]
          · simp [wayA, rowsL]
          · exact ⟨.bool_of rfl, LeV.freeze_of (by simp) rfl (by simp [numsK_len]) (rowsW_free _) (by rw [List.drop_zero]; exact List.take_of_length_le (by simp [numsK_len])), trivial⟩
          · exact one_none rfl
      | true =>
        have h1 : kindOk x = (x == 2) := by
          have := congrArg Bool.not h1
          simp only [bne, Bool.not_not, Bool.not_true, u8_is1] at this
          simp [kindOk, this]
        (conv => whnf)
        refine ⟨rfl, _, ⟨by omega, hx⟩, ?_⟩
        (conv => whnf)
        refine ⟨rfl, _, ⟨by omega, hx⟩, ?_⟩
        (conv => whnf)
        refine vcg_loop tab_ok mixed (fun j : {j : Nat // j ≤ n.toNat} => ⟨[(0, encB fr v), (4, .osl 0 2 0 told.length), (5, .bool (!((told ++ [(x, numsK r n.toNat)]).all fun p => kindOk p.1))), (6, cI i), (7, .ptr 1 0), (8, cI j.1)], [(0, some (.arr true false 54 2 (rowsL (wayA told)))), (1, some (.var true 54 [.bool (x == 1), .osl 2 1 0 j.1])), (2, some (.arr true false 23 1 (rowsW (numsK r j.1))))], 3⟩) (fun j => n.toNat - j.1) ⟨0, by omega⟩ ?_ (fun j => ?_)
        · refine Wk.of id [] ⟨.free (encB_free _ _), .osl_of rfl (by omega) rfl, .bool_of ?_, .int_of rfl, .ptr rfl (by omega), .int_of rfl, trivial⟩ (LeH.of ⟨⟨by omega, .inl ⟨by simp, _, rfl, LeB.free (blk := .arr true false 54 2 (rowsL (wayA told))) (rowsLegs_free true _)⟩⟩, ⟨by omega, .inl ⟨by simp, _, rfl, id, rfl, .bool_of (u8_is1 x), .osl0, trivial⟩⟩, ⟨by omega, .inr ⟨by simp, _, _, _, _, rfl⟩⟩, trivial⟩ (fun _ _ _ _ h => h) (fun _ _ => rfl) (by omega) (by simp))
          symm
          exact (by rw [hall, hk, h1]; simp [u8_is2, bne])
        obtain ⟨j, hj⟩ := j
        (conv => whnf)
        refine ⟨rfl, _, ⟨by rw [w1]; omega, hn⟩, ?_⟩
        (conv => whnf)
        split
        · rename_i hjc
          have hjc : j < n.toNat := by rw [wn] at hjc; simp at hjc; omega
          have wa : IntKind.i64.wrap (IntKind.i64.wrap ((i : Int) + 2) + IntKind.i64.wrap (4 * (j : Int))) = (i + 2 + 4 * j : Nat) := by rw [w2, wrap64 (n := 4 * (j : Int)) (by omega) (by omega), wrap64] <;> omega
          have wb : IntKind.i64.wrap (IntKind.i64.wrap ((i : Int) + 6) + IntKind.i64.wrap (4 * (j : Int))) = (i + 2 + 4 * j + 4 : Nat) := by rw [wrap64 (n := (i : Int) + 6) (by omega) (by omega), wrap64 (n := 4 * (j : Int)) (by omega) (by omega), wrap64] <;> omega
          have hsl : V.sl fr 1 (List.drop (IntKind.i64.wrap (IntKind.i64.wrap ((i : Int) + 2) + IntKind.i64.wrap (4 * (j : Int)))).toNat (List.take (IntKind.i64.wrap (IntKind.i64.wrap ((i : Int) + 6) + IntKind.i64.wrap (4 * (j : Int)))).toNat (List.map (fun x => [V.int .u8 x.toNat]) v))) = encB fr ((r.drop (4 * j)).take 4) := by
            rw [wa, wb, Int.toNat_natCast, Int.toNat_natCast, ← List.map_take, ← List.map_drop, List.drop_take, hr, List.drop_drop, show i + 2 + 4 * j + 4 - (i + 2 + 4 * j) = 4 by omega]
            rfl
          (conv => whnf)
          refine ⟨rfl, ⟨by rw [wa]; omega, by rw [wb]; omega, by rw [wa, wb]; simp; try omega, by rw [wb]; simp; omega⟩, ?_⟩
          (conv => whnf)
          refine ⟨cW (wordOf ((r.drop (4 * j)).take 4)), [], fun h nx _ => pureV_pure (word_ok fr _) ⟨.eq_of hsl (encB_free _ _), trivial⟩, by simp, ?_⟩
          (conv => whnf)
          refine ⟨rfl, by simp, ⟨rfl, rfl, rfl, rfl, by decide⟩, by simp [numsK_len], ⟨by simp [tab, tabOf, nth]; omega, by simp; omega⟩, ?_⟩
          (conv => whnf)
          refine ⟨by kernel_rfl, ?_⟩
          (conv => whnf)
          refine ⟨⟨j + 1, by omega⟩, Wk.of (renOf [(2, 4)]) [] ⟨.free (encB_free _ _), .osl_of rfl (by omega) rfl, .free .bool, .int_of rfl, .ptr rfl (by omega), .int_of ?_, trivial⟩ (LeH.of ⟨⟨by omega, .inl ⟨by simp, _, rfl, LeB.free (blk := .arr true false 54 2 (rowsL (wayA told))) (rowsLegs_free true _)⟩⟩, ⟨by omega, .inl ⟨by simp, _, rfl, id, rfl, .free .bool, .osl_of rfl (by omega) (by simp), trivial⟩⟩, ⟨by omega, .inl ⟨by simp, _, rfl, LeB.eq_of ?_ (rowsW_free _)⟩⟩, trivial⟩ (show ∀ b ∈ [0, 1, 2], ∀ b' ∈ [0, 1, 2], renOf [(2, 4)] b = renOf [(2, 4)] b' → b = b' by decide) (show ∀ b, b < 0 → renOf [(2, 4)] b = b by decide) (by omega) (by simp)), by simp only; omega⟩
          · rw [wrap64] <;> (simp only; omega)
          · simp only
            rw [numsK_succ, List.take_of_length_le (by simp [numsK_len])]
            simp
        · rename_i hjc
          have hjc : j = n.toNat := by rw [wn] at hjc; simp at hjc; omega
          subst hjc
          (conv => whnf)
          refine ⟨rfl, by simp, ⟨rfl, rfl, rfl, rfl, by decide⟩, by simp [wayA], ⟨by simp [tab, tabOf, nth]; omega, by simp; omega⟩, ?_⟩
          (conv => whnf)
          refine ⟨rfl, _, ⟨by rw [w1]; omega, hn⟩, ?_⟩
          (conv => whnf)
          refine ⟨⟨i + 2 + 4 * n.toNat, told ++ [(x, numsK r n.toNat)], law', by omega, by simp; omega⟩, Wk.of (renOf [(0, 4)]) [2] ⟨.free (encB_free _ _), .osl_of rfl (by omega) (by simp), .free .bool, .int_of w4, trivial⟩ (LeH.of ⟨⟨by omega, .inl ⟨by simp [renOf], _, rfl, LeB.snoc (x := [.bool (x == 1), .osl 2 1 0 n.toNat]) (x' := encLeg true (legOf (x, numsK r n.toNat))) (rowsLegs_free true (wayA told)) ?_ ?_ ?_⟩⟩, trivial⟩ (by simp) (fun b hb => by omega) (by omega) ?_), by simp only; omega⟩
          · rw [List.take_of_length_le (by simp [wayA])]
            simp [wayA]
          · simp [wayA, rowsL]
          · exact ⟨.bool_of rfl, LeV.freeze_of (by simp) rfl (by simp [numsK_len]) (rowsW_free _) (by rw [List.drop_zero]; exact List.take_of_length_le (by simp [numsK_len])), trivial⟩
          · exact one_none rfl
  · rename_i hc
    have hc : i = v.length := by simp at hc; omega
    have hl : legs v = some told := by rw [law, hc, List.drop_length, legs_nil]; simp
    have hfz : LeV [(0, some (.arr true false 54 2 (rowsL (wayA told))))] 1 id 0 [0] (.osl 0 2 0 told.length) (encLegs true (wayA told)) := LeV.freeze_of (by simp) rfl (by simp [wayA]) (rowsLegs_free true (wayA told)) (by rw [List.drop_zero]; exact List.take_of_length_le (by simp [wayA]))
    (conv => whnf)
    cases hk : (told.all fun p => kindOk p.1) with
    | false =>
      have e : pathE v = 296 := by simp only [pathE, hl, hk]; rfl
      (conv => whnf)
      rw [show partsV v = .tup [encLegs true [], .int .i64 (pathE v)] by simp [partsV, e], e]
      exact Ends.pure [] (.tupL ⟨.snil_sl, .int_of rfl, trivial⟩) (by simp)
    | true =>
      (conv => whnf)
      refine callV_lend [0] (ref_path_ok false (wayA told)) ⟨.less (v1 := encLegs true (wayA told)) hfz .legs, trivial⟩ (by intro v hv; simp at hv; subst hv; exact encLegs_cold _) (one_none rfl) .bool ?_
      cases hp : pathOk (wayA told) with
      | false =>
        have e : pathE v = 296 := by simp only [pathE, hl, hk, show told.map legOf = wayA told from rfl, hp]; rfl
        (conv => whnf)
        rw [show partsV v = .tup [encLegs true [], .int .i64 (pathE v)] by simp [partsV, e], e]
        exact Ends.pure [] (.tupL ⟨.snil_sl, .int_of rfl, trivial⟩) (by simp)
      | true =>
        have e : pathE v = 0 := by simp only [pathE, hl, hk, show told.map legOf = wayA told from rfl, hp]; rfl
        have ep : pathA v = wayA told := by simp only [pathA, hl]; rfl
        (conv => whnf)
        rw [show partsV v = .tup [encLegs true (wayA told), .int .i64 0] by simp [partsV, e, ep]]
        exact Ends.pure [0] (.tupL ⟨hfz, .int_of rfl, trivial⟩) (one_none rfl)
end Go.Proofs.Ytcfkendgjinmiaa
/- Contracts of the document's answer: a value. -/
set_option linter.unusedVariables false
set_option linter.unusedSimpArgs false
namespace Go.Proofs.Ytcfkendgjinmiaa
open Go.RowKit
open Go.Proofs.Try (prog)
attribute [local irreducible] CallV RoundV

/-- What is handed back with an error, too. -/
def retA (c : Nat) (a : Attrs) (v : List UInt8) : Attrs := if lowE c v = 0 then lowA c a v else if lowE c v = 294 ∧ c ≠ 2 then a else if c = 2 then { a with path := [] } else lowA c a v
def valueV (c : Nat) (a : Attrs) (v : List UInt8) : V := .tup [encA true (retA c a v), .int .i64 (lowE c v)]
theorem Ends.valE {s : St} {c : Nat} {a : Attrs} {v : List UInt8} {w : V} {e : Int} {a' : Attrs} (Z : List Nat) (he : lowE c v = e) (ha : retA c a v = a') (hw : LeV s.h s.nx id 0 Z w (encA true a')) (hz : ∀ z ∈ Z, hget s.h z ≠ none) : ∃ v1 h' nx', Ends 0 s (.tup [w, .int .i64 e]) v1 h' nx' ∧ (v1 = valueV c a v ∧ h' = [] ∧ nx' = 0) := by
  subst he; subst ha
  exact Ends.pure Z (.tupL ⟨hw, .int_of rfl, trivial⟩) hz
theorem Ends.valK {s : St} {c : Nat} {a : Attrs} {v : List UInt8} {w : V} (he : lowE c v = 0) (Z : List Nat) (hw : LeV s.h s.nx id 0 Z w (encA true (lowA c a v))) (hz : ∀ z ∈ Z, hget s.h z ≠ none) : ∃ v1 h' nx', Ends 0 s (.tup [w, .int .i64 0]) v1 h' nx' ∧ (v1 = valueV c a v ∧ h' = [] ∧ nx' = 0) := by
  exact Ends.valE Z he (by simp [retA, he]) hw hz
set_option maxRecDepth 100000 in
theorem value1_ok (fr : Bool) (a : Attrs) (v : List UInt8) : PCon prog 47 [encA true a, cI 1, encB fr v] (valueV 1 a v) := by
  refine callV_of (fn := Go.Proofs.Try.f47) (body := _) tab_ok mixed rfl rfl (by decide) (by simp [Go.Proofs.Try.f47]) ?_
  (conv => whnf)
  intro _
  (conv => whnf)
  cases h : (((List.map (fun x => [V.int .u8 x.toNat]) v).length : Int) != 1) with
  | true =>
    have h : v.length ≠ 1 := by simp at h; omega
    have e : lowE 1 v = 294 := by simp [lowE, h]
    (conv => whnf)
    exact Ends.valE [] e (by simp [retA, e]) (.eq_of rfl (encA_free true a)) (by simp)
  | false =>
    have h : v.length = 1 := by simp at h; omega
    obtain ⟨x, rfl⟩ := List.length_eq_one_iff.1 h
    (conv => whnf)
    refine ⟨rfl, [cB x], ⟨by decide, rfl⟩, ?_⟩
    (conv => whnf)
    refine ⟨rfl, [cB x], ⟨by decide, rfl⟩, ?_⟩
    (conv => whnf)
    split
    · rename_i h2
      have e : lowE 1 [x] = 295 := by
        simp at h2
        simp [lowE]
        omega
      (conv => whnf)
      exact Ends.valE [] e (by simp [retA, e]) (.eq_of rfl (encA_free true (lowA 1 a [x]))) (by simp)
    · rename_i h2
      (conv => whnf)
      refine Ends.valK ?_ [] (.eq_of rfl (encA_free true (lowA 1 a [x]))) (by simp)
      simp at h2
      simp [lowE]
      omega
set_option maxRecDepth 100000 in
theorem value3_ok (fr : Bool) (a : Attrs) (v : List UInt8) : PCon prog 47 [encA true a, cI 3, encB fr v] (valueV 3 a v) := by
  refine callV_of (fn := Go.Proofs.Try.f47) (body := _) tab_ok mixed rfl rfl (by decide) (by simp [Go.Proofs.Try.f47]) ?_
  (conv => whnf)
  intro _
  (conv => whnf)
  cases h : (((List.map (fun x => [V.int .u8 x.toNat]) v).length : Int) != 4) with
  | true =>
    have h : v.length ≠ 4 := by simp at h; omega
    have e : lowE 3 v = 294 := by simp [lowE, h]
    (conv => whnf)
    exact Ends.valE [] e (by simp [retA, e]) (.eq_of rfl (encA_free true a)) (by simp)
  | false =>
    have h : v.length = 4 := by simp at h; omega
    (conv => whnf)
    refine callV_pure (word_ok fr v) ⟨.free (encB_free _ _), trivial⟩ ?_
    (conv => whnf)
    split
    · rename_i h2
      have h2 : wordOf v = 0 := UInt32.toNat_inj.1 (by simp at h2; simp; omega)
      have e : lowE 3 v = 297 := by simp [lowE, h, h2]
      (conv => whnf)
      exact Ends.valE [] e (by simp [retA, e]) (.eq_of rfl (encA_free true (lowA 3 a v))) (by simp)
    · rename_i h2
      have h2 : wordOf v ≠ 0 := fun h => by rw [h] at h2; simp at h2
      (conv => whnf)
      exact Ends.valK (by simp [lowE, h, h2]) [] (.eq_of rfl (encA_free true (lowA 3 a v))) (by simp)
set_option maxRecDepth 100000 in
theorem value4_ok (fr : Bool) (a : Attrs) (v : List UInt8) : PCon prog 47 [encA true a, cI 4, encB fr v] (valueV 4 a v) := by
  refine callV_of (fn := Go.Proofs.Try.f47) (body := _) tab_ok mixed rfl rfl (by decide) (by simp [Go.Proofs.Try.f47]) ?_
  (conv => whnf)
  intro _
  (conv => whnf)
  cases h : (((List.map (fun x => [V.int .u8 x.toNat]) v).length : Int) != 4) with
  | true =>
    have h : v.length ≠ 4 := by simp at h; omega
    have e : lowE 4 v = 294 := by simp [lowE, h]
    (conv => whnf)
    exact Ends.valE [] e (by simp [retA, e]) (.eq_of rfl (encA_free true a)) (by simp)
  | false =>
    have h : v.length = 4 := by simp at h; omega
    (conv => whnf)
    refine callV_pure (word_ok fr v) ⟨.free (encB_free _ _), trivial⟩ ?_
    (conv => whnf)
    exact Ends.valK (by simp [lowE, h]) [] (.eq_of rfl (encA_free true (lowA 4 a v))) (by simp)
set_option maxRecDepth 100000 in
theorem value5_ok (fr : Bool) (a : Attrs) (v : List UInt8) : PCon prog 47 [encA true a, cI 5, encB fr v] (valueV 5 a v) := by
  refine callV_of (fn := Go.Proofs.Try.f47) (body := _) tab_ok mixed rfl rfl (by decide) (by simp [Go.Proofs.Try.f47]) ?_
  (conv => whnf)
  intro _
  (conv => whnf)
  cases h : (((List.map (fun x => [V.int .u8 x.toNat]) v).length : Int) != 4) with
  | true =>
    have h : v.length ≠ 4 := by simp at h; omega
    have e : lowE 5 v = 294 := by simp [lowE, h]
    (conv => whnf)
    exact Ends.valE [] e (by simp [retA, e]) (.eq_of rfl (encA_free true a)) (by simp)
  | false =>
    have h : v.length = 4 := by simp at h; omega
    (conv => whnf)
    refine callV_pure (word_ok fr v) ⟨.free (encB_free _ _), trivial⟩ ?_
    (conv => whnf)
    exact Ends.valK (by simp [lowE, h]) [] (.eq_of rfl (encA_free true (lowA 5 a v))) (by simp)
set_option maxRecDepth 100000 in
theorem value2_ok (fr : Bool) (a : Attrs) (v : List UInt8) (hv : v.length ≤ 1000000) : PCon prog 47 [encA true a, cI 2, encB fr v] (valueV 2 a v) := by
  refine callV_of (fn := Go.Proofs.Try.f47) (body := _) tab_ok mixed rfl rfl (by decide) (by simp [Go.Proofs.Try.f47]) ?_
  (conv => whnf)
  refine callV_pure (parts_ok fr v hv) ⟨.free (encB_free _ _), trivial⟩ ?_
  (conv => whnf)
  by_cases he : pathE v = 0
  · rw [show (if pathE v = 0 then pathA v else []) = pathA v by simp [he], he]
    exact Ends.valK he [] (.eq_of rfl (encA_free true (lowA 2 a v))) (by simp)
  · rw [show (if pathE v = 0 then pathA v else []) = [] by simp [he]]
    have e : lowE 2 v ≠ 0 := he
    exact Ends.valE [] rfl (by simp [retA, e]) (.eq_of rfl (encA_free true { a with path := [] })) (by simp)
end Go.Proofs.Ytcfkendgjinmiaa
/- Contract of the document's answer: tags. -/
set_option linter.unusedVariables false
set_option linter.unusedSimpArgs false
namespace Go.Proofs.Ytcfkendgjinmiaa
open Go.RowKit
open Go.Proofs.Try (prog)
attribute [local irreducible] CallV RoundV

def cellsG (a : Attrs) (t : V) : List V := [cB a.origin, encLegs true a.path, cW a.next, .bool a.hasMed, cW a.med, .bool a.hasPref, cW a.pref, t]
theorem e298 {a : Attrs} {v : List UInt8} (h : lowE 8 v = 298) : lowE 8 v = 298 ∧ retA 8 a v = lowA 8 a v := ⟨h, by simp [retA, h]⟩
set_option maxRecDepth 100000 in
theorem value8_ok (fr : Bool) (a : Attrs) (v : List UInt8) (hv : v.length ≤ 1000000) : PCon prog 47 [encA true a, cI 8, encB fr v] (valueV 8 a v) := by
  refine callV_of (fn := Go.Proofs.Try.f47) (body := _) tab_ok mixed rfl rfl (by decide) (by simp [Go.Proofs.Try.f47]) ?_
  (conv => whnf)
  intro _
  (conv => whnf)
  cases h : (((List.map (fun x => [V.int .u8 x.toNat]) v).length : Int) == 0) with
  | true =>
    have h : v.length = 0 := by simpa using h
    (conv => whnf)
    exact Ends.valE [] (show lowE 8 v = 294 by simp [lowE, h]) (by simp [retA, show lowE 8 v = 294 by simp [lowE, h]]) (.eq_of rfl (encA_free true a)) (by simp)
  | false =>
  have h0 : v.length ≠ 0 := by simpa using h
  (conv => whnf)
  intro _
  (conv => whnf)
  refine ⟨by decide, ?_⟩
  (conv => whnf)
  cases h4 : (((List.map (fun x => [V.int .u8 x.toNat]) v).length : Int).tmod 4 != 0) with
  | true =>
    have h4 : v.length % 4 ≠ 0 := by rw [List.length_map, tmod4] at h4; simp at h4; omega
    (conv => whnf)
    exact Ends.valE [] (show lowE 8 v = 294 by simp [lowE, h4]) (by simp [retA, show lowE 8 v = 294 by simp [lowE, h4]]) (.eq_of rfl (encA_free true a)) (by simp)
  | false =>
  have h4 : v.length % 4 = 0 := by rw [List.length_map, tmod4] at h4; simp at h4; omega
  obtain ⟨m, hm⟩ : ∃ m, v.length = 4 * m := ⟨v.length / 4, by omega⟩
  have hmd : v.length / 4 = m := by omega
  (conv => whnf)
  refine vcg_loop tab_ok mixed (fun j : {j : Nat // j ≤ m} => ⟨[(2, encB fr v), (3, .ptr 0 0), (6, .ptr 1 0), (10, cI (4 * j.1))], [(0, some (.var true 26 (cellsG a (.osl 2 1 0 j.1)))), (1, some (.var true 26 zeroA)), (2, some (.arr true false 23 1 (rowsW (numsK v j.1))))], 3⟩) (fun j => m - j.1) ⟨0, by omega⟩ ?_ (fun j => ?_)
  · refine Wk.of id [] ⟨.free (encB_free _ _), .ptr rfl (by omega), .ptr rfl (by omega), .int_of rfl, trivial⟩ (LeH.of ⟨⟨by omega, .inl ⟨by simp, _, rfl, id, rfl, .free .int, .free (encLegs_free _ _), .free .int, .free .bool, .free .int, .free .bool, .free .int, .osl0, trivial⟩⟩, ⟨by omega, .inl ⟨by simp, _, rfl, id, rfl, LeL.free zeroA_free⟩⟩, ⟨by omega, .inr ⟨by simp, _, _, _, _, rfl⟩⟩, trivial⟩ (fun _ _ _ _ h => h) (fun _ _ => rfl) (by omega) (by simp))
  obtain ⟨j, hj⟩ := j
  (conv => whnf)
  intro _
  (conv => whnf)
  split
  · rename_i hc
    have hc : j < m := by simp at hc; omega
    have wb : IntKind.i64.wrap (((4 * j : Nat) : Int) + 4) = (4 * (j + 1) : Nat) := by rw [wrap64] <;> omega
    have hsl : V.sl fr 1 (List.drop ((4 * j : Nat) : Int).toNat (List.take (IntKind.i64.wrap (((4 * j : Nat) : Int) + 4)).toNat (List.map (fun x => [V.int .u8 x.toNat]) v))) = encB fr ((v.drop (4 * j)).take 4) := by
      rw [wb, Int.toNat_natCast, Int.toNat_natCast, ← List.map_take, ← List.map_drop, List.drop_take, show 4 * (j + 1) - 4 * j = 4 by omega]
      rfl
    (conv => whnf)
    refine ⟨rfl, ⟨by omega, by rw [wb]; omega, by rw [wb]; simp; try omega, by rw [wb]; simp; omega⟩, ?_⟩
    (conv => whnf)
    refine ⟨cW (wordOf ((v.drop (4 * j)).take 4)), [], fun h nx _ => pureV_pure (word_ok fr _) ⟨.eq_of hsl (encB_free _ _), trivial⟩, by simp, ?_⟩
    (conv => whnf)
    refine ⟨rfl, by simp, ⟨rfl, rfl, rfl, rfl, by decide⟩, by simp [numsK_len], ⟨by simp [tab, tabOf, nth]; omega, by simp; omega⟩, ?_⟩
    (conv => whnf)
    refine ⟨by kernel_rfl, ?_⟩
    (conv => whnf)
    refine ⟨⟨j + 1, by omega⟩, Wk.of (renOf [(2, 4)]) [] ⟨.free (encB_free _ _), .ptr rfl (by omega), .ptr rfl (by omega), .int_of wb, trivial⟩ (LeH.of ⟨⟨by omega, .inl ⟨by simp, _, rfl, id, rfl, .free .int, .free (encLegs_free _ _), .free .int, .free .bool, .free .int, .free .bool, .free .int, .osl_of rfl (by omega) (by simp), trivial⟩⟩, ⟨by omega, .inl ⟨by simp, _, rfl, id, rfl, LeL.free zeroA_free⟩⟩, ⟨by omega, .inl ⟨by simp, _, rfl, LeB.eq_of ?_ (rowsW_free _)⟩⟩, trivial⟩ (show ∀ b ∈ [0, 1, 2], ∀ b' ∈ [0, 1, 2], renOf [(2, 4)] b = renOf [(2, 4)] b' → b = b' by decide) (show ∀ b, b < 0 → renOf [(2, 4)] b = b by decide) (by omega) (by simp)), by simp only; omega⟩
    simp only
    rw [numsK_succ, List.take_of_length_le (by simp [numsK_len])]
    simp
  · rename_i hc
    have hc : j = m := by simp at hc; omega
    subst hc
    have hfz : LeV [(0, some (.var true 26 (cellsG a (.osl 2 1 0 j)))), (1, some (.var true 26 zeroA)), (2, some (.arr true false 23 1 (rowsW (numsK v j))))] 3 id 0 [2] (.osl 2 1 0 j) (encW true (numsK v j)) := LeV.freeze_of (by simp) rfl (by simp [numsK_len]) (rowsW_free _) (by rw [List.drop_zero]; exact List.take_of_length_le (by simp [numsK_len]))
    (conv => whnf)
    intro _
    (conv => whnf)
    cases h16 : decide ((16 : Int) < (j : Int)) with
    | true =>
      have h16 : 16 < j := by simp at h16; omega
      (conv => whnf)
      exact Ends.valE [2] (e298 (a := a) (by simp [lowE, h0, h4, hmd, h16])).1 (e298 (a := a) (by simp [lowE, h0, h4, hmd, h16])).2 (.aggL ⟨.free .int, .free (encLegs_free _ _), .free .int, .free .bool, .free .int, .free .bool, .free .int, (by show LeV _ _ _ _ _ _ (encW true (numsK v (v.length / 4))); rw [hmd]; exact LeV.freeze_of (by simp) rfl (by simp [numsK_len]) (rowsW_free _) (by rw [List.drop_zero]; exact List.take_of_length_le (by simp [numsK_len]))), trivial⟩) (by intro z hz; obtain rfl := List.mem_singleton.1 hz; exact ne_none_of rfl)
    | false =>
      have h16 : ¬ 16 < j := by simp at h16; omega
      (conv => whnf)
      refine callV_lend [2] (ref_rise_ok false (numsK v j)) ⟨.less (v1 := encW true (numsK v j)) hfz .encW, trivial⟩ (by intro v hv; simp at hv; subst hv; exact encW_cold _) (one_none rfl) .bool ?_
      cases hr : rises (numsK v j) with
      | false =>
        (conv => whnf)
        exact Ends.valE [2] (e298 (a := a) (by simp [lowE, h0, h4, hmd, hr])).1 (e298 (a := a) (by simp [lowE, h0, h4, hmd, hr])).2 (.aggL ⟨.free .int, .free (encLegs_free _ _), .free .int, .free .bool, .free .int, .free .bool, .free .int, (by show LeV _ _ _ _ _ _ (encW true (numsK v (v.length / 4))); rw [hmd]; exact LeV.freeze_of (by simp) rfl (by simp [numsK_len]) (rowsW_free _) (by rw [List.drop_zero]; exact List.take_of_length_le (by simp [numsK_len]))), trivial⟩) (by intro z hz; obtain rfl := List.mem_singleton.1 hz; exact ne_none_of rfl)
      | true =>
        (conv => whnf)
        refine Ends.valK (by simp [lowE, h0, h4, hmd, hr, h16]) [2] (.aggL ⟨.free .int, .free (encLegs_free _ _), .free .int, .free .bool, .free .int, .free .bool, .free .int, ?_, trivial⟩) ?_
        · show LeV _ _ _ _ _ _ (encW true (numsK v (v.length / 4)))
          rw [hmd]
          exact LeV.freeze_of (by simp) rfl (by simp [numsK_len]) (rowsW_free _) (by rw [List.drop_zero]; exact List.take_of_length_le (by simp [numsK_len]))
        · intro z hz
          obtain rfl := List.mem_singleton.1 hz
          exact ne_none_of rfl
theorem value_ok (fr : Bool) (a : Attrs) (c : Nat) (hc : 0 ≤ flagsI c) (v : List UInt8) (hv : v.length ≤ 1000000) : PCon prog 47 [encA true a, cI c, encB fr v] (valueV c a v) := by
  unfold flagsI at hc
  split at hc
  · rename_i h; subst h; exact value1_ok fr a v
  split at hc
  · rename_i h; subst h; exact value2_ok fr a v hv
  split at hc
  · rename_i h; subst h; exact value3_ok fr a v
  split at hc
  · rename_i h; subst h; exact value5_ok fr a v
  split at hc
  · rename_i h; subst h; exact value4_ok fr a v
  split at hc
  · rename_i h; subst h; exact value8_ok fr a v hv
  · exact absurd hc (by decide)
end Go.Proofs.Ytcfkendgjinmiaa
/- Contract of the document's answer: what bytes say. -/
set_option linter.unusedVariables false
set_option linter.unusedSimpArgs false
namespace Go.Proofs.Ytcfkendgjinmiaa
open Go.RowKit
open Go.Proofs.Try (prog)
attribute [local irreducible] CallV RoundV

theorem lng_ref : ∀ n : Nat, n < 256 → ((IntKind.i64.wrap ((IntKind.i64.wrap (n : Int)).tdiv 16)).tmod 2 == 1) = (n / 16 % 2 == 1) := by decide +kernel
/-- Where the document's reading stands. -/
structure Pl (b : List UInt8) where
  i : Nat
  last : Nat
  seen : Nat
  a : Attrs
  law : parseA b 0 0 noA = parseA (b.drop i) last seen a
  le : i ≤ b.length
  lim : last < 256
  cnt : seen ≤ i
theorem idxD {b : List UInt8} {i j : Nat} {n : Int} {x : UInt8} (hn : n = (i + j : Nat)) (h : (b.drop i)[j]? = some x) : (List.map (fun x => [V.int .u8 x.toNat]) b)[n.toNat]? = some [cB x] := by
  subst hn
  rw [List.getElem?_drop] at h
  rw [Int.toNat_natCast, List.getElem?_map, h]; rfl
theorem numB_lt (b : List UInt8) : numB b < 65536 := by
  have h2 := byteN_lt b 2
  have h3 := byteN_lt b 3
  unfold numB
  split <;> omega
theorem atB_le (b : List UInt8) : 3 ≤ atB b ∧ atB b ≤ 4 := by
  unfold atB
  split <;> omega
set_option maxRecDepth 100000 in
set_option maxHeartbeats 8000000 in
theorem ref_parse_ok (fr : Bool) (b : List UInt8) (hb : b.length ≤ 1000000) : PCon prog 21 [encB fr b] (parseE true (parseA b 0 0 noA).1 (parseA b 0 0 noA).2) := by
  refine callV_of (fn := Go.Proofs.Try.f21) (body := _) tab_ok mixed rfl rfl (by decide) (by simp [Go.Proofs.Try.f21]) ?_
  (conv => whnf)
  refine vcg_loop tab_ok mixed (fun k : Pl b => ⟨[(0, encB fr b), (2, .ptr 0 0), (4, .ptr 1 0), (5, cI k.last), (6, cI k.seen), (7, cI k.i)], [(0, some (.var true 26 zeroA)), (1, some (.var true 26 (cellsA true k.a)))], 2⟩) (fun k => b.length - k.i) ⟨0, 0, 0, noA, by simp, by omega, by omega, by omega⟩ (Wk.of id [] ⟨.free (encB_free _ _), .ptr rfl (by omega), .ptr rfl (by omega), .int_of rfl, .int_of rfl, .int_of rfl, trivial⟩ (LeH.of ⟨⟨by omega, .inl ⟨by simp, _, rfl, id, rfl, LeL.free zeroA_free⟩⟩, ⟨by omega, .inl ⟨by simp, _, rfl, id, rfl, .free .int, .snil_sl, .free .int, .free .bool, .free .int, .free .bool, .free .int, .snil_sl, trivial⟩⟩, trivial⟩ (fun _ _ _ _ h => h) (fun _ _ => rfl) (by omega) (by simp))) (fun k => ?_)
  obtain ⟨i, last, seen, a, law, le, lim, cnt⟩ := k
  (conv => whnf)
  intro _
  (conv => whnf)
  split
  · rename_i hc
    have hc : i < b.length := by simpa using hc
    obtain ⟨X, hX⟩ : ∃ X, X = b.drop i := ⟨_, rfl⟩
    have hXl : X.length = b.length - i := by rw [hX]; simp
    have hne : b.drop i ≠ [] := by intro e; rw [← hX] at e; rw [e] at hXl; simp at hXl; omega
    have w3 : IntKind.i64.wrap ((i : Int) + 3) = (i + 3 : Nat) := by rw [wrap64] <;> omega
    have w1 : IntKind.i64.wrap ((i : Int) + 1) = (i + 1 : Nat) := by rw [wrap64] <;> omega
    have w2 : IntKind.i64.wrap ((i : Int) + 2) = (i + 2 : Nat) := by rw [wrap64] <;> omega
    have w4 : IntKind.i64.wrap ((i : Int) + 4) = (i + 4 : Nat) := by rw [wrap64] <;> omega
    (conv => whnf)
    intro _
    (conv => whnf)
    split
    · rename_i h
      have h : X.length < 3 := by rw [w3] at h; simp at h; omega
      have e : oneE (b.drop i) last = 290 := by rw [← hX]; exact headE_short h
      (conv => whnf)
      rw [show parseA b 0 0 noA = (noA, 290) from law.trans ((parseA_err hne (by rw [e]; decide)).trans (by rw [e]))]
      exact Ends.pure [] (.tupL ⟨.noA, .int_of rfl, trivial⟩) (by simp)
    rename_i h
    have h : 3 ≤ X.length := by rw [w3] at h; simp at h; omega
    obtain ⟨x0, x1, x2, r, hX3⟩ : ∃ x0 x1 x2 r, X = x0 :: x1 :: x2 :: r := by
      rcases X with _ | ⟨x0, _ | ⟨x1, _ | ⟨x2, r⟩⟩⟩
      · simp at h
      · simp at h
      · simp at h
      · exact ⟨x0, x1, x2, r, rfl⟩
    have h0 := x0.toNat_lt
    have h1 := x1.toNat_lt
    have h2 := x2.toNat_lt
    have n0 : byteN X 0 = x0.toNat := by rw [hX3]; rfl
    have n1 : byteN X 1 = x1.toNat := by rw [hX3]; rfl
    have n2 : byteN X 2 = x2.toNat := by rw [hX3]; rfl
    have q0 : (b.drop i)[0]? = some x0 := by rw [← hX, hX3]; rfl
    have q1 : (b.drop i)[1]? = some x1 := by rw [← hX, hX3]; rfl
    have q2 : (b.drop i)[2]? = some x2 := by rw [← hX, hX3]; rfl
    have v0 : IntKind.i64.wrap (x0.toNat : Int) = x0.toNat := wrap64 (by omega) (by omega)
    have v1 : IntKind.i64.wrap (x1.toNat : Int) = x1.toNat := wrap64 (by omega) (by omega)
    have v2 : IntKind.i64.wrap (x2.toNat : Int) = x2.toNat := wrap64 (by omega) (by omega)
    have eL : ((IntKind.i64.wrap ((IntKind.i64.wrap (x0.toNat : Int)).tdiv 16)).tmod 2 == 1) = lngB X := by rw [lng_ref _ h0, lngB, n0]
    (conv => whnf)
    refine ⟨rfl, _, ⟨by omega, idxD rfl q0⟩, ?_⟩
    (conv => whnf)
    refine ⟨rfl, _, ⟨by rw [w1]; omega, idxD w1 q1⟩, ?_⟩
    (conv => whnf)
    refine ⟨by kernel_rfl, ?_⟩
    (conv => whnf)
    refine ⟨by decide, ?_⟩
    (conv => whnf)
    refine ⟨by decide, ?_⟩
    (conv => whnf)
    refine ⟨rfl, _, ⟨by rw [w2]; omega, idxD w2 q2⟩, ?_⟩
    (conv => whnf)
    rw [eL]
    cases hL : lngB X with
    | false =>
      have eN : numB X = x2.toNat := by simp [numB, hL, n2]
      have eA : atB X = 3 := by simp [atB, hL]
      have h4 : lngB X = true → 4 ≤ X.length := fun h => by rw [hL] at h; cases h
      have hN : IntKind.i64.wrap (x2.toNat : Int) = (numB X : Nat) := by rw [v2, eN]
      have hA : IntKind.i64.wrap ((i : Int) + 3) = (i + atB X : Nat) := by rw [w3, eA]
      have hF : IntKind.i64.wrap (x0.toNat : Int) = (byteN X 0 : Int) - (if lngB X then 16 else 0) := by rw [v0, n0, hL]; simp
      (conv => whnf)
      intro _
      (conv => whnf)
      have w5 : IntKind.i64.wrap (IntKind.i64.wrap ((i : Int) + 3) + IntKind.i64.wrap (x2.toNat : Int)) = (i + atB X + numB X : Nat) := by rw [hA, hN, wrap64] <;> (have := numB_lt X; have := atB_le X; omega)
      split
      · rename_i hh
        have hh : X.length < atB X + numB X := by rw [w5] at hh; simp at hh; omega
        have e : oneE (b.drop i) last = 290 := by
          rw [← hX]
          have : headE X last = 290 := by
            unfold headE
            rw [if_neg (by omega), if_neg (by rintro ⟨p1, p2⟩; have := h4 p1; omega), if_pos hh]
          simp [oneE, this]
        (conv => whnf)
        rw [show parseA b 0 0 noA = (noA, 290) from law.trans ((parseA_err hne (by rw [e]; decide)).trans (by rw [e]))]
        exact Ends.pure [] (.tupL ⟨.noA, .int_of rfl, trivial⟩) (by simp)
      rename_i hh
      have hl : atB X + numB X ≤ X.length := by rw [w5] at hh; simp at hh; omega
      (conv => whnf)
      refine callV_pure (flags_ok x1.toNat) ⟨.int_of v1, trivial⟩ ?_
      (conv => whnf)
      cases hfl : decide (flagsI x1.toNat < 0)
      case true =>
        have e : oneE (b.drop i) last = 291 := by
          rw [← hX]
          have : headE X last = 291 := by
            unfold headE
            rw [if_neg (by omega), if_neg (by rintro ⟨p1, p2⟩; have := h4 p1; omega), if_neg (by omega), if_pos (by rw [n1]; simpa using hfl)]
          simp [oneE, this]
        (conv => whnf)
        rw [show parseA b 0 0 noA = (noA, 291) from law.trans ((parseA_err hne (by rw [e]; decide)).trans (by rw [e]))]
        exact Ends.pure [] (.tupL ⟨.noA, .int_of rfl, trivial⟩) (by simp)
      have hf0 : 0 ≤ flagsI x1.toNat := by simp at hfl; omega
      have hH := head_is (last := last) h h4 hl (by rw [n1]; exact hf0)
      (conv => whnf)
      refine callV_pure (flags_ok x1.toNat) ⟨.int_of v1, trivial⟩ ?_
      (conv => whnf)
      cases hf : (IntKind.i64.wrap (x0.toNat : Int) != flagsI x1.toNat)
      case true =>
        have e : oneE (b.drop i) last = 292 := by
          rw [← hX]
          have : headE X last = 292 := by
            rw [hH, if_pos]
            left
            rw [← hF, n1]
            simpa using hf
          simp [oneE, this]
        (conv => whnf)
        rw [show parseA b 0 0 noA = (noA, 292) from law.trans ((parseA_err hne (by rw [e]; decide)).trans (by rw [e]))]
        exact Ends.pure [] (.tupL ⟨.noA, .int_of rfl, trivial⟩) (by simp)
      (conv => whnf)
      cases hg : (false != decide ((255 : Int) < IntKind.i64.wrap (x2.toNat : Int)))
      case true =>
        have e : oneE (b.drop i) last = 292 := by
          rw [← hX]
          have : headE X last = 292 := by
            rw [hH, if_pos]
            right
            rw [hL]
            rw [hN, show decide ((255 : Int) < (numB X : Nat)) = decide (255 < numB X) from decide_eq_decide.2 (by omega)] at hg
            simpa [bne] using hg
          simp [oneE, this]
        (conv => whnf)
        rw [show parseA b 0 0 noA = (noA, 292) from law.trans ((parseA_err hne (by rw [e]; decide)).trans (by rw [e]))]
        exact Ends.pure [] (.tupL ⟨.noA, .int_of rfl, trivial⟩) (by simp)
      rw [if_neg (by
        rintro (p | p)
        · rw [← hF, n1] at p
          rw [bne_eq_false_iff_eq] at hf
          exact p hf
        · rw [hL] at p
          rw [hN, show decide ((255 : Int) < (numB X : Nat)) = decide (255 < numB X) from decide_eq_decide.2 (by omega), bne_eq_false_iff_eq] at hg
          exact p hg)] at hH
      (conv => whnf)
      cases hr : decide (IntKind.i64.wrap (x1.toNat : Int) ≤ (last : Int))
      case true =>
        have e : oneE (b.drop i) last = 293 := by
          rw [← hX]
          have : headE X last = 293 := by
            rw [hH, if_pos]
            rw [v1] at hr
            simp at hr
            omega
          simp [oneE, this]
        (conv => whnf)
        rw [show parseA b 0 0 noA = (noA, 293) from law.trans ((parseA_err hne (by rw [e]; decide)).trans (by rw [e]))]
        exact Ends.pure [] (.tupL ⟨.noA, .int_of rfl, trivial⟩) (by simp)
      rw [if_neg (by rw [v1] at hr; simp at hr; omega)] at hH
      have hvl : (valB X).length ≤ 1000000 := by simp [valB]; omega
      have hsl : V.sl fr 1 (List.drop (IntKind.i64.wrap ((i : Int) + 3)).toNat (List.take (IntKind.i64.wrap (IntKind.i64.wrap ((i : Int) + 3) + IntKind.i64.wrap (x2.toNat : Int))).toNat (List.map (fun x => [V.int .u8 x.toNat]) b))) = encB fr (valB X) := by
        rw [w5, hA, Int.toNat_natCast, Int.toNat_natCast, ← List.map_take, ← List.map_drop, List.drop_take, Nat.add_sub_cancel_left, valB, hX, List.drop_drop]
        rfl
      have hone : oneE (b.drop i) last = lowE x1.toNat (valB X) := by rw [← hX, oneE, if_neg (by simp [hH]), n1]
      (conv => whnf)
      refine ⟨rfl, ⟨by rw [hA]; omega, by rw [w5]; omega, by rw [w5, hA]; simp; try omega, by rw [w5]; simp; omega⟩, ?_⟩
      (conv => whnf)
      refine ⟨valueV x1.toNat a (valB X), [], fun h nx _ => pureV_pure (value_ok fr a x1.toNat hf0 (valB X) hvl) ⟨.eq_of rfl (encA_free true a), .int_of v1, .eq_of hsl (encB_free _ _), trivial⟩, by simp, ?_⟩
      (conv => whnf)
      refine ⟨by kernel_rfl, ?_⟩
      (conv => whnf)
      cases he : (lowE x1.toNat (valB X) != 0)
      case true =>
        have he : lowE x1.toNat (valB X) ≠ 0 := by simpa using he
        (conv => whnf)
        rw [show parseA b 0 0 noA = (noA, lowE x1.toNat (valB X)) from law.trans ((parseA_err hne (by rw [hone]; exact he)).trans (by rw [hone]))]
        exact Ends.pure [] (.tupL ⟨.noA, .int_of rfl, trivial⟩) (by simp)
      have he : lowE x1.toNat (valB X) = 0 := by simpa using he
      have hret : retA x1.toNat a (valB X) = lowA x1.toNat a (valB X) := by simp [retA, he]
      have law' : parseA b 0 0 noA = parseA (b.drop (i + atB X + numB X)) x1.toNat (if x1.toNat ≤ 3 then seen + 1 else seen) (lowA x1.toNat a (valB X)) := by
        have := parseA_go (last := last) (seen := seen) (a := a) hne (by rw [← hX]; exact hH) (by rw [← hX, n1]; exact he)
        rw [law, this, ← hX, n1, restB, hX, List.drop_drop, Nat.add_assoc]
      (conv => whnf)
      split
      · rename_i h3
        have h3 : x1.toNat ≤ 3 := by rw [v1] at h3; simp at h3; omega
        rw [if_pos h3] at law'
        (conv => whnf)
        refine ⟨⟨i + atB X + numB X, x1.toNat, seen + 1, lowA x1.toNat a (valB X), law', by omega, by omega, by have := atB_le X; omega⟩, Wk.of id [] ⟨.free (encB_free _ _), .ptr rfl (by omega), .ptr rfl (by omega), .int_of v1, .int_of ?_, .int_of w5, trivial⟩ (LeH.of ⟨⟨by omega, .inl ⟨by simp, _, rfl, id, rfl, LeL.free zeroA_free⟩⟩, ⟨by omega, .inl ⟨by simp, _, rfl, id, rfl, .of_eq (congrArg (cellsA true) hret) (cellsA_free true _)⟩⟩, trivial⟩ (fun _ _ _ _ h => h) (fun _ _ => rfl) (by omega) (by simp)), by have := atB_le X; simp only; omega⟩
        rw [wrap64] <;> (simp only; omega)
      · rename_i h3
        have h3 : ¬ x1.toNat ≤ 3 := by rw [v1] at h3; simp at h3; omega
        rw [if_neg h3] at law'
        (conv => whnf)
        exact ⟨⟨i + atB X + numB X, x1.toNat, seen, lowA x1.toNat a (valB X), law', by omega, by omega, by omega⟩, Wk.of id [] ⟨.free (encB_free _ _), .ptr rfl (by omega), .ptr rfl (by omega), .int_of v1, .int_of rfl, .int_of w5, trivial⟩ (LeH.of ⟨⟨by omega, .inl ⟨by simp, _, rfl, id, rfl, LeL.free zeroA_free⟩⟩, ⟨by omega, .inl ⟨by simp, _, rfl, id, rfl, .of_eq (congrArg (cellsA true) hret) (cellsA_free true _)⟩⟩, trivial⟩ (fun _ _ _ _ h => h) (fun _ _ => rfl) (by omega) (by simp)), by have := atB_le X; simp only; omega⟩
    | true =>
      (conv => whnf)
      intro _
      (conv => whnf)
      split
      · rename_i h
        have h : X.length < 4 := by rw [w4] at h; simp at h; omega
        have e : oneE (b.drop i) last = 290 := by
          rw [← hX]
          have : headE X last = 290 := by
            unfold headE
            rw [if_neg (by omega), if_pos ⟨hL, h⟩]
          simp [oneE, this]
        (conv => whnf)
        rw [show parseA b 0 0 noA = (noA, 290) from law.trans ((parseA_err hne (by rw [e]; decide)).trans (by rw [e]))]
        exact Ends.pure [] (.tupL ⟨.noA, .int_of rfl, trivial⟩) (by simp)
      rename_i h4'
      have h4' : 4 ≤ X.length := by rw [w4] at h4'; simp at h4'; omega
      obtain ⟨x3, r3, rfl⟩ : ∃ x3 r3, r = x3 :: r3 := by
        rcases r with _ | ⟨x3, r3⟩
        · rw [hX3] at h4'; simp at h4'
        · exact ⟨x3, r3, rfl⟩
      have hx3 := x3.toNat_lt
      have n3 : byteN X 3 = x3.toNat := by rw [hX3]; rfl
      have q3 : (b.drop i)[3]? = some x3 := by rw [← hX, hX3]; rfl
      have v3 : IntKind.i64.wrap (x3.toNat : Int) = x3.toNat := wrap64 (by omega) (by omega)
      have eN : numB X = 256 * x2.toNat + x3.toNat := by simp [numB, hL, n2, n3]
      have eA : atB X = 4 := by simp [atB, hL]
      have h4 : lngB X = true → 4 ≤ X.length := fun _ => h4'
      have hN : IntKind.i64.wrap (IntKind.i64.wrap (256 * IntKind.i64.wrap (x2.toNat : Int)) + IntKind.i64.wrap (x3.toNat : Int)) = (numB X : Nat) := by rw [v2, v3, eN, wrap64 (n := 256 * (x2.toNat : Int)) (by omega) (by omega), wrap64] <;> omega
      have hA : IntKind.i64.wrap ((i : Int) + 4) = (i + atB X : Nat) := by rw [w4, eA]
      have hx16 : 16 ≤ x0.toNat := by
        have := hL
        rw [lngB, n0] at this
        simp at this
        omega
      have hF : IntKind.i64.wrap (IntKind.i64.wrap (x0.toNat : Int) - 16) = (byteN X 0 : Int) - (if lngB X then 16 else 0) := by
        rw [v0, n0, hL, if_pos rfl]
        rw [wrap64] <;> omega
      (conv => whnf)
      refine ⟨rfl, _, ⟨by rw [w3]; omega, idxD w3 q3⟩, ?_⟩
      (conv => whnf)
      intro _
      (conv => whnf)
      have w5 : IntKind.i64.wrap (IntKind.i64.wrap ((i : Int) + 4) + IntKind.i64.wrap (IntKind.i64.wrap (256 * IntKind.i64.wrap (x2.toNat : Int)) + IntKind.i64.wrap (x3.toNat : Int))) = (i + atB X + numB X : Nat) := by rw [hA, hN, wrap64] <;> (have := numB_lt X; have := atB_le X; omega)
      split
      · rename_i hh
        have hh : X.length < atB X + numB X := by rw [w5] at hh; simp at hh; omega
        have e : oneE (b.drop i) last = 290 := by
          rw [← hX]
          have : headE X last = 290 := by
            unfold headE
            rw [if_neg (by omega), if_neg (by rintro ⟨p1, p2⟩; have := h4 p1; omega), if_pos hh]
          simp [oneE, this]
        (conv => whnf)
        rw [show parseA b 0 0 noA = (noA, 290) from law.trans ((parseA_err hne (by rw [e]; decide)).trans (by rw [e]))]
        exact Ends.pure [] (.tupL ⟨.noA, .int_of rfl, trivial⟩) (by simp)
      rename_i hh
      have hl : atB X + numB X ≤ X.length := by rw [w5] at hh; simp at hh; omega
      (conv => whnf)
      refine callV_pure (flags_ok x1.toNat) ⟨.int_of v1, trivial⟩ ?_
      (conv => whnf)
      cases hfl : decide (flagsI x1.toNat < 0)
      case true =>
        have e : oneE (b.drop i) last = 291 := by
          rw [← hX]
          have : headE X last = 291 := by
            unfold headE
            rw [if_neg (by omega), if_neg (by rintro ⟨p1, p2⟩; have := h4 p1; omega), if_neg (by omega), if_pos (by rw [n1]; simpa using hfl)]
          simp [oneE, this]
        (conv => whnf)
        rw [show parseA b 0 0 noA = (noA, 291) from law.trans ((parseA_err hne (by rw [e]; decide)).trans (by rw [e]))]
        exact Ends.pure [] (.tupL ⟨.noA, .int_of rfl, trivial⟩) (by simp)
      have hf0 : 0 ≤ flagsI x1.toNat := by simp at hfl; omega
      have hH := head_is (last := last) h h4 hl (by rw [n1]; exact hf0)
      (conv => whnf)
      refine callV_pure (flags_ok x1.toNat) ⟨.int_of v1, trivial⟩ ?_
      (conv => whnf)
      cases hf : (IntKind.i64.wrap (IntKind.i64.wrap (x0.toNat : Int) - 16) != flagsI x1.toNat)
      case true =>
        have e : oneE (b.drop i) last = 292 := by
          rw [← hX]
          have : headE X last = 292 := by
            rw [hH, if_pos]
            left
            rw [← hF, n1]
            simpa using hf
          simp [oneE, this]
        (conv => whnf)
        rw [show parseA b 0 0 noA = (noA, 292) from law.trans ((parseA_err hne (by rw [e]; decide)).trans (by rw [e]))]
        exact Ends.pure [] (.tupL ⟨.noA, .int_of rfl, trivial⟩) (by simp)
      (conv => whnf)
      cases hg : (true != decide ((255 : Int) < IntKind.i64.wrap (IntKind.i64.wrap (256 * IntKind.i64.wrap (x2.toNat : Int)) + IntKind.i64.wrap (x3.toNat : Int))))
      case true =>
        have e : oneE (b.drop i) last = 292 := by
          rw [← hX]
          have : headE X last = 292 := by
            rw [hH, if_pos]
            right
            rw [hL]
            rw [hN, show decide ((255 : Int) < (numB X : Nat)) = decide (255 < numB X) from decide_eq_decide.2 (by omega)] at hg
            simpa [bne] using hg
          simp [oneE, this]
        (conv => whnf)
        rw [show parseA b 0 0 noA = (noA, 292) from law.trans ((parseA_err hne (by rw [e]; decide)).trans (by rw [e]))]
        exact Ends.pure [] (.tupL ⟨.noA, .int_of rfl, trivial⟩) (by simp)
      rw [if_neg (by
        rintro (p | p)
        · rw [← hF, n1] at p
          rw [bne_eq_false_iff_eq] at hf
          exact p hf
        · rw [hL] at p
          rw [hN, show decide ((255 : Int) < (numB X : Nat)) = decide (255 < numB X) from decide_eq_decide.2 (by omega), bne_eq_false_iff_eq] at hg
          exact p hg)] at hH
      (conv => whnf)
      cases hr : decide (IntKind.i64.wrap (x1.toNat : Int) ≤ (last : Int))
      case true =>
        have e : oneE (b.drop i) last = 293 := by
          rw [← hX]
          have : headE X last = 293 := by
            rw [hH, if_pos]
            rw [v1] at hr
            simp at hr
            omega
          simp [oneE, this]
        (conv => whnf)
        rw [show parseA b 0 0 noA = (noA, 293) from law.trans ((parseA_err hne (by rw [e]; decide)).trans (by rw [e]))]
        exact Ends.pure [] (.tupL ⟨.noA, .int_of rfl, trivial⟩) (by simp)
      rw [if_neg (by rw [v1] at hr; simp at hr; omega)] at hH
      have hvl : (valB X).length ≤ 1000000 := by simp [valB]; omega
      have hsl : V.sl fr 1 (List.drop (IntKind.i64.wrap ((i : Int) + 4)).toNat (List.take (IntKind.i64.wrap (IntKind.i64.wrap ((i : Int) + 4) + IntKind.i64.wrap (IntKind.i64.wrap (256 * IntKind.i64.wrap (x2.toNat : Int)) + IntKind.i64.wrap (x3.toNat : Int)))).toNat (List.map (fun x => [V.int .u8 x.toNat]) b))) = encB fr (valB X) := by
        rw [w5, hA, Int.toNat_natCast, Int.toNat_natCast, ← List.map_take, ← List.map_drop, List.drop_take, Nat.add_sub_cancel_left, valB, hX, List.drop_drop]
        rfl
      have hone : oneE (b.drop i) last = lowE x1.toNat (valB X) := by rw [← hX, oneE, if_neg (by simp [hH]), n1]
      (conv => whnf)
      refine ⟨rfl, ⟨by rw [hA]; omega, by rw [w5]; omega, by rw [w5, hA]; simp; try omega, by rw [w5]; simp; omega⟩, ?_⟩
      (conv => whnf)
      refine ⟨valueV x1.toNat a (valB X), [], fun h nx _ => pureV_pure (value_ok fr a x1.toNat hf0 (valB X) hvl) ⟨.eq_of rfl (encA_free true a), .int_of v1, .eq_of hsl (encB_free _ _), trivial⟩, by simp, ?_⟩
      (conv => whnf)
      refine ⟨by kernel_rfl, ?_⟩
      (conv => whnf)
      cases he : (lowE x1.toNat (valB X) != 0)
      case true =>
        have he : lowE x1.toNat (valB X) ≠ 0 := by simpa using he
        (conv => whnf)
        rw [show parseA b 0 0 noA = (noA, lowE x1.toNat (valB X)) from law.trans ((parseA_err hne (by rw [hone]; exact he)).trans (by rw [hone]))]
        exact Ends.pure [] (.tupL ⟨.noA, .int_of rfl, trivial⟩) (by simp)
      have he : lowE x1.toNat (valB X) = 0 := by simpa using he
      have hret : retA x1.toNat a (valB X) = lowA x1.toNat a (valB X) := by simp [retA, he]
      have law' : parseA b 0 0 noA = parseA (b.drop (i + atB X + numB X)) x1.toNat (if x1.toNat ≤ 3 then seen + 1 else seen) (lowA x1.toNat a (valB X)) := by
        have := parseA_go (last := last) (seen := seen) (a := a) hne (by rw [← hX]; exact hH) (by rw [← hX, n1]; exact he)
        rw [law, this, ← hX, n1, restB, hX, List.drop_drop, Nat.add_assoc]
      (conv => whnf)
      split
      · rename_i h3
        have h3 : x1.toNat ≤ 3 := by rw [v1] at h3; simp at h3; omega
        rw [if_pos h3] at law'
        (conv => whnf)
        refine ⟨⟨i + atB X + numB X, x1.toNat, seen + 1, lowA x1.toNat a (valB X), law', by omega, by omega, by have := atB_le X; omega⟩, Wk.of id [] ⟨.free (encB_free _ _), .ptr rfl (by omega), .ptr rfl (by omega), .int_of v1, .int_of ?_, .int_of w5, trivial⟩ (LeH.of ⟨⟨by omega, .inl ⟨by simp, _, rfl, id, rfl, LeL.free zeroA_free⟩⟩, ⟨by omega, .inl ⟨by simp, _, rfl, id, rfl, .of_eq (congrArg (cellsA true) hret) (cellsA_free true _)⟩⟩, trivial⟩ (fun _ _ _ _ h => h) (fun _ _ => rfl) (by omega) (by simp)), by have := atB_le X; simp only; omega⟩
        rw [wrap64] <;> (simp only; omega)
      · rename_i h3
        have h3 : ¬ x1.toNat ≤ 3 := by rw [v1] at h3; simp at h3; omega
        rw [if_neg h3] at law'
        (conv => whnf)
        exact ⟨⟨i + atB X + numB X, x1.toNat, seen, lowA x1.toNat a (valB X), law', by omega, by omega, by omega⟩, Wk.of id [] ⟨.free (encB_free _ _), .ptr rfl (by omega), .ptr rfl (by omega), .int_of v1, .int_of rfl, .int_of w5, trivial⟩ (LeH.of ⟨⟨by omega, .inl ⟨by simp, _, rfl, id, rfl, LeL.free zeroA_free⟩⟩, ⟨by omega, .inl ⟨by simp, _, rfl, id, rfl, .of_eq (congrArg (cellsA true) hret) (cellsA_free true _)⟩⟩, trivial⟩ (fun _ _ _ _ h => h) (fun _ _ => rfl) (by omega) (by simp)), by have := atB_le X; simp only; omega⟩
  · rename_i hc
    have hc : i = b.length := by simp at hc; omega
    have hl : parseA b 0 0 noA = if seen = 3 then (a, 0) else (noA, 299) := by rw [law, hc, List.drop_length, parseA_nil]
    (conv => whnf)
    cases h3 : ((seen : Int) != 3) with
    | true =>
      have h3' : seen ≠ 3 := by simp at h3; omega
      rw [if_neg h3'] at hl
      (conv => whnf)
      rw [hl]
      exact Ends.pure [] (.tupL ⟨.noA, .int_of rfl, trivial⟩) (by simp)
    | false =>
      have h3' : seen = 3 := by simp at h3; omega
      rw [if_pos h3'] at hl
      (conv => whnf)
      rw [hl]
      exact Ends.pure [] (.tupL ⟨.eq_of rfl (encA_free true a), .int_of rfl, trivial⟩) (by simp)
end Go.Proofs.Ytcfkendgjinmiaa
/- Contract: the law AttrsParses. -/
set_option linter.unusedVariables false
set_option linter.unusedSimpArgs false
namespace Go.Proofs.Ytcfkendgjinmiaa
open Go.RowKit
open Go.Proofs.Try (prog)
attribute [local irreducible] CallV RoundV

theorem rowB_get {r : List UInt8} {i : Nat} (h : i < r.length) : (List.map (fun x : UInt8 => [V.int .u8 x.toNat]) r)[0 + (i : Int).toNat]? = some [cB r[i]] := by simp [List.getElem?_eq_getElem h]
theorem wrap8_succ (x : UInt8) : IntKind.u8.wrap ((x.toNat : Int) + 1) = ((x + 1).toNat : Int) := by rw [wrap8, UInt8.toNat_add]; simp
structure Bump (n : Nat) where
  i : Nat
  r : List UInt8
  hi : i ≤ n
  hr : r.length = n + 1
set_option maxRecDepth 100000 in
theorem parses_ok (fr : Bool) (b : List UInt8) : PCon prog 4 [encB fr b] (.bool true) := by
  refine callV_of (fn := Go.Proofs.Try.f4) (body := _) tab_ok mixed rfl rfl (by decide) (by simp [Go.Proofs.Try.f4]) ?_
  (conv => whnf)
  intro hl
  (conv => whnf)
  split
  · (conv => whnf)
    refine callV_pure works_ok trivial ?_
    (conv => whnf)
    exact Ends.pure [] (.free .bool) (by simp)
  · rename_i hc
    have hc : b.length ≤ 600 := by simp at hc; omega
    (conv => whnf)
    refine ⟨⟨rfl, rfl, rfl, rfl, by decide⟩, by simp, ⟨?_, by simp; omega⟩, ?_⟩
    · show (0 + (List.map (fun x => [V.int IntKind.u8 ↑x.toNat]) b).length) * 1 ≤ 140737488355328
      simp; omega
    (conv => whnf)
    refine ⟨rfl, by simp, ⟨rfl, rfl, rfl, rfl, by decide⟩, by simp, ⟨?_, by simp; omega⟩, ?_⟩
    · show _ * 1 ≤ 140737488355328
      simp; omega
    (conv => whnf)
    intro _
    (conv => whnf)
    refine ⟨rfl, .lies, ⟨by simp, by simp, rfl, by simp; try omega⟩, by simp, ?_⟩
    (conv => whnf)
    have hfr : ∀ x ∈ (List.map (fun x : UInt8 => [V.int .u8 x.toNat]) b ++ [[V.int .u8 77]]), ∀ v ∈ x, Free v := by
      intro x hx
      rcases List.mem_append.1 hx with hx | hx
      · exact rowsB_free b x hx
      · simp at hx; subst hx
        intro v hv; simp at hv; subst hv; exact .int
    have hR : (List.take (0 + (List.map (fun x : UInt8 => [V.int .u8 x.toNat]) b).length) (List.take 0 [] ++ List.map (fun x : UInt8 => [V.int .u8 x.toNat]) b) ++ List.take 1 (List.drop 0 [[V.int .u8 77]])) = (List.map (fun x : UInt8 => [V.int .u8 x.toNat]) b ++ [[V.int .u8 77]]) := by simp [List.take_of_length_le]
    refine callV_lend [3] (parse_ok false b (by omega)) ⟨.from .psl (LeV.fresh_off (LeV.freeze_of (by simp) rfl (by simp) (by intro x hx; rw [hR] at hx; exact hfr x hx) (by rw [hR]; simp))), trivial⟩ (by intro v hv; simp at hv; subst hv; exact encB_cold _) (one_none rfl) (parseE_fresh _ _) ?_
    rw [hR]
    (conv => whnf)
    refine ⟨rfl, by simp, rfl, ⟨b.toArray⟩, by simp, ?_⟩
    (conv => whnf)
    refine ⟨rfl, ⟨b.toArray⟩, rfl, ?_⟩
    (conv => whnf)
    split
    case h_2 h => exact absurd h (by simp)
    (conv => whnf)
    intro _
    (conv => whnf)
    have hw : IntKind.i64.wrap ((List.map (fun x : UInt8 => [V.int .u8 x.toNat]) b).length + 1 : Int) = (b.length : Int) + 1 := by rw [List.length_map]; exact wrap64 (by omega) (by omega)
    refine ⟨rfl, rfl, by decide, ⟨trivial, by rw [hw]; omega, rfl, by rw [hw]; simp; try omega⟩, ?_⟩
    (conv => whnf)
    intro _
    (conv => whnf)
    refine ⟨rfl, ⟨by simp, by rw [hw]; simp; try omega⟩, ?_⟩
    (conv => whnf)
    refine ⟨rfl, [.int .u8 77], by simp, ?_⟩
    (conv => whnf)
    refine vcg_loop tab_ok mixed (fun x : Bump b.length => ⟨[(0, encB fr b), (3, .osl 0 1 0 b.length), (4, .ptr 1 0), (5, .int .i64 (parseA b 0 0 noA).2), (6, .bool true), (7, cI x.i)],
        [(0, some (.arr true false 5 1 (x.r.map fun x => [.int .u8 x.toNat]))), (1, some (.var true 26 (cellsA true (parseA b 0 0 noA).1)))], 2⟩) (fun x => b.length - x.i) ⟨0, b ++ [77], by omega, by simp⟩
      (Wk.of (renOf [(0, 3), (1, 4)]) [] ⟨.free (encB_free _ _), .from .psl (.osl_of rfl (by omega) (by simp)), .ptr rfl (by omega), .int_of rfl, .bool_of rfl, .int_of rfl, trivial⟩
        (LeH.of ⟨⟨by omega, .inl ⟨by simp, _, rfl, LeB.eq_of (by simp) (by exact rowsB_free _)⟩⟩, ⟨by omega, .inl ⟨by simp, _, rfl, LeB.eq_of rfl (cellsA_free _ _)⟩⟩, trivial⟩ (show ∀ b ∈ [0, 1], ∀ b' ∈ [0, 1], renOf [(0, 3), (1, 4)] b = renOf [(0, 3), (1, 4)] b' → b = b' by decide) (fun _ h => by omega) (by omega) (by simp))) (fun x => ?_)
    · obtain ⟨i, r, hi, hr⟩ := x
      (conv => whnf)
      intro _
      (conv => whnf)
      split
      · rename_i hc2
        have hc2 : i < b.length := by simp at hc2; omega
        (conv => whnf)
        refine ⟨rfl, ⟨by simp, by simp; omega⟩, ?_⟩
        (conv => whnf)
        refine ⟨rfl, [cB r[i]], rowB_get (r := r) (i := i) (by omega), ?_⟩
        (conv => whnf)
        refine ⟨rfl, ⟨by simp, by simp; omega⟩, ?_⟩
        (conv => whnf)
        refine ⟨rfl, [cB r[i]], rowB_get (r := r) (i := i) (by omega), ?_⟩
        (conv => whnf)
        refine ⟨⟨i + 1, r.set i (r[i] + 1), by omega, by simp [hr]⟩, Wk.of id [] ⟨.free (encB_free _ _), .osl rfl (by omega), .ptr rfl (by omega), .int_of rfl, .bool_of rfl, .int_of ?_, trivial⟩
          (LeH.of ⟨⟨by omega, .inl ⟨by simp, _, rfl, LeB.eq_of ?_ (by exact rowsB_free _)⟩⟩, ⟨by omega, .inl ⟨by simp, _, rfl, LeB.eq_of rfl (cellsA_free _ _)⟩⟩, trivial⟩ (fun _ _ _ _ h => h) (fun _ h => by omega) (by omega) (by simp)), by simp only; omega⟩
        · show IntKind.i64.wrap ((i : Int) + 1) = ((i + 1 : Nat) : Int)
          rw [wrap64 (by omega) (by omega)]; rfl
        · show Blk.arr true false 5 1 ((List.map (fun x : UInt8 => [V.int .u8 x.toNat]) r).set (0 + (i : Int).toNat) [V.int .u8 (IntKind.u8.wrap ((r[i].toNat : Int) + 1))]) = Blk.arr true false 5 1 (List.map (fun x : UInt8 => [V.int .u8 x.toNat]) (r.set i (r[i] + 1)))
          rw [List.map_set, wrap8_succ]
          simp
      · (conv => whnf)
        refine callV_pure (ref_parse_ok fr b (by omega)) ⟨.free (encB_free _ _), trivial⟩ ?_
        (conv => whnf)
        refine callV_pure (ref_same_ok true true _ _) ⟨.free (encA_free _ _), .free (encA_free _ _), trivial⟩ ?_
        rw [sameA_refl]
        (conv => whnf)
        refine callV_pure (num_ok _) ⟨.int_of rfl, trivial⟩ ?_
        (conv => whnf)
        split
        case h_2 h => exact absurd h (by simp)
        (conv => whnf)
        refine callV_pure works_ok trivial ?_
        (conv => whnf)
        exact Ends.pure [] (.free .bool) (by simp)
end Go.Proofs.Ytcfkendgjinmiaa
/- Contract: the law AttrsBent. -/
set_option linter.unusedVariables false
set_option linter.unusedSimpArgs false
namespace Go.Proofs.Ytcfkendgjinmiaa
open Go.RowKit
open Go.Proofs.Try (prog)
attribute [local irreducible] CallV RoundV

theorem rawA_len {a : Attrs} (hf : fewA a = true) : (rawA a).length ≤ 20000 := by
  obtain ⟨hp, hpl, htl⟩ := fewA_out hf
  have hpb := pathB_len hp
  have al : ∀ {f c : UInt8} {v : List UInt8}, (attrB f c v).length ≤ 4 + v.length := fun {f c v} => by unfold attrB; split <;> simp <;> omega
  have h1 := al (f := 64) (c := 1) (v := [a.origin])
  have h2 := al (f := 64) (c := 2) (v := pathB a.path)
  have h3 := al (f := 64) (c := 3) (v := fourB a.next)
  have h4 : (if a.hasMed then attrB 128 4 (fourB a.med) else []).length ≤ 8 := by
    split
    · exact al
    · simp
  have h5 : (if a.hasPref then attrB 64 5 (fourB a.pref) else []).length ≤ 8 := by
    split
    · exact al
    · simp
  have h6 : (if 0 < a.tags.length then attrB 192 8 (allB a.tags) else []).length ≤ 244 := by
    split
    · have := al (f := 192) (c := 8) (v := allB a.tags)
      rw [allB_len] at this
      omega
    · simp
  have e3 : (fourB a.next).length = 4 := rfl
  have e1 : ([a.origin] : List UInt8).length = 1 := rfl
  simp only [rawA, rawO, List.length_append]
  omega
set_option maxRecDepth 100000 in
theorem bent_ok (a : Attrs) (at' : Int) (to : UInt8) (more : Int) (h1 : -9223372036854775808 ≤ more ∧ more ≤ 9223372036854775807) : PCon prog 5 [encA false a, .int .i64 at', cB to, .int .i64 more] (.bool true) := by
  refine callV_of (fn := Go.Proofs.Try.f5) (body := _) tab_ok mixed rfl rfl (by decide) (by simp [Go.Proofs.Try.f5]) ?_
  (conv => whnf)
  refine callV_pure (few_ok false a) ⟨.free (encA_free _ _), trivial⟩ ?_
  cases hf : fewA a with
  | false =>
    (conv => whnf)
    refine callV_pure works_ok trivial ?_
    (conv => whnf)
    exact Ends.pure [] (.free .bool) (by simp)
  | true =>
    (conv => whnf)
    refine callV_pure (right_ok false a) ⟨.free (encA_free _ _), trivial⟩ ?_
    cases hr : rightA a with
    | false =>
      (conv => whnf)
      refine callV_pure works_ok trivial ?_
      (conv => whnf)
      exact Ends.pure [] (.free .bool) (by simp)
    | true =>
      (conv => whnf)
      split
      · (conv => whnf)
        refine callV_pure works_ok trivial ?_
        (conv => whnf)
        exact Ends.pure [] (.free .bool) (by simp)
      · rename_i hm
        have hm : more ≤ 100 := by simpa using hm
        (conv => whnf)
        refine callV_own (nx := 1) [] (ref_raw_own false a hf) ⟨.free (encA_free _ _), trivial⟩ (by intro v hv; simp at hv; subst hv; exact encA_cold _) (by simp) (rowsB_ff _) ?_
        (conv => whnf)
        have hlen : (rawA a).length ≤ 20000 := rawA_len hf
        generalize hL : (rawA a).length = L at *
        split
        case' h_2 =>
          (conv => whnf)
          have hr1 := hL
          clear hL
          generalize rawA a = r1 at *
        case' h_1 =>
          rename_i hat
          have hat : 0 ≤ at' := by simpa using hat
          (conv => whnf)
          intro _
          (conv => whnf)
          split
          case' h_2 =>
            (conv => whnf)
            have hr1 := hL
            clear hL
            generalize rawA a = r1 at *
          case' h_1 =>
            rename_i hat2
            have hat2 : at' < L := by simpa using hat2
            have hi : at'.toNat < (rawA a).length := by omega
            (conv => whnf)
            refine ⟨rfl, ⟨by omega, by omega⟩, ?_⟩
            (conv => whnf)
            refine ⟨rfl, [cB (rawA a)[at'.toNat]], by simp [rowsB, List.getElem?_eq_getElem hi], ?_⟩
            have hset : (rowsB (rawA a)).set (0 + at'.toNat) [cB to] = rowsB ((rawA a).set at'.toNat to) := by simp [rowsB, List.map_set]
            (conv => whnf)
            rw [hset]
            have hr1 : ((rawA a).set at'.toNat to).length = L := by simp [hL]
            clear hi hset
            generalize (rawA a).set at'.toNat to = r1 at *
        all_goals
          split
          case' h_1 =>
            rename_i hp
            have hp : 0 < more := by simpa using hp
            (conv => whnf)
            refine ⟨⟨rfl, rfl, rfl, by decide, by omega⟩, by simp [rowsB, hr1], ⟨?_, by omega⟩, false, ?_⟩
            · show (L + more.toNat) * 1 ≤ 140737488355328
              omega
            (conv => whnf)
            rw [show List.take L (rowsB r1) ++ List.replicate more.toNat [V.int .u8 0] = rowsB (r1 ++ List.replicate more.toNat 0) by simp [rowsB, List.take_of_length_le, hr1]]
            split
            case h_1 h => exact absurd h (by simp; omega)
            (conv => whnf)
            refine callV_lend [2] (parse_ok false (r1 ++ List.replicate more.toNat 0) (by (try simp); omega)) ⟨LeV.fresh_off (.freeze_of (by simp) rfl (by simp [rowsB, hr1]; try omega) (by exact rowsB_free _) (by simp [rowsB, hr1, List.map_take, List.take_of_length_le])), trivial⟩ (by intro v hv; simp at hv; subst hv; exact encB_cold _) (one_none rfl) (parseE_fresh _ _) ?_
            (conv => whnf)
            refine callV_lend [2] (ref_parse_ok false (r1 ++ List.replicate more.toNat 0) (by (try simp); omega)) ⟨LeV.fresh_off (.freeze_of (by simp) rfl (by simp [rowsB, hr1]; try omega) (by exact rowsB_free _) (by simp [rowsB, hr1, List.map_take, List.take_of_length_le])), trivial⟩ (by intro v hv; simp at hv; subst hv; exact encB_cold _) (one_none rfl) (parseE_fresh _ _) ?_
            (conv => whnf)
            refine callV_pure (ref_same_ok true true _ _) ⟨.free (encA_free _ _), .free (encA_free _ _), trivial⟩ ?_
            rw [sameA_refl]
            (conv => whnf)
            refine callV_pure (num_ok _) ⟨.int_of rfl, trivial⟩ ?_
            (conv => whnf)
            split
            case h_2 h => exact absurd h (by simp)
            (conv => whnf)
            refine callV_pure works_ok trivial ?_
            (conv => whnf)
            exact Ends.pure [] (.free .bool) (by simp)
          case' h_2 =>
            rename_i hp
            have hp : more ≤ 0 := by simpa using hp
            (conv => whnf)
            split
            case h_2 =>
              (conv => whnf)
              refine callV_lend [1] (parse_ok false (r1) (by (try simp); omega)) ⟨LeV.fresh_off (.freeze_of (by simp) rfl (by simp [rowsB, hr1]; try omega) (by exact rowsB_free _) (by simp [rowsB, hr1, List.map_take, List.take_of_length_le])), trivial⟩ (by intro v hv; simp at hv; subst hv; exact encB_cold _) (one_none rfl) (parseE_fresh _ _) ?_
              (conv => whnf)
              refine callV_lend [1] (ref_parse_ok false (r1) (by (try simp); omega)) ⟨LeV.fresh_off (.freeze_of (by simp) rfl (by simp [rowsB, hr1]; try omega) (by exact rowsB_free _) (by simp [rowsB, hr1, List.map_take, List.take_of_length_le])), trivial⟩ (by intro v hv; simp at hv; subst hv; exact encB_cold _) (one_none rfl) (parseE_fresh _ _) ?_
              (conv => whnf)
              refine callV_pure (ref_same_ok true true _ _) ⟨.free (encA_free _ _), .free (encA_free _ _), trivial⟩ ?_
              rw [sameA_refl]
              (conv => whnf)
              refine callV_pure (num_ok _) ⟨.int_of rfl, trivial⟩ ?_
              (conv => whnf)
              split
              case h_2 h => exact absurd h (by simp)
              (conv => whnf)
              refine callV_pure works_ok trivial ?_
              (conv => whnf)
              exact Ends.pure [] (.free .bool) (by simp)
            rename_i hn
            have hn : more < 0 := by simpa using hn
            have hw : IntKind.i64.wrap (-(L : Int)) = -(L : Int) := by rw [wrap64']; omega
            (conv => whnf)
            intro _
            (conv => whnf)
            split
            case h_2 =>
              (conv => whnf)
              refine callV_lend [1] (parse_ok false (r1) (by (try simp); omega)) ⟨LeV.fresh_off (.freeze_of (by simp) rfl (by simp [rowsB, hr1]; try omega) (by exact rowsB_free _) (by simp [rowsB, hr1, List.map_take, List.take_of_length_le])), trivial⟩ (by intro v hv; simp at hv; subst hv; exact encB_cold _) (one_none rfl) (parseE_fresh _ _) ?_
              (conv => whnf)
              refine callV_lend [1] (ref_parse_ok false (r1) (by (try simp); omega)) ⟨LeV.fresh_off (.freeze_of (by simp) rfl (by simp [rowsB, hr1]; try omega) (by exact rowsB_free _) (by simp [rowsB, hr1, List.map_take, List.take_of_length_le])), trivial⟩ (by intro v hv; simp at hv; subst hv; exact encB_cold _) (one_none rfl) (parseE_fresh _ _) ?_
              (conv => whnf)
              refine callV_pure (ref_same_ok true true _ _) ⟨.free (encA_free _ _), .free (encA_free _ _), trivial⟩ ?_
              rw [sameA_refl]
              (conv => whnf)
              refine callV_pure (num_ok _) ⟨.int_of rfl, trivial⟩ ?_
              (conv => whnf)
              split
              case h_2 h => exact absurd h (by simp)
              (conv => whnf)
              refine callV_pure works_ok trivial ?_
              (conv => whnf)
              exact Ends.pure [] (.free .bool) (by simp)
            rename_i hq
            have hq : -(L : Int) ≤ more := by simpa [hw] using hq
            have hw2 : IntKind.i64.wrap ((L : Int) + more) = (L : Int) + more := by rw [wrap64']; omega
            (conv => whnf)
            intro _
            (conv => whnf)
            rw [hw2]
            refine ⟨rfl, .own, ⟨trivial, by omega, by omega, by omega⟩, ?_⟩
            (conv => whnf)
            refine callV_lend [1] (parse_ok false (r1.take ((L : Int) + more).toNat) (by (try simp); omega)) ⟨LeV.fresh_off (.freeze_of (by simp) rfl (by simp [rowsB, hr1]; try omega) (by exact rowsB_free _) (by simp [rowsB, hr1, List.map_take, List.take_of_length_le])), trivial⟩ (by intro v hv; simp at hv; subst hv; exact encB_cold _) (one_none rfl) (parseE_fresh _ _) ?_
            (conv => whnf)
            refine callV_lend [1] (ref_parse_ok false (r1.take ((L : Int) + more).toNat) (by (try simp); omega)) ⟨LeV.fresh_off (.freeze_of (by simp) rfl (by simp [rowsB, hr1]; try omega) (by exact rowsB_free _) (by simp [rowsB, hr1, List.map_take, List.take_of_length_le])), trivial⟩ (by intro v hv; simp at hv; subst hv; exact encB_cold _) (one_none rfl) (parseE_fresh _ _) ?_
            (conv => whnf)
            refine callV_pure (ref_same_ok true true _ _) ⟨.free (encA_free _ _), .free (encA_free _ _), trivial⟩ ?_
            rw [sameA_refl]
            (conv => whnf)
            refine callV_pure (num_ok _) ⟨.int_of rfl, trivial⟩ ?_
            (conv => whnf)
            split
            case h_2 h => exact absurd h (by simp)
            (conv => whnf)
            refine callV_pure works_ok trivial ?_
            (conv => whnf)
            exact Ends.pure [] (.free .bool) (by simp)
end Go.Proofs.Ytcfkendgjinmiaa
