/- Joined: E5, E6, E7, E8, E9, E10, F1, F2, G3, G4, L0, H1, J1, J2, J3, R0, P0, R0p, P1, A1. -/
import Derived.Test.YtehhligadnlijaaGreatDoorK4
import Derived.Laws.BitsLemmas
import Derived.Test.YtehhligadnlijaaGreatDoorK3
import Derived.Lib.Overlaps
import Derived.Test.YtehhligadnlijaaGreatDoorRows
set_option linter.unusedVariables false
set_option linter.unusedSimpArgs false
namespace Go.Proofs.YtehhligadnlijaaGreatDoor
open Go.RowKit
open Go.Proofs.Tryz (prog)
attribute [local irreducible] CallV RoundV
theorem and16 : ∀ n : Nat, n < 256 → decide (0 < bits .and .u8 (n : Int) 16) = (n / 16 % 2 == 1) := by decide +kernel
theorem andNot16 : ∀ n : Nat, n < 256 → bits .andNot .u8 (n : Int) 16 = (n : Int) - (if (n / 16 % 2 == 1) = true then 16 else 0) := by decide +kernel
theorem or_len (x y : UInt8) : bits .or .i64 (IntKind.i64.wrap (IntKind.i64.wrap (x.toNat : Int) * 2 ^ (min (Int.toNat 8) IntKind.i64.bits))) (IntKind.i64.wrap (y.toNat : Int)) = (256 * x.toNat + y.toNat : Nat) := by
  have hx := x.toNat_lt
  have hy := y.toNat_lt
  have e : (2 : Int) ^ (min (Int.toNat 8) IntKind.i64.bits) = 256 := by decide
  rw [e, wrap64 (n := (x.toNat : Int)) (by omega) (by omega), wrap64 (n := (y.toNat : Int)) (by omega) (by omega), wrap64 (by omega) (by omega)]
  rw [bits_join .i64 63 (by decide) (fun n h0 h1 => by rw [wrap64] <;> omega) 8 _ _ (by omega) (by omega) (by omega) (by omega) (by omega) (by omega)]
  omega
def oneE (b : List UInt8) (last : Nat) : Int := if headE b last ≠ 0 then headE b last else lowE (byteN b 1) (valB b)
def readerV (fr : Bool) (b : List UInt8) (last seen : Nat) (q : Bool) (a : Attrs) : List V := encB fr b :: .int .u8 last :: cI seen :: cellsR q a
def OneR (fr : Bool) (b : List UInt8) (last seen : Nat) (q : Bool) (a : Attrs) : V → Heap → Nat → Prop := fun v' h' nx' =>
  ∃ cells', v' = .int .i64 (oneE b last) ∧ (∀ x ∈ cells', Free x) ∧ (oneE b last = 0 → cells' = readerV fr (restB b) (byteN b 1) (if byteN b 1 ≤ 3 then seen + 1 else seen) (q || byteN b 1 == 2) (lowA (byteN b 1) a (valB b))) ∧ h' = [(0, some (.var true 147 cells'))] ∧ nx' = 1
theorem Ends.oneE {s : St} {e : Int} {fr : Bool} {b : List UInt8} {last seen : Nat} {q : Bool} {a : Attrs} {cells : List V} (hb : hget s.h 0 = some (.var true 147 cells)) (hf : ∀ x ∈ cells, Free x) (he : e = Go.Proofs.YtehhligadnlijaaGreatDoor.oneE b last) (hne : Go.Proofs.YtehhligadnlijaaGreatDoor.oneE b last ≠ 0) :
    ∃ v1 h' nx', Ends 1 s (.int .i64 e) v1 h' nx' ∧ OneR fr b last seen q a v1 h' nx' :=
  ⟨.int .i64 (Go.Proofs.YtehhligadnlijaaGreatDoor.oneE b last), [(0, some (.var true 147 cells))], 1, Ends.of id [] (.int_of he) (LeH.of ⟨⟨by omega, .inl ⟨by simp, _, hb, id, rfl, LeL.free hf⟩⟩, trivial⟩ (fun _ _ _ _ h => h) (fun _ _ => rfl) (by omega) (by simp)), cells, rfl, hf, fun h => absurd h hne, rfl, rfl⟩
theorem Ends.oneK {s : St} {e : Int} {fr : Bool} {b : List UInt8} {last seen : Nat} {q : Bool} {a : Attrs} {cells cells' : List V} (hb : hget s.h 0 = some (.var true 147 cells)) (hf : ∀ x ∈ cells', Free x) (hle : LeL s.h s.nx id 1 [] cells cells') (he : e = Go.Proofs.YtehhligadnlijaaGreatDoor.oneE b last)
    (h : Go.Proofs.YtehhligadnlijaaGreatDoor.oneE b last = 0 → cells' = readerV fr (restB b) (byteN b 1) (if byteN b 1 ≤ 3 then seen + 1 else seen) (q || byteN b 1 == 2) (lowA (byteN b 1) a (valB b))) :
    ∃ v1 h' nx', Ends 1 s (.int .i64 e) v1 h' nx' ∧ OneR fr b last seen q a v1 h' nx' :=
  ⟨.int .i64 (Go.Proofs.YtehhligadnlijaaGreatDoor.oneE b last), [(0, some (.var true 147 cells'))], 1, Ends.of id [] (.int_of he) (LeH.of ⟨⟨by omega, .inl ⟨by simp, _, hb, id, rfl, hle⟩⟩, trivial⟩ (fun _ _ _ _ h => h) (fun _ _ => rfl) (by omega) (by simp)), cells', rfl, hf, h, rfl, rfl⟩
theorem readerV_free (fr : Bool) (b : List UInt8) (last seen : Nat) (q : Bool) (a : Attrs) : ∀ x ∈ readerV fr b last seen q a, Free x := by
  intro x hx
  simp only [readerV, List.mem_cons] at hx
  rcases hx with rfl | rfl | rfl | hx
  · exact encB_free _ _
  · exact .int
  · exact .int
  · exact cellsR_free _ _ x hx
theorem headE_short {b : List UInt8} {last : Nat} (h : b.length < 3) : oneE b last = 290 := by simp [oneE, headE, h]
def codesL : List Nat := [1, 2, 3, 4, 5, 8]
def oneH (fr : Bool) (b : List UInt8) (last seen : Nat) (q : Bool) (a : Attrs) (x0 x1 : UInt8) (e : Int) : Heap :=
  [(0, some (.var true 147 (readerV fr b last seen q a))), (1, some (.var true 143 [.ptr 0 0])), (2, some (.var true 5 [cB x0])), (3, some (.var true 5 [cB x1])), (4, some (.var true 3 [cI (numB b)])), (5, some (.var true 3 [cI (atB b)])), (6, some (.var true 4 [.bool (lngB b)])), (7, some (.var true 29 [.int .i64 e]))]
theorem head_is {b : List UInt8} {last : Nat} (h3 : 3 ≤ b.length) (h4 : lngB b = true → 4 ≤ b.length) (hl : atB b + numB b ≤ b.length) (hf : 0 ≤ flagsI (byteN b 1)) :
    headE b last = if (byteN b 0 : Int) - (if lngB b then 16 else 0) ≠ flagsI (byteN b 1) ∨ lngB b ≠ decide (255 < numB b) then 292 else if byteN b 1 ≤ last then 293 else 0 := by
  unfold headE
  rw [if_neg (by omega), if_neg (by rintro ⟨h1, h2⟩; have := h4 h1; omega), if_neg (by omega), if_neg (by omega)]
theorem callV_read {f : FuncId} {args args0 : List V} {c : Nat} {v : List UInt8} {q : Bool} {a : Attrs} {B L S : V} {h : Heap} {nx b : Nat} {K : V → Heap → Nat → Prop} (hc : CallV prog f args0 [(0, some (.var true 147 (B :: L :: S :: cellsR q a)))] 1 (RR c v q a B L S))
    (hb : hget h b = some (.var true 147 (B :: L :: S :: cellsR q a))) (hB : Free B) (hL : Free L) (hS : Free S) (ha : LeL h nx (fun _ => b) 1 [] args args0)
    (hK : ∀ c8 : List V, c8.length = 8 → (∀ x ∈ c8, Free x) → (lowE c v = 0 → c8 = cellsR (q || c == 2) (lowA c a v)) → K (.int .i64 (lowE c v)) ((b, some (.var true 147 (B :: L :: S :: c8))) :: h) nx) : CallV prog f args h nx K := by
  refine callV_ptr (R := fun v' cells' => ∃ c8, cells' = B :: L :: S :: c8 ∧ v' = .int .i64 (lowE c v) ∧ c8.length = 8 ∧ (∀ x ∈ c8, Free x) ∧ (lowE c v = 0 → c8 = cellsR (q || c == 2) (lowA c a v))) (hc.mono ?_) hb ?_ ha ?_
  · rintro v' h' nx' ⟨c8, rfl, h8, hf, hok, rfl, rfl⟩
    exact ⟨_, ⟨c8, rfl, rfl, h8, hf, hok⟩, rfl, rfl⟩
  · intro x hx
    simp only [List.mem_cons] at hx
    rcases hx with rfl | rfl | rfl | hx
    · exact hB
    · exact hL
    · exact hS
    · exact cellsR_free _ _ x hx
  · rintro v' cells' ⟨c8, rfl, rfl, h8, hf, hok⟩
    refine ⟨.int, fun x hx => ?_, hK c8 h8 hf hok⟩
    simp only [List.mem_cons] at hx
    rcases hx with rfl | rfl | rfl | hx
    · exact hB
    · exact hL
    · exact hS
    · exact hf x hx
theorem rest8_free {fr : Bool} {b : List UInt8} {x : UInt8} {seen : Nat} {c8 : List V} (h : ∀ x ∈ c8, Free x) {n : Nat} : ∀ v ∈ (V.sl fr 1 (List.drop n (b.map fun x => [V.int .u8 x.toNat])) :: cB x :: cI seen :: c8), Free v := by
  intro v hv
  simp only [List.mem_cons] at hv
  rcases hv with rfl | rfl | rfl | hv
  · rw [← List.map_drop]; exact encB_free _ _
  · exact .int
  · exact .int
  · exact h v hv
theorem eight {c8 : List V} (h : c8.length = 8) : ∃ a0 a1 a2 a3 a4 a5 a6 a7, c8 = [a0, a1, a2, a3, a4, a5, a6, a7] := by
  rcases c8 with _ | ⟨a0, _ | ⟨a1, _ | ⟨a2, _ | ⟨a3, _ | ⟨a4, _ | ⟨a5, _ | ⟨a6, _ | ⟨a7, _ | ⟨a8, l⟩⟩⟩⟩⟩⟩⟩⟩⟩
  all_goals first | (exact ⟨a0, a1, a2, a3, a4, a5, a6, a7, rfl⟩) | (simp at h)
theorem LeL.of_eq {h : Heap} {nx : Nat} {ρ : Nat → Nat} {nx' : Nat} {Z : List Nat} {cs cs' : List V} (e : cs = cs') (hf : ∀ v ∈ cs', Free v) : LeL h nx ρ nx' Z cs cs' := by subst e; exact LeL.free hf
theorem attrV_free : Free (.sl true 5 attrRows) := .sl attrRows_free
theorem attributesV_cap : Free (.iptr true [.sl true 5 attrRows]) := .iptr (by intro v hv; simp at hv; subst hv; exact attrV_free)
theorem rest_free (fr : Bool) (b : List UInt8) (x : UInt8) (seen : Nat) (q : Bool) (a : Attrs) {n : Nat} : ∀ v ∈ (V.sl fr 1 (List.drop n (b.map fun x => [V.int .u8 x.toNat])) :: cB x :: cI seen :: cellsR q a), Free v := by
  intro v hv
  simp only [List.mem_cons] at hv
  rcases hv with rfl | rfl | rfl | hv
  · rw [← List.map_drop]; exact encB_free _ _
  · exact .int
  · exact .int
  · exact cellsR_free _ _ v hv
theorem iptr_fn_free (n : Nat) : Free (.iptr true [fnV n]) := .iptr (by intro v hv; simp at hv; subst hv; exact fnV_free _)
theorem flags_none {n : Nat} (h : ∀ j, j < 6 → codesL.getD j 0 ≠ n) : flagsI n = -1 := by
  have h0 := h 0 (by omega)
  have h1 := h 1 (by omega)
  have h2 := h 2 (by omega)
  have h3 := h 3 (by omega)
  have h4 := h 4 (by omega)
  have h5 := h 5 (by omega)
  simp [codesL] at h0 h1 h2 h3 h4 h5
  unfold flagsI
  rw [if_neg (by omega), if_neg (by omega), if_neg (by omega), if_neg (by omega), if_neg (by omega), if_neg (by omega)]
set_option maxRecDepth 100000 in
set_option maxHeartbeats 8000000 in
theorem one_ok (fr : Bool) (b : List UInt8) (hb : b.length ≤ 1000000) (last seen : Nat) (hlast : last < 256) (hseen : seen ≤ 1000000) (q : Bool) (hq : last < 2 → q = false) (a : Attrs) :
    CallV prog 109 [.ptr 0 0] [(0, some (.var true 147 (readerV fr b last seen q a)))] 1 (OneR fr b last seen q a) := by
  refine callV_of (fn := Go.Proofs.Tryz.f109) (body := _) tab_ok mixed rfl rfl (by decide) (by simp [Go.Proofs.Tryz.f109]) ?_
  (conv => whnf)
  intro _
  (conv => whnf)
  split
  · rename_i h
    have h : b.length < 3 := by simp at h; omega
    have e := headE_short (last := last) h
    (conv => whnf)
    exact Ends.oneE rfl (readerV_free _ _ _ _ _ _) e.symm (by rw [e]; decide)
  rename_i h
  have h : 3 ≤ b.length := by simp at h; omega
  obtain ⟨x0, x1, x2, r, hX⟩ : ∃ x0 x1 x2 r, b = x0 :: x1 :: x2 :: r := by
    rcases b with _ | ⟨x0, _ | ⟨x1, _ | ⟨x2, r⟩⟩⟩
    · simp at h
    · simp at h
    · simp at h
    · exact ⟨x0, x1, x2, r, rfl⟩
  have h0 := x0.toNat_lt
  have h1 := x1.toNat_lt
  have h2 := x2.toNat_lt
  have n0 : byteN b 0 = x0.toNat := by rw [hX]; rfl
  have n1 : byteN b 1 = x1.toNat := by rw [hX]; rfl
  have n2 : byteN b 2 = x2.toNat := by rw [hX]; rfl
  have w2 : IntKind.i64.wrap (x2.toNat : Int) = x2.toNat := wrap64 (by omega) (by omega)
  have eL : decide (0 < bits .and .u8 (x0.toNat : Int) 16) = lngB b := by rw [and16 x0.toNat h0, lngB, n0]
  (conv => whnf)
  refine ⟨rfl, [cB x0], ⟨by simp, by rw [hX]; rfl⟩, ?_⟩
  (conv => whnf)
  refine ⟨rfl, [cB x1], ⟨by simp, by rw [hX]; rfl⟩, ?_⟩
  (conv => whnf)
  refine ⟨rfl, [cB x2], ⟨by simp, by rw [hX]; rfl⟩, ?_⟩
  (conv => whnf)
  refine ⟨by kernel_rfl, ?_⟩
  (conv => whnf)
  rw [eL]
  cases hL : lngB b with
  | false =>
    have eN : numB b = x2.toNat := by simp [numB, hL, n2]
    have eA : atB b = 3 := by simp [atB, hL]
    have w3 : IntKind.i64.wrap (3 + IntKind.i64.wrap (x2.toNat : Int)) = (atB b + numB b : Nat) := by rw [w2, eN, eA, wrap64] <;> omega
    (conv => whnf)
    refine ⟨by kernel_rfl, ?_⟩
    (conv => whnf)
    split
    · rename_i h3
      have h3 : b.length < atB b + numB b := by rw [w3, List.length_map] at h3; simp at h3; omega
      have e : oneE b last = 290 := by simp [oneE, headE, hL, h3]
      (conv => whnf)
      exact Ends.oneE rfl (readerV_free _ _ _ _ _ _) e.symm (by rw [e]; decide)
    rename_i h3
    have h3 : atB b + numB b ≤ b.length := by rw [w3, List.length_map] at h3; simp at h3; omega
    have h4 : lngB b = true → 4 ≤ b.length := fun h => by rw [hL] at h; cases h
    have hAN : IntKind.i64.wrap ((atB b : Int) + (numB b : Int)) = (atB b + numB b : Nat) := by rw [wrap64] <;> omega
    have hd : decide ((255 : Int) < (numB b : Int)) = decide (255 < numB b) := decide_eq_decide.2 (by omega)
    have hse : IntKind.i64.wrap ((seen : Int) + 1) = (seen + 1 : Nat) := by rw [wrap64] <;> omega
    (conv => whnf)
    refine callV_pure attributes_ok trivial ?_
    (conv => whnf)
    refine callV_loop [(1, .ptr 1 0), (3, .ptr 2 0), (4, .ptr 3 0), (5, .ptr 4 0), (6, .ptr 5 0), (7, .ptr 6 0), (8, .ptr 7 0)] ⟨rfl, rfl, rfl, rfl, rfl, rfl, rfl, trivial⟩ fun asg' body' hasg hbody => ?_
    refine callV_of (fn := Go.Proofs.Tryz.f203) (body := _) tab_ok mixed rfl rfl (by decide) (by simp [Go.Proofs.Tryz.f203]) ?_
    (conv => whnf)
    intro _
    (conv => whnf)
    refine vcg_loop tab_ok mixed (fun k : {k : Nat // k ≤ 6 ∧ ∀ j, j < k → codesL.getD j 0 ≠ x1.toNat} => ⟨[(0, .yld 8), (1, .iptr true [.sl true 5 attrRows]), (5, .sl true 5 attrRows), (6, .int .i64 6), (7, cI k.1)], (8, some (.loop 141 [(1, .ptr 1 0), (3, .ptr 2 0), (4, .ptr 3 0), (5, .ptr 4 0), (6, .ptr 5 0), (7, .ptr 6 0), (8, .ptr 7 0)] [72] asg' body' .ready none)) :: oneH fr b last seen q a x0 x1 291, 9⟩) (fun k => 6 - k.1) ⟨0, by omega, by omega⟩ ?_ (fun k => ?_)
    · refine Wk.of id [] ⟨.yld rfl (by omega), .free attributesV_cap, .free attrV_free, .int_of rfl, .int_of rfl, trivial⟩ (LeH.of ⟨⟨by omega, .inl ⟨by simp, _, rfl, rfl, rfl, rfl, rfl, rfl, rfl, .ptr rfl (by omega), .ptr rfl (by omega), .ptr rfl (by omega), .ptr rfl (by omega), .ptr rfl (by omega), .ptr rfl (by omega), .ptr rfl (by omega), trivial⟩⟩,
        ⟨by omega, .inl ⟨by simp, _, rfl, LeB.free (blk := .var true 147 (readerV fr b last seen q a)) (readerV_free _ _ _ _ _ _)⟩⟩, ⟨by omega, .inl ⟨by simp, _, rfl, id, rfl, .ptr rfl (by omega), trivial⟩⟩, ⟨by omega, .inl ⟨by simp, _, rfl, id, rfl, .int_of rfl, trivial⟩⟩, ⟨by omega, .inl ⟨by simp, _, rfl, id, rfl, .int_of rfl, trivial⟩⟩,
        ⟨by omega, .inl ⟨by simp, _, rfl, id, rfl, .int_of (by rw [w2, eN]), trivial⟩⟩, ⟨by omega, .inl ⟨by simp, _, rfl, id, rfl, .int_of (by rw [eA]; rfl), trivial⟩⟩, ⟨by omega, .inl ⟨by simp, _, rfl, id, rfl, .bool_of hL.symm, trivial⟩⟩, ⟨by omega, .inl ⟨by simp, _, rfl, id, rfl, .int_of rfl, trivial⟩⟩, trivial⟩ (fun _ _ _ _ h => h) (fun _ _ => rfl) (by omega) (by simp))
    obtain ⟨k, hk, hne⟩ := k
    rcases k with _ | _ | _ | _ | _ | _ | _ | k
    case succ.succ.succ.succ.succ.succ.succ => omega
    case zero =>
      (conv => whnf)
      refine ⟨rfl, _, ⟨by simp, rfl⟩, ?_⟩
      (conv => whnf)
      subst hasg hbody
      refine roundV_of tab_ok mixed rfl (by simp) (show 8 < 10 by omega) ?_
      (conv => whnf)
      refine ⟨rfl, ?_⟩
      (conv => whnf)
      split
      · rename_i hc
        have hc : x1.toNat ≠ 1 := by simp at hc; omega
        (conv => whnf)
        refine ⟨rfl, ?_⟩
        (conv => whnf)
        refine ⟨⟨0 + 1, by omega, ?_⟩, Wk.of id [] ⟨.yld rfl (by omega), .free attributesV_cap, .free attrV_free, .int_of rfl, .int_of rfl, trivial⟩ (LeH.of ⟨⟨by omega, .inl ⟨by simp, _, rfl, rfl, rfl, rfl, rfl, rfl, rfl, .ptr rfl (by omega), .ptr rfl (by omega), .ptr rfl (by omega), .ptr rfl (by omega), .ptr rfl (by omega), .ptr rfl (by omega), .ptr rfl (by omega), trivial⟩⟩,
          ⟨by omega, .inl ⟨by simp, _, rfl, LeB.free (blk := .var true 147 (readerV fr b last seen q a)) (readerV_free _ _ _ _ _ _)⟩⟩, ⟨by omega, .inl ⟨by simp, _, rfl, id, rfl, .ptr rfl (by omega), trivial⟩⟩, ⟨by omega, .inl ⟨by simp, _, rfl, id, rfl, .free .int, trivial⟩⟩, ⟨by omega, .inl ⟨by simp, _, rfl, id, rfl, .free .int, trivial⟩⟩,
          ⟨by omega, .inl ⟨by simp, _, rfl, id, rfl, .free .int, trivial⟩⟩, ⟨by omega, .inl ⟨by simp, _, rfl, id, rfl, .free .int, trivial⟩⟩, ⟨by omega, .inl ⟨by simp, _, rfl, id, rfl, .free .bool, trivial⟩⟩, ⟨by omega, .inl ⟨by simp, _, rfl, id, rfl, .free .int, trivial⟩⟩, trivial⟩ (fun _ _ _ _ h => h) (fun _ _ => rfl) (by omega) (by simp)), by simp only; omega⟩
        intro j hj
        rcases Nat.lt_or_ge j 0 with h | h
        · exact hne j h
        · obtain rfl : j = 0 := by omega
          exact fun e => hc e.symm
      rename_i hc
      have hc : x1.toNat = 1 := by simp at hc; omega
      obtain rfl : x1 = 1 := UInt8.toNat_inj.1 hc
      have n1' : byteN b 1 = 1 := by rw [n1]; rfl
      (conv => whnf)
      have hF : flagsI (byteN b 1) = 64 := by rw [n1']; rfl
      have hH := head_is (last := last) h h4 h3 (by rw [hF]; decide)
      rw [hF] at hH
      cases hf : (bits BinOp.andNot IntKind.u8 (x0.toNat : Int) 16 != 64)
      case true =>
        have e : oneE b last = 292 := by
          have : headE b last = 292 := by
            rw [hH, if_pos]
            left
            rw [andNot16 _ h0] at hf
            rw [n0, show lngB b = (x0.toNat / 16 % 2 == 1) by rw [lngB, n0]]
            simpa using hf
          simp [oneE, this]
        (conv => whnf)
        refine ⟨rfl, ?_⟩
        (conv => whnf)
        refine ⟨_, _, _, Ends.here, ?_⟩
        (conv => whnf)
        refine ⟨rfl, ⟨by rw [hAN]; omega, by rw [hAN]; simp; omega⟩, ?_⟩
        (conv => whnf)
        refine ⟨by kernel_rfl, ?_⟩
        (conv => whnf)
        exact Ends.oneE rfl (rest_free _ _ _ _ _ _) e.symm (by rw [e]; decide)
      have hf : (byteN b 0 : Int) - (if lngB b then 16 else 0) = 64 := by
        rw [andNot16 _ h0] at hf
        rw [n0, show lngB b = (x0.toNat / 16 % 2 == 1) by rw [lngB, n0]]
        simpa using hf
      (conv => whnf)
      split
      · rename_i hg
        have e : oneE b last = 292 := by
          have : headE b last = 292 := by
            rw [hH, if_pos]
            right
            rw [hd] at hg
            simpa using hg
          simp [oneE, this]
        (conv => whnf)
        refine ⟨rfl, ?_⟩
        (conv => whnf)
        refine ⟨_, _, _, Ends.here, ?_⟩
        (conv => whnf)
        refine ⟨rfl, ⟨by rw [hAN]; omega, by rw [hAN]; simp; omega⟩, ?_⟩
        (conv => whnf)
        refine ⟨by kernel_rfl, ?_⟩
        (conv => whnf)
        exact Ends.oneE rfl (rest_free _ _ _ _ _ _) e.symm (by rw [e]; decide)
      rename_i hg
      have hg : lngB b = decide (255 < numB b) := by rw [hd] at hg; simpa using hg
      rw [if_neg (by rintro (h | h) <;> contradiction)] at hH
      (conv => whnf)
      refine ⟨by kernel_rfl, ?_⟩
      (conv => whnf)
      split
      · rename_i hr
        have e : oneE b last = 293 := by
          have : headE b last = 293 := by
            rw [hH, if_pos]
            rw [n1']
            simp at hr
            omega
          simp [oneE, this]
        (conv => whnf)
        refine ⟨rfl, ?_⟩
        (conv => whnf)
        refine ⟨_, _, _, Ends.here, ?_⟩
        (conv => whnf)
        refine ⟨rfl, ⟨by rw [hAN]; omega, by rw [hAN]; simp; omega⟩, ?_⟩
        (conv => whnf)
        refine ⟨by kernel_rfl, ?_⟩
        (conv => whnf)
        exact Ends.oneE rfl (rest_free _ _ _ _ _ _) e.symm (by rw [e]; decide)
      rename_i hr
      have hr : ¬ 1 ≤ last := by simp at hr; omega
      rw [if_neg (by rw [n1']; exact hr)] at hH
      (conv => whnf)
      refine ⟨rfl, ⟨by omega, by rw [hAN]; omega, by rw [hAN]; simp; omega, by rw [hAN]; simp; omega⟩, ?_⟩
      (conv => whnf)
      refine ⟨by kernel_rfl, ?_⟩
      (conv => whnf)
      have hsl : V.sl fr 1 (List.drop (atB b : Int).toNat (List.take (IntKind.i64.wrap ((atB b : Int) + (numB b : Int))).toNat (List.map (fun x => [V.int .u8 x.toNat]) b))) = encB fr (valB b) := by
        rw [hAN, Int.toNat_natCast, Int.toNat_natCast, ← List.map_take, ← List.map_drop, List.drop_take, Nat.add_sub_cancel_left]
        rfl
      have hsr : V.sl fr 1 (List.drop (IntKind.i64.wrap ((atB b : Int) + (numB b : Int))).toNat (List.map (fun x => [V.int .u8 x.toNat]) b)) = encB fr (restB b) := by
        rw [hAN, Int.toNat_natCast, ← List.map_drop]
        rfl
      have hvl : (valB b).length ≤ 1000000 := by simp [valB]; omega
      refine callV_read (b := 0) (read1_ok fr (valB b) q a _ _ _ (encB_free _ _) .int .int) rfl (encB_free _ _) .int .int ⟨.ptr rfl (by omega), .eq_of hsl (encB_free _ _), trivial⟩ fun c8 h8 hf8 hok => ?_
      obtain ⟨a0, a1, a2, a3, a4, a5, a6, a7, rfl⟩ := eight h8
      have ee : oneE b last = lowE 1 (valB b) := by
        rw [oneE, if_neg (by simp [hH]), n1']
      (conv => whnf)
      refine ⟨rfl, ?_⟩
      (conv => whnf)
      refine ⟨_, _, _, Ends.here, ?_⟩
      (conv => whnf)
      cases he : (lowE 1 (valB b) == 0) with
      | false =>
        have he' : lowE 1 (valB b) ≠ 0 := by simpa using he
        (conv => whnf)
        refine ⟨rfl, ⟨by rw [hAN]; omega, by rw [hAN]; simp; omega⟩, ?_⟩
        (conv => whnf)
        refine ⟨by kernel_rfl, ?_⟩
        (conv => whnf)
        exact Ends.oneE rfl (rest8_free hf8) ee.symm (by rw [ee]; exact he')
      | true =>
        have he' : lowE 1 (valB b) = 0 := by simpa using he
        have h8 := hok he'
        (conv => whnf)
        refine ⟨rfl, ⟨by rw [hAN]; omega, by rw [hAN]; simp; omega⟩, ?_⟩
        (conv => whnf)
        refine ⟨by kernel_rfl, ?_⟩
        (conv => whnf)
        refine Ends.oneK (cells' := readerV fr (restB b) 1 (seen + 1) _ (lowA 1 a (valB b))) rfl (readerV_free _ _ _ _ _ _) ⟨.eq_of hsr (encB_free _ _), .int_of rfl, .int_of hse, .of_eq h8 (cellsR_free _ _)⟩ ee.symm (fun _ => by rw [n1']; rfl)
    case succ.zero =>
      (conv => whnf)
      refine ⟨rfl, _, ⟨by simp, rfl⟩, ?_⟩
      (conv => whnf)
      subst hasg hbody
      refine roundV_of tab_ok mixed rfl (by simp) (show 8 < 10 by omega) ?_
      (conv => whnf)
      refine ⟨rfl, ?_⟩
      (conv => whnf)
      split
      · rename_i hc
        have hc : x1.toNat ≠ 2 := by simp at hc; omega
        (conv => whnf)
        refine ⟨rfl, ?_⟩
        (conv => whnf)
        refine ⟨⟨1 + 1, by omega, ?_⟩, Wk.of id [] ⟨.yld rfl (by omega), .free attributesV_cap, .free attrV_free, .int_of rfl, .int_of rfl, trivial⟩ (LeH.of ⟨⟨by omega, .inl ⟨by simp, _, rfl, rfl, rfl, rfl, rfl, rfl, rfl, .ptr rfl (by omega), .ptr rfl (by omega), .ptr rfl (by omega), .ptr rfl (by omega), .ptr rfl (by omega), .ptr rfl (by omega), .ptr rfl (by omega), trivial⟩⟩,
          ⟨by omega, .inl ⟨by simp, _, rfl, LeB.free (blk := .var true 147 (readerV fr b last seen q a)) (readerV_free _ _ _ _ _ _)⟩⟩, ⟨by omega, .inl ⟨by simp, _, rfl, id, rfl, .ptr rfl (by omega), trivial⟩⟩, ⟨by omega, .inl ⟨by simp, _, rfl, id, rfl, .free .int, trivial⟩⟩, ⟨by omega, .inl ⟨by simp, _, rfl, id, rfl, .free .int, trivial⟩⟩,
          ⟨by omega, .inl ⟨by simp, _, rfl, id, rfl, .free .int, trivial⟩⟩, ⟨by omega, .inl ⟨by simp, _, rfl, id, rfl, .free .int, trivial⟩⟩, ⟨by omega, .inl ⟨by simp, _, rfl, id, rfl, .free .bool, trivial⟩⟩, ⟨by omega, .inl ⟨by simp, _, rfl, id, rfl, .free .int, trivial⟩⟩, trivial⟩ (fun _ _ _ _ h => h) (fun _ _ => rfl) (by omega) (by simp)), by simp only; omega⟩
        intro j hj
        rcases Nat.lt_or_ge j 1 with h | h
        · exact hne j h
        · obtain rfl : j = 1 := by omega
          exact fun e => hc e.symm
      rename_i hc
      have hc : x1.toNat = 2 := by simp at hc; omega
      obtain rfl : x1 = 2 := UInt8.toNat_inj.1 hc
      have n1' : byteN b 1 = 2 := by rw [n1]; rfl
      (conv => whnf)
      have hF : flagsI (byteN b 1) = 64 := by rw [n1']; rfl
      have hH := head_is (last := last) h h4 h3 (by rw [hF]; decide)
      rw [hF] at hH
      cases hf : (bits BinOp.andNot IntKind.u8 (x0.toNat : Int) 16 != 64)
      case true =>
        have e : oneE b last = 292 := by
          have : headE b last = 292 := by
            rw [hH, if_pos]
            left
            rw [andNot16 _ h0] at hf
            rw [n0, show lngB b = (x0.toNat / 16 % 2 == 1) by rw [lngB, n0]]
            simpa using hf
          simp [oneE, this]
        (conv => whnf)
        refine ⟨rfl, ?_⟩
        (conv => whnf)
        refine ⟨_, _, _, Ends.here, ?_⟩
        (conv => whnf)
        refine ⟨rfl, ⟨by rw [hAN]; omega, by rw [hAN]; simp; omega⟩, ?_⟩
        (conv => whnf)
        refine ⟨by kernel_rfl, ?_⟩
        (conv => whnf)
        exact Ends.oneE rfl (rest_free _ _ _ _ _ _) e.symm (by rw [e]; decide)
      have hf : (byteN b 0 : Int) - (if lngB b then 16 else 0) = 64 := by
        rw [andNot16 _ h0] at hf
        rw [n0, show lngB b = (x0.toNat / 16 % 2 == 1) by rw [lngB, n0]]
        simpa using hf
      (conv => whnf)
      split
      · rename_i hg
        have e : oneE b last = 292 := by
          have : headE b last = 292 := by
            rw [hH, if_pos]
            right
            rw [hd] at hg
            simpa using hg
          simp [oneE, this]
        (conv => whnf)
        refine ⟨rfl, ?_⟩
        (conv => whnf)
        refine ⟨_, _, _, Ends.here, ?_⟩
        (conv => whnf)
        refine ⟨rfl, ⟨by rw [hAN]; omega, by rw [hAN]; simp; omega⟩, ?_⟩
        (conv => whnf)
        refine ⟨by kernel_rfl, ?_⟩
        (conv => whnf)
        exact Ends.oneE rfl (rest_free _ _ _ _ _ _) e.symm (by rw [e]; decide)
      rename_i hg
      have hg : lngB b = decide (255 < numB b) := by rw [hd] at hg; simpa using hg
      rw [if_neg (by rintro (h | h) <;> contradiction)] at hH
      (conv => whnf)
      refine ⟨by kernel_rfl, ?_⟩
      (conv => whnf)
      split
      · rename_i hr
        have e : oneE b last = 293 := by
          have : headE b last = 293 := by
            rw [hH, if_pos]
            rw [n1']
            simp at hr
            omega
          simp [oneE, this]
        (conv => whnf)
        refine ⟨rfl, ?_⟩
        (conv => whnf)
        refine ⟨_, _, _, Ends.here, ?_⟩
        (conv => whnf)
        refine ⟨rfl, ⟨by rw [hAN]; omega, by rw [hAN]; simp; omega⟩, ?_⟩
        (conv => whnf)
        refine ⟨by kernel_rfl, ?_⟩
        (conv => whnf)
        exact Ends.oneE rfl (rest_free _ _ _ _ _ _) e.symm (by rw [e]; decide)
      rename_i hr
      have hr : ¬ 2 ≤ last := by simp at hr; omega
      rw [if_neg (by rw [n1']; exact hr)] at hH
      (conv => whnf)
      refine ⟨rfl, ⟨by omega, by rw [hAN]; omega, by rw [hAN]; simp; omega, by rw [hAN]; simp; omega⟩, ?_⟩
      (conv => whnf)
      refine ⟨by kernel_rfl, ?_⟩
      (conv => whnf)
      obtain rfl := hq (by omega)
      have hsl : V.sl fr 1 (List.drop (atB b : Int).toNat (List.take (IntKind.i64.wrap ((atB b : Int) + (numB b : Int))).toNat (List.map (fun x => [V.int .u8 x.toNat]) b))) = encB fr (valB b) := by
        rw [hAN, Int.toNat_natCast, Int.toNat_natCast, ← List.map_take, ← List.map_drop, List.drop_take, Nat.add_sub_cancel_left]
        rfl
      have hsr : V.sl fr 1 (List.drop (IntKind.i64.wrap ((atB b : Int) + (numB b : Int))).toNat (List.map (fun x => [V.int .u8 x.toNat]) b)) = encB fr (restB b) := by
        rw [hAN, Int.toNat_natCast, ← List.map_drop]
        rfl
      have hvl : (valB b).length ≤ 1000000 := by simp [valB]; omega
      refine callV_read (b := 0) (readRoute_ok fr (valB b) hvl a _ _ _ (encB_free _ _) .int .int) rfl (encB_free _ _) .int .int ⟨.ptr rfl (by omega), .eq_of hsl (encB_free _ _), trivial⟩ fun c8 h8 hf8 hok => ?_
      obtain ⟨a0, a1, a2, a3, a4, a5, a6, a7, rfl⟩ := eight h8
      have ee : oneE b last = lowE 2 (valB b) := by
        rw [oneE, if_neg (by simp [hH]), n1']
      (conv => whnf)
      refine ⟨rfl, ?_⟩
      (conv => whnf)
      refine ⟨_, _, _, Ends.here, ?_⟩
      (conv => whnf)
      cases he : (lowE 2 (valB b) == 0) with
      | false =>
        have he' : lowE 2 (valB b) ≠ 0 := by simpa using he
        (conv => whnf)
        refine ⟨rfl, ⟨by rw [hAN]; omega, by rw [hAN]; simp; omega⟩, ?_⟩
        (conv => whnf)
        refine ⟨by kernel_rfl, ?_⟩
        (conv => whnf)
        exact Ends.oneE rfl (rest8_free hf8) ee.symm (by rw [ee]; exact he')
      | true =>
        have he' : lowE 2 (valB b) = 0 := by simpa using he
        have h8 := hok he'
        (conv => whnf)
        refine ⟨rfl, ⟨by rw [hAN]; omega, by rw [hAN]; simp; omega⟩, ?_⟩
        (conv => whnf)
        refine ⟨by kernel_rfl, ?_⟩
        (conv => whnf)
        refine Ends.oneK (cells' := readerV fr (restB b) 2 (seen + 1) _ (lowA 2 a (valB b))) rfl (readerV_free _ _ _ _ _ _) ⟨.eq_of hsr (encB_free _ _), .int_of rfl, .int_of hse, .of_eq h8 (cellsR_free _ _)⟩ ee.symm (fun _ => by rw [n1']; rfl)
    case succ.succ.zero =>
      (conv => whnf)
      refine ⟨rfl, _, ⟨by simp, rfl⟩, ?_⟩
      (conv => whnf)
      subst hasg hbody
      refine roundV_of tab_ok mixed rfl (by simp) (show 8 < 10 by omega) ?_
      (conv => whnf)
      refine ⟨rfl, ?_⟩
      (conv => whnf)
      split
      · rename_i hc
        have hc : x1.toNat ≠ 3 := by simp at hc; omega
        (conv => whnf)
        refine ⟨rfl, ?_⟩
        (conv => whnf)
        refine ⟨⟨2 + 1, by omega, ?_⟩, Wk.of id [] ⟨.yld rfl (by omega), .free attributesV_cap, .free attrV_free, .int_of rfl, .int_of rfl, trivial⟩ (LeH.of ⟨⟨by omega, .inl ⟨by simp, _, rfl, rfl, rfl, rfl, rfl, rfl, rfl, .ptr rfl (by omega), .ptr rfl (by omega), .ptr rfl (by omega), .ptr rfl (by omega), .ptr rfl (by omega), .ptr rfl (by omega), .ptr rfl (by omega), trivial⟩⟩,
          ⟨by omega, .inl ⟨by simp, _, rfl, LeB.free (blk := .var true 147 (readerV fr b last seen q a)) (readerV_free _ _ _ _ _ _)⟩⟩, ⟨by omega, .inl ⟨by simp, _, rfl, id, rfl, .ptr rfl (by omega), trivial⟩⟩, ⟨by omega, .inl ⟨by simp, _, rfl, id, rfl, .free .int, trivial⟩⟩, ⟨by omega, .inl ⟨by simp, _, rfl, id, rfl, .free .int, trivial⟩⟩,
          ⟨by omega, .inl ⟨by simp, _, rfl, id, rfl, .free .int, trivial⟩⟩, ⟨by omega, .inl ⟨by simp, _, rfl, id, rfl, .free .int, trivial⟩⟩, ⟨by omega, .inl ⟨by simp, _, rfl, id, rfl, .free .bool, trivial⟩⟩, ⟨by omega, .inl ⟨by simp, _, rfl, id, rfl, .free .int, trivial⟩⟩, trivial⟩ (fun _ _ _ _ h => h) (fun _ _ => rfl) (by omega) (by simp)), by simp only; omega⟩
        intro j hj
        rcases Nat.lt_or_ge j 2 with h | h
        · exact hne j h
        · obtain rfl : j = 2 := by omega
          exact fun e => hc e.symm
      rename_i hc
      have hc : x1.toNat = 3 := by simp at hc; omega
      obtain rfl : x1 = 3 := UInt8.toNat_inj.1 hc
      have n1' : byteN b 1 = 3 := by rw [n1]; rfl
      (conv => whnf)
      have hF : flagsI (byteN b 1) = 64 := by rw [n1']; rfl
      have hH := head_is (last := last) h h4 h3 (by rw [hF]; decide)
      rw [hF] at hH
      cases hf : (bits BinOp.andNot IntKind.u8 (x0.toNat : Int) 16 != 64)
      case true =>
        have e : oneE b last = 292 := by
          have : headE b last = 292 := by
            rw [hH, if_pos]
            left
            rw [andNot16 _ h0] at hf
            rw [n0, show lngB b = (x0.toNat / 16 % 2 == 1) by rw [lngB, n0]]
            simpa using hf
          simp [oneE, this]
        (conv => whnf)
        refine ⟨rfl, ?_⟩
        (conv => whnf)
        refine ⟨_, _, _, Ends.here, ?_⟩
        (conv => whnf)
        refine ⟨rfl, ⟨by rw [hAN]; omega, by rw [hAN]; simp; omega⟩, ?_⟩
        (conv => whnf)
        refine ⟨by kernel_rfl, ?_⟩
        (conv => whnf)
        exact Ends.oneE rfl (rest_free _ _ _ _ _ _) e.symm (by rw [e]; decide)
      have hf : (byteN b 0 : Int) - (if lngB b then 16 else 0) = 64 := by
        rw [andNot16 _ h0] at hf
        rw [n0, show lngB b = (x0.toNat / 16 % 2 == 1) by rw [lngB, n0]]
        simpa using hf
      (conv => whnf)
      split
      · rename_i hg
        have e : oneE b last = 292 := by
          have : headE b last = 292 := by
            rw [hH, if_pos]
            right
            rw [hd] at hg
            simpa using hg
          simp [oneE, this]
        (conv => whnf)
        refine ⟨rfl, ?_⟩
        (conv => whnf)
        refine ⟨_, _, _, Ends.here, ?_⟩
        (conv => whnf)
        refine ⟨rfl, ⟨by rw [hAN]; omega, by rw [hAN]; simp; omega⟩, ?_⟩
        (conv => whnf)
        refine ⟨by kernel_rfl, ?_⟩
        (conv => whnf)
        exact Ends.oneE rfl (rest_free _ _ _ _ _ _) e.symm (by rw [e]; decide)
      rename_i hg
      have hg : lngB b = decide (255 < numB b) := by rw [hd] at hg; simpa using hg
      rw [if_neg (by rintro (h | h) <;> contradiction)] at hH
      (conv => whnf)
      refine ⟨by kernel_rfl, ?_⟩
      (conv => whnf)
      split
      · rename_i hr
        have e : oneE b last = 293 := by
          have : headE b last = 293 := by
            rw [hH, if_pos]
            rw [n1']
            simp at hr
            omega
          simp [oneE, this]
        (conv => whnf)
        refine ⟨rfl, ?_⟩
        (conv => whnf)
        refine ⟨_, _, _, Ends.here, ?_⟩
        (conv => whnf)
        refine ⟨rfl, ⟨by rw [hAN]; omega, by rw [hAN]; simp; omega⟩, ?_⟩
        (conv => whnf)
        refine ⟨by kernel_rfl, ?_⟩
        (conv => whnf)
        exact Ends.oneE rfl (rest_free _ _ _ _ _ _) e.symm (by rw [e]; decide)
      rename_i hr
      have hr : ¬ 3 ≤ last := by simp at hr; omega
      rw [if_neg (by rw [n1']; exact hr)] at hH
      (conv => whnf)
      refine ⟨rfl, ⟨by omega, by rw [hAN]; omega, by rw [hAN]; simp; omega, by rw [hAN]; simp; omega⟩, ?_⟩
      (conv => whnf)
      refine ⟨by kernel_rfl, ?_⟩
      (conv => whnf)
      have hsl : V.sl fr 1 (List.drop (atB b : Int).toNat (List.take (IntKind.i64.wrap ((atB b : Int) + (numB b : Int))).toNat (List.map (fun x => [V.int .u8 x.toNat]) b))) = encB fr (valB b) := by
        rw [hAN, Int.toNat_natCast, Int.toNat_natCast, ← List.map_take, ← List.map_drop, List.drop_take, Nat.add_sub_cancel_left]
        rfl
      have hsr : V.sl fr 1 (List.drop (IntKind.i64.wrap ((atB b : Int) + (numB b : Int))).toNat (List.map (fun x => [V.int .u8 x.toNat]) b)) = encB fr (restB b) := by
        rw [hAN, Int.toNat_natCast, ← List.map_drop]
        rfl
      have hvl : (valB b).length ≤ 1000000 := by simp [valB]; omega
      refine callV_read (b := 0) (read3_ok fr (valB b) q a _ _ _ (encB_free _ _) .int .int) rfl (encB_free _ _) .int .int ⟨.ptr rfl (by omega), .eq_of hsl (encB_free _ _), .free (iptr_fn_free _), trivial⟩ fun c8 h8 hf8 hok => ?_
      obtain ⟨a0, a1, a2, a3, a4, a5, a6, a7, rfl⟩ := eight h8
      have ee : oneE b last = lowE 3 (valB b) := by
        rw [oneE, if_neg (by simp [hH]), n1']
      (conv => whnf)
      refine ⟨rfl, ?_⟩
      (conv => whnf)
      refine ⟨_, _, _, Ends.here, ?_⟩
      (conv => whnf)
      cases he : (lowE 3 (valB b) == 0) with
      | false =>
        have he' : lowE 3 (valB b) ≠ 0 := by simpa using he
        (conv => whnf)
        refine ⟨rfl, ⟨by rw [hAN]; omega, by rw [hAN]; simp; omega⟩, ?_⟩
        (conv => whnf)
        refine ⟨by kernel_rfl, ?_⟩
        (conv => whnf)
        exact Ends.oneE rfl (rest8_free hf8) ee.symm (by rw [ee]; exact he')
      | true =>
        have he' : lowE 3 (valB b) = 0 := by simpa using he
        have h8 := hok he'
        (conv => whnf)
        refine ⟨rfl, ⟨by rw [hAN]; omega, by rw [hAN]; simp; omega⟩, ?_⟩
        (conv => whnf)
        refine ⟨by kernel_rfl, ?_⟩
        (conv => whnf)
        refine Ends.oneK (cells' := readerV fr (restB b) 3 (seen + 1) _ (lowA 3 a (valB b))) rfl (readerV_free _ _ _ _ _ _) ⟨.eq_of hsr (encB_free _ _), .int_of rfl, .int_of hse, .of_eq h8 (cellsR_free _ _)⟩ ee.symm (fun _ => by rw [n1']; rfl)
    case succ.succ.succ.zero =>
      (conv => whnf)
      refine ⟨rfl, _, ⟨by simp, rfl⟩, ?_⟩
      (conv => whnf)
      subst hasg hbody
      refine roundV_of tab_ok mixed rfl (by simp) (show 8 < 10 by omega) ?_
      (conv => whnf)
      refine ⟨rfl, ?_⟩
      (conv => whnf)
      split
      · rename_i hc
        have hc : x1.toNat ≠ 4 := by simp at hc; omega
        (conv => whnf)
        refine ⟨rfl, ?_⟩
        (conv => whnf)
        refine ⟨⟨3 + 1, by omega, ?_⟩, Wk.of id [] ⟨.yld rfl (by omega), .free attributesV_cap, .free attrV_free, .int_of rfl, .int_of rfl, trivial⟩ (LeH.of ⟨⟨by omega, .inl ⟨by simp, _, rfl, rfl, rfl, rfl, rfl, rfl, rfl, .ptr rfl (by omega), .ptr rfl (by omega), .ptr rfl (by omega), .ptr rfl (by omega), .ptr rfl (by omega), .ptr rfl (by omega), .ptr rfl (by omega), trivial⟩⟩,
          ⟨by omega, .inl ⟨by simp, _, rfl, LeB.free (blk := .var true 147 (readerV fr b last seen q a)) (readerV_free _ _ _ _ _ _)⟩⟩, ⟨by omega, .inl ⟨by simp, _, rfl, id, rfl, .ptr rfl (by omega), trivial⟩⟩, ⟨by omega, .inl ⟨by simp, _, rfl, id, rfl, .free .int, trivial⟩⟩, ⟨by omega, .inl ⟨by simp, _, rfl, id, rfl, .free .int, trivial⟩⟩,
          ⟨by omega, .inl ⟨by simp, _, rfl, id, rfl, .free .int, trivial⟩⟩, ⟨by omega, .inl ⟨by simp, _, rfl, id, rfl, .free .int, trivial⟩⟩, ⟨by omega, .inl ⟨by simp, _, rfl, id, rfl, .free .bool, trivial⟩⟩, ⟨by omega, .inl ⟨by simp, _, rfl, id, rfl, .free .int, trivial⟩⟩, trivial⟩ (fun _ _ _ _ h => h) (fun _ _ => rfl) (by omega) (by simp)), by simp only; omega⟩
        intro j hj
        rcases Nat.lt_or_ge j 3 with h | h
        · exact hne j h
        · obtain rfl : j = 3 := by omega
          exact fun e => hc e.symm
      rename_i hc
      have hc : x1.toNat = 4 := by simp at hc; omega
      obtain rfl : x1 = 4 := UInt8.toNat_inj.1 hc
      have n1' : byteN b 1 = 4 := by rw [n1]; rfl
      (conv => whnf)
      have hF : flagsI (byteN b 1) = 128 := by rw [n1']; rfl
      have hH := head_is (last := last) h h4 h3 (by rw [hF]; decide)
      rw [hF] at hH
      cases hf : (bits BinOp.andNot IntKind.u8 (x0.toNat : Int) 16 != 128)
      case true =>
        have e : oneE b last = 292 := by
          have : headE b last = 292 := by
            rw [hH, if_pos]
            left
            rw [andNot16 _ h0] at hf
            rw [n0, show lngB b = (x0.toNat / 16 % 2 == 1) by rw [lngB, n0]]
            simpa using hf
          simp [oneE, this]
        (conv => whnf)
        refine ⟨rfl, ?_⟩
        (conv => whnf)
        refine ⟨_, _, _, Ends.here, ?_⟩
        (conv => whnf)
        refine ⟨rfl, ⟨by rw [hAN]; omega, by rw [hAN]; simp; omega⟩, ?_⟩
        (conv => whnf)
        refine ⟨by kernel_rfl, ?_⟩
        (conv => whnf)
        exact Ends.oneE rfl (rest_free _ _ _ _ _ _) e.symm (by rw [e]; decide)
      have hf : (byteN b 0 : Int) - (if lngB b then 16 else 0) = 128 := by
        rw [andNot16 _ h0] at hf
        rw [n0, show lngB b = (x0.toNat / 16 % 2 == 1) by rw [lngB, n0]]
        simpa using hf
      (conv => whnf)
      split
      · rename_i hg
        have e : oneE b last = 292 := by
          have : headE b last = 292 := by
            rw [hH, if_pos]
            right
            rw [hd] at hg
            simpa using hg
          simp [oneE, this]
        (conv => whnf)
        refine ⟨rfl, ?_⟩
        (conv => whnf)
        refine ⟨_, _, _, Ends.here, ?_⟩
        (conv => whnf)
        refine ⟨rfl, ⟨by rw [hAN]; omega, by rw [hAN]; simp; omega⟩, ?_⟩
        (conv => whnf)
        refine ⟨by kernel_rfl, ?_⟩
        (conv => whnf)
        exact Ends.oneE rfl (rest_free _ _ _ _ _ _) e.symm (by rw [e]; decide)
      rename_i hg
      have hg : lngB b = decide (255 < numB b) := by rw [hd] at hg; simpa using hg
      rw [if_neg (by rintro (h | h) <;> contradiction)] at hH
      (conv => whnf)
      refine ⟨by kernel_rfl, ?_⟩
      (conv => whnf)
      split
      · rename_i hr
        have e : oneE b last = 293 := by
          have : headE b last = 293 := by
            rw [hH, if_pos]
            rw [n1']
            simp at hr
            omega
          simp [oneE, this]
        (conv => whnf)
        refine ⟨rfl, ?_⟩
        (conv => whnf)
        refine ⟨_, _, _, Ends.here, ?_⟩
        (conv => whnf)
        refine ⟨rfl, ⟨by rw [hAN]; omega, by rw [hAN]; simp; omega⟩, ?_⟩
        (conv => whnf)
        refine ⟨by kernel_rfl, ?_⟩
        (conv => whnf)
        exact Ends.oneE rfl (rest_free _ _ _ _ _ _) e.symm (by rw [e]; decide)
      rename_i hr
      have hr : ¬ 4 ≤ last := by simp at hr; omega
      rw [if_neg (by rw [n1']; exact hr)] at hH
      (conv => whnf)
      refine ⟨rfl, ⟨by omega, by rw [hAN]; omega, by rw [hAN]; simp; omega, by rw [hAN]; simp; omega⟩, ?_⟩
      (conv => whnf)
      refine ⟨by kernel_rfl, ?_⟩
      (conv => whnf)
      have hsl : V.sl fr 1 (List.drop (atB b : Int).toNat (List.take (IntKind.i64.wrap ((atB b : Int) + (numB b : Int))).toNat (List.map (fun x => [V.int .u8 x.toNat]) b))) = encB fr (valB b) := by
        rw [hAN, Int.toNat_natCast, Int.toNat_natCast, ← List.map_take, ← List.map_drop, List.drop_take, Nat.add_sub_cancel_left]
        rfl
      have hsr : V.sl fr 1 (List.drop (IntKind.i64.wrap ((atB b : Int) + (numB b : Int))).toNat (List.map (fun x => [V.int .u8 x.toNat]) b)) = encB fr (restB b) := by
        rw [hAN, Int.toNat_natCast, ← List.map_drop]
        rfl
      have hvl : (valB b).length ≤ 1000000 := by simp [valB]; omega
      refine callV_read (b := 0) (read4_ok fr (valB b) q a _ _ _ (encB_free _ _) .int .int) rfl (encB_free _ _) .int .int ⟨.ptr rfl (by omega), .eq_of hsl (encB_free _ _), .free (iptr_fn_free _), trivial⟩ fun c8 h8 hf8 hok => ?_
      obtain ⟨a0, a1, a2, a3, a4, a5, a6, a7, rfl⟩ := eight h8
      have ee : oneE b last = lowE 4 (valB b) := by
        rw [oneE, if_neg (by simp [hH]), n1']
      (conv => whnf)
      refine ⟨rfl, ?_⟩
      (conv => whnf)
      refine ⟨_, _, _, Ends.here, ?_⟩
      (conv => whnf)
      cases he : (lowE 4 (valB b) == 0) with
      | false =>
        have he' : lowE 4 (valB b) ≠ 0 := by simpa using he
        (conv => whnf)
        refine ⟨rfl, ⟨by rw [hAN]; omega, by rw [hAN]; simp; omega⟩, ?_⟩
        (conv => whnf)
        refine ⟨by kernel_rfl, ?_⟩
        (conv => whnf)
        exact Ends.oneE rfl (rest8_free hf8) ee.symm (by rw [ee]; exact he')
      | true =>
        have he' : lowE 4 (valB b) = 0 := by simpa using he
        have h8 := hok he'
        (conv => whnf)
        refine ⟨rfl, ⟨by rw [hAN]; omega, by rw [hAN]; simp; omega⟩, ?_⟩
        (conv => whnf)
        refine ⟨by kernel_rfl, ?_⟩
        (conv => whnf)
        refine Ends.oneK (cells' := readerV fr (restB b) 4 seen _ (lowA 4 a (valB b))) rfl (readerV_free _ _ _ _ _ _) ⟨.eq_of hsr (encB_free _ _), .int_of rfl, .int_of rfl, .of_eq h8 (cellsR_free _ _)⟩ ee.symm (fun _ => by rw [n1']; rfl)
    case succ.succ.succ.succ.zero =>
      (conv => whnf)
      refine ⟨rfl, _, ⟨by simp, rfl⟩, ?_⟩
      (conv => whnf)
      subst hasg hbody
      refine roundV_of tab_ok mixed rfl (by simp) (show 8 < 10 by omega) ?_
      (conv => whnf)
      refine ⟨rfl, ?_⟩
      (conv => whnf)
      split
      · rename_i hc
        have hc : x1.toNat ≠ 5 := by simp at hc; omega
        (conv => whnf)
        refine ⟨rfl, ?_⟩
        (conv => whnf)
        refine ⟨⟨4 + 1, by omega, ?_⟩, Wk.of id [] ⟨.yld rfl (by omega), .free attributesV_cap, .free attrV_free, .int_of rfl, .int_of rfl, trivial⟩ (LeH.of ⟨⟨by omega, .inl ⟨by simp, _, rfl, rfl, rfl, rfl, rfl, rfl, rfl, .ptr rfl (by omega), .ptr rfl (by omega), .ptr rfl (by omega), .ptr rfl (by omega), .ptr rfl (by omega), .ptr rfl (by omega), .ptr rfl (by omega), trivial⟩⟩,
          ⟨by omega, .inl ⟨by simp, _, rfl, LeB.free (blk := .var true 147 (readerV fr b last seen q a)) (readerV_free _ _ _ _ _ _)⟩⟩, ⟨by omega, .inl ⟨by simp, _, rfl, id, rfl, .ptr rfl (by omega), trivial⟩⟩, ⟨by omega, .inl ⟨by simp, _, rfl, id, rfl, .free .int, trivial⟩⟩, ⟨by omega, .inl ⟨by simp, _, rfl, id, rfl, .free .int, trivial⟩⟩,
          ⟨by omega, .inl ⟨by simp, _, rfl, id, rfl, .free .int, trivial⟩⟩, ⟨by omega, .inl ⟨by simp, _, rfl, id, rfl, .free .int, trivial⟩⟩, ⟨by omega, .inl ⟨by simp, _, rfl, id, rfl, .free .bool, trivial⟩⟩, ⟨by omega, .inl ⟨by simp, _, rfl, id, rfl, .free .int, trivial⟩⟩, trivial⟩ (fun _ _ _ _ h => h) (fun _ _ => rfl) (by omega) (by simp)), by simp only; omega⟩
        intro j hj
        rcases Nat.lt_or_ge j 4 with h | h
        · exact hne j h
        · obtain rfl : j = 4 := by omega
          exact fun e => hc e.symm
      rename_i hc
      have hc : x1.toNat = 5 := by simp at hc; omega
      obtain rfl : x1 = 5 := UInt8.toNat_inj.1 hc
      have n1' : byteN b 1 = 5 := by rw [n1]; rfl
      (conv => whnf)
      have hF : flagsI (byteN b 1) = 64 := by rw [n1']; rfl
      have hH := head_is (last := last) h h4 h3 (by rw [hF]; decide)
      rw [hF] at hH
      cases hf : (bits BinOp.andNot IntKind.u8 (x0.toNat : Int) 16 != 64)
      case true =>
        have e : oneE b last = 292 := by
          have : headE b last = 292 := by
            rw [hH, if_pos]
            left
            rw [andNot16 _ h0] at hf
            rw [n0, show lngB b = (x0.toNat / 16 % 2 == 1) by rw [lngB, n0]]
            simpa using hf
          simp [oneE, this]
        (conv => whnf)
        refine ⟨rfl, ?_⟩
        (conv => whnf)
        refine ⟨_, _, _, Ends.here, ?_⟩
        (conv => whnf)
        refine ⟨rfl, ⟨by rw [hAN]; omega, by rw [hAN]; simp; omega⟩, ?_⟩
        (conv => whnf)
        refine ⟨by kernel_rfl, ?_⟩
        (conv => whnf)
        exact Ends.oneE rfl (rest_free _ _ _ _ _ _) e.symm (by rw [e]; decide)
      have hf : (byteN b 0 : Int) - (if lngB b then 16 else 0) = 64 := by
        rw [andNot16 _ h0] at hf
        rw [n0, show lngB b = (x0.toNat / 16 % 2 == 1) by rw [lngB, n0]]
        simpa using hf
      (conv => whnf)
      split
      · rename_i hg
        have e : oneE b last = 292 := by
          have : headE b last = 292 := by
            rw [hH, if_pos]
            right
            rw [hd] at hg
            simpa using hg
          simp [oneE, this]
        (conv => whnf)
        refine ⟨rfl, ?_⟩
        (conv => whnf)
        refine ⟨_, _, _, Ends.here, ?_⟩
        (conv => whnf)
        refine ⟨rfl, ⟨by rw [hAN]; omega, by rw [hAN]; simp; omega⟩, ?_⟩
        (conv => whnf)
        refine ⟨by kernel_rfl, ?_⟩
        (conv => whnf)
        exact Ends.oneE rfl (rest_free _ _ _ _ _ _) e.symm (by rw [e]; decide)
      rename_i hg
      have hg : lngB b = decide (255 < numB b) := by rw [hd] at hg; simpa using hg
      rw [if_neg (by rintro (h | h) <;> contradiction)] at hH
      (conv => whnf)
      refine ⟨by kernel_rfl, ?_⟩
      (conv => whnf)
      split
      · rename_i hr
        have e : oneE b last = 293 := by
          have : headE b last = 293 := by
            rw [hH, if_pos]
            rw [n1']
            simp at hr
            omega
          simp [oneE, this]
        (conv => whnf)
        refine ⟨rfl, ?_⟩
        (conv => whnf)
        refine ⟨_, _, _, Ends.here, ?_⟩
        (conv => whnf)
        refine ⟨rfl, ⟨by rw [hAN]; omega, by rw [hAN]; simp; omega⟩, ?_⟩
        (conv => whnf)
        refine ⟨by kernel_rfl, ?_⟩
        (conv => whnf)
        exact Ends.oneE rfl (rest_free _ _ _ _ _ _) e.symm (by rw [e]; decide)
      rename_i hr
      have hr : ¬ 5 ≤ last := by simp at hr; omega
      rw [if_neg (by rw [n1']; exact hr)] at hH
      (conv => whnf)
      refine ⟨rfl, ⟨by omega, by rw [hAN]; omega, by rw [hAN]; simp; omega, by rw [hAN]; simp; omega⟩, ?_⟩
      (conv => whnf)
      refine ⟨by kernel_rfl, ?_⟩
      (conv => whnf)
      have hsl : V.sl fr 1 (List.drop (atB b : Int).toNat (List.take (IntKind.i64.wrap ((atB b : Int) + (numB b : Int))).toNat (List.map (fun x => [V.int .u8 x.toNat]) b))) = encB fr (valB b) := by
        rw [hAN, Int.toNat_natCast, Int.toNat_natCast, ← List.map_take, ← List.map_drop, List.drop_take, Nat.add_sub_cancel_left]
        rfl
      have hsr : V.sl fr 1 (List.drop (IntKind.i64.wrap ((atB b : Int) + (numB b : Int))).toNat (List.map (fun x => [V.int .u8 x.toNat]) b)) = encB fr (restB b) := by
        rw [hAN, Int.toNat_natCast, ← List.map_drop]
        rfl
      have hvl : (valB b).length ≤ 1000000 := by simp [valB]; omega
      refine callV_read (b := 0) (read5_ok fr (valB b) q a _ _ _ (encB_free _ _) .int .int) rfl (encB_free _ _) .int .int ⟨.ptr rfl (by omega), .eq_of hsl (encB_free _ _), .free (iptr_fn_free _), trivial⟩ fun c8 h8 hf8 hok => ?_
      obtain ⟨a0, a1, a2, a3, a4, a5, a6, a7, rfl⟩ := eight h8
      have ee : oneE b last = lowE 5 (valB b) := by
        rw [oneE, if_neg (by simp [hH]), n1']
      (conv => whnf)
      refine ⟨rfl, ?_⟩
      (conv => whnf)
      refine ⟨_, _, _, Ends.here, ?_⟩
      (conv => whnf)
      cases he : (lowE 5 (valB b) == 0) with
      | false =>
        have he' : lowE 5 (valB b) ≠ 0 := by simpa using he
        (conv => whnf)
        refine ⟨rfl, ⟨by rw [hAN]; omega, by rw [hAN]; simp; omega⟩, ?_⟩
        (conv => whnf)
        refine ⟨by kernel_rfl, ?_⟩
        (conv => whnf)
        exact Ends.oneE rfl (rest8_free hf8) ee.symm (by rw [ee]; exact he')
      | true =>
        have he' : lowE 5 (valB b) = 0 := by simpa using he
        have h8 := hok he'
        (conv => whnf)
        refine ⟨rfl, ⟨by rw [hAN]; omega, by rw [hAN]; simp; omega⟩, ?_⟩
        (conv => whnf)
        refine ⟨by kernel_rfl, ?_⟩
        (conv => whnf)
        refine Ends.oneK (cells' := readerV fr (restB b) 5 seen _ (lowA 5 a (valB b))) rfl (readerV_free _ _ _ _ _ _) ⟨.eq_of hsr (encB_free _ _), .int_of rfl, .int_of rfl, .of_eq h8 (cellsR_free _ _)⟩ ee.symm (fun _ => by rw [n1']; rfl)
    case succ.succ.succ.succ.succ.zero =>
      (conv => whnf)
      refine ⟨rfl, _, ⟨by simp, rfl⟩, ?_⟩
      (conv => whnf)
      subst hasg hbody
      refine roundV_of tab_ok mixed rfl (by simp) (show 8 < 10 by omega) ?_
      (conv => whnf)
      refine ⟨rfl, ?_⟩
      (conv => whnf)
      split
      · rename_i hc
        have hc : x1.toNat ≠ 8 := by simp at hc; omega
        (conv => whnf)
        refine ⟨rfl, ?_⟩
        (conv => whnf)
        refine ⟨⟨5 + 1, by omega, ?_⟩, Wk.of id [] ⟨.yld rfl (by omega), .free attributesV_cap, .free attrV_free, .int_of rfl, .int_of rfl, trivial⟩ (LeH.of ⟨⟨by omega, .inl ⟨by simp, _, rfl, rfl, rfl, rfl, rfl, rfl, rfl, .ptr rfl (by omega), .ptr rfl (by omega), .ptr rfl (by omega), .ptr rfl (by omega), .ptr rfl (by omega), .ptr rfl (by omega), .ptr rfl (by omega), trivial⟩⟩,
          ⟨by omega, .inl ⟨by simp, _, rfl, LeB.free (blk := .var true 147 (readerV fr b last seen q a)) (readerV_free _ _ _ _ _ _)⟩⟩, ⟨by omega, .inl ⟨by simp, _, rfl, id, rfl, .ptr rfl (by omega), trivial⟩⟩, ⟨by omega, .inl ⟨by simp, _, rfl, id, rfl, .free .int, trivial⟩⟩, ⟨by omega, .inl ⟨by simp, _, rfl, id, rfl, .free .int, trivial⟩⟩,
          ⟨by omega, .inl ⟨by simp, _, rfl, id, rfl, .free .int, trivial⟩⟩, ⟨by omega, .inl ⟨by simp, _, rfl, id, rfl, .free .int, trivial⟩⟩, ⟨by omega, .inl ⟨by simp, _, rfl, id, rfl, .free .bool, trivial⟩⟩, ⟨by omega, .inl ⟨by simp, _, rfl, id, rfl, .free .int, trivial⟩⟩, trivial⟩ (fun _ _ _ _ h => h) (fun _ _ => rfl) (by omega) (by simp)), by simp only; omega⟩
        intro j hj
        rcases Nat.lt_or_ge j 5 with h | h
        · exact hne j h
        · obtain rfl : j = 5 := by omega
          exact fun e => hc e.symm
      rename_i hc
      have hc : x1.toNat = 8 := by simp at hc; omega
      obtain rfl : x1 = 8 := UInt8.toNat_inj.1 hc
      have n1' : byteN b 1 = 8 := by rw [n1]; rfl
      (conv => whnf)
      have hF : flagsI (byteN b 1) = 192 := by rw [n1']; rfl
      have hH := head_is (last := last) h h4 h3 (by rw [hF]; decide)
      rw [hF] at hH
      cases hf : (bits BinOp.andNot IntKind.u8 (x0.toNat : Int) 16 != 192)
      case true =>
        have e : oneE b last = 292 := by
          have : headE b last = 292 := by
            rw [hH, if_pos]
            left
            rw [andNot16 _ h0] at hf
            rw [n0, show lngB b = (x0.toNat / 16 % 2 == 1) by rw [lngB, n0]]
            simpa using hf
          simp [oneE, this]
        (conv => whnf)
        refine ⟨rfl, ?_⟩
        (conv => whnf)
        refine ⟨_, _, _, Ends.here, ?_⟩
        (conv => whnf)
        refine ⟨rfl, ⟨by rw [hAN]; omega, by rw [hAN]; simp; omega⟩, ?_⟩
        (conv => whnf)
        refine ⟨by kernel_rfl, ?_⟩
        (conv => whnf)
        exact Ends.oneE rfl (rest_free _ _ _ _ _ _) e.symm (by rw [e]; decide)
      have hf : (byteN b 0 : Int) - (if lngB b then 16 else 0) = 192 := by
        rw [andNot16 _ h0] at hf
        rw [n0, show lngB b = (x0.toNat / 16 % 2 == 1) by rw [lngB, n0]]
        simpa using hf
      (conv => whnf)
      split
      · rename_i hg
        have e : oneE b last = 292 := by
          have : headE b last = 292 := by
            rw [hH, if_pos]
            right
            rw [hd] at hg
            simpa using hg
          simp [oneE, this]
        (conv => whnf)
        refine ⟨rfl, ?_⟩
        (conv => whnf)
        refine ⟨_, _, _, Ends.here, ?_⟩
        (conv => whnf)
        refine ⟨rfl, ⟨by rw [hAN]; omega, by rw [hAN]; simp; omega⟩, ?_⟩
        (conv => whnf)
        refine ⟨by kernel_rfl, ?_⟩
        (conv => whnf)
        exact Ends.oneE rfl (rest_free _ _ _ _ _ _) e.symm (by rw [e]; decide)
      rename_i hg
      have hg : lngB b = decide (255 < numB b) := by rw [hd] at hg; simpa using hg
      rw [if_neg (by rintro (h | h) <;> contradiction)] at hH
      (conv => whnf)
      refine ⟨by kernel_rfl, ?_⟩
      (conv => whnf)
      split
      · rename_i hr
        have e : oneE b last = 293 := by
          have : headE b last = 293 := by
            rw [hH, if_pos]
            rw [n1']
            simp at hr
            omega
          simp [oneE, this]
        (conv => whnf)
        refine ⟨rfl, ?_⟩
        (conv => whnf)
        refine ⟨_, _, _, Ends.here, ?_⟩
        (conv => whnf)
        refine ⟨rfl, ⟨by rw [hAN]; omega, by rw [hAN]; simp; omega⟩, ?_⟩
        (conv => whnf)
        refine ⟨by kernel_rfl, ?_⟩
        (conv => whnf)
        exact Ends.oneE rfl (rest_free _ _ _ _ _ _) e.symm (by rw [e]; decide)
      rename_i hr
      have hr : ¬ 8 ≤ last := by simp at hr; omega
      rw [if_neg (by rw [n1']; exact hr)] at hH
      (conv => whnf)
      refine ⟨rfl, ⟨by omega, by rw [hAN]; omega, by rw [hAN]; simp; omega, by rw [hAN]; simp; omega⟩, ?_⟩
      (conv => whnf)
      refine ⟨by kernel_rfl, ?_⟩
      (conv => whnf)
      have hsl : V.sl fr 1 (List.drop (atB b : Int).toNat (List.take (IntKind.i64.wrap ((atB b : Int) + (numB b : Int))).toNat (List.map (fun x => [V.int .u8 x.toNat]) b))) = encB fr (valB b) := by
        rw [hAN, Int.toNat_natCast, Int.toNat_natCast, ← List.map_take, ← List.map_drop, List.drop_take, Nat.add_sub_cancel_left]
        rfl
      have hsr : V.sl fr 1 (List.drop (IntKind.i64.wrap ((atB b : Int) + (numB b : Int))).toNat (List.map (fun x => [V.int .u8 x.toNat]) b)) = encB fr (restB b) := by
        rw [hAN, Int.toNat_natCast, ← List.map_drop]
        rfl
      have hvl : (valB b).length ≤ 1000000 := by simp [valB]; omega
      refine callV_read (b := 0) (read8_ok fr (valB b) hvl q a _ _ _ (encB_free _ _) .int .int) rfl (encB_free _ _) .int .int ⟨.ptr rfl (by omega), .eq_of hsl (encB_free _ _), trivial⟩ fun c8 h8 hf8 hok => ?_
      obtain ⟨a0, a1, a2, a3, a4, a5, a6, a7, rfl⟩ := eight h8
      have ee : oneE b last = lowE 8 (valB b) := by
        rw [oneE, if_neg (by simp [hH]), n1']
      (conv => whnf)
      refine ⟨rfl, ?_⟩
      (conv => whnf)
      refine ⟨_, _, _, Ends.here, ?_⟩
      (conv => whnf)
      cases he : (lowE 8 (valB b) == 0) with
      | false =>
        have he' : lowE 8 (valB b) ≠ 0 := by simpa using he
        (conv => whnf)
        refine ⟨rfl, ⟨by rw [hAN]; omega, by rw [hAN]; simp; omega⟩, ?_⟩
        (conv => whnf)
        refine ⟨by kernel_rfl, ?_⟩
        (conv => whnf)
        exact Ends.oneE rfl (rest8_free hf8) ee.symm (by rw [ee]; exact he')
      | true =>
        have he' : lowE 8 (valB b) = 0 := by simpa using he
        have h8 := hok he'
        (conv => whnf)
        refine ⟨rfl, ⟨by rw [hAN]; omega, by rw [hAN]; simp; omega⟩, ?_⟩
        (conv => whnf)
        refine ⟨by kernel_rfl, ?_⟩
        (conv => whnf)
        refine Ends.oneK (cells' := readerV fr (restB b) 8 seen _ (lowA 8 a (valB b))) rfl (readerV_free _ _ _ _ _ _) ⟨.eq_of hsr (encB_free _ _), .int_of rfl, .int_of rfl, .of_eq h8 (cellsR_free _ _)⟩ ee.symm (fun _ => by rw [n1']; rfl)
    case succ.succ.succ.succ.succ.succ.zero =>
      have hF := flags_none hne
      have e : oneE b last = 291 := by
        have : headE b last = 291 := by
          unfold headE
          rw [if_neg (by omega), if_neg (by rintro ⟨h1, h2⟩; have := h4 h1; omega), if_neg (by omega), if_pos (by rw [n1, hF]; decide)]
        simp [oneE, this]
      (conv => whnf)
      refine ⟨_, _, _, Ends.here, ?_⟩
      (conv => whnf)
      refine ⟨rfl, ⟨by rw [hAN]; omega, by rw [hAN]; simp; omega⟩, ?_⟩
      (conv => whnf)
      refine ⟨by kernel_rfl, ?_⟩
      (conv => whnf)
      exact Ends.oneE rfl (rest_free _ _ _ _ _ _) e.symm (by rw [e]; decide)
  | true =>
    (conv => whnf)
    intro _
    (conv => whnf)
    split
    · rename_i h3
      have h3 : b.length < 4 := by rw [List.length_map] at h3; simp at h3; omega
      have e : oneE b last = 290 := by
        have : headE b last = 290 := by
          unfold headE
          rw [if_neg (by omega), if_pos ⟨hL, h3⟩]
        simp [oneE, this]
      (conv => whnf)
      exact Ends.oneE rfl (readerV_free _ _ _ _ _ _) e.symm (by rw [e]; decide)
    rename_i h4'
    have h4' : 4 ≤ b.length := by rw [List.length_map] at h4'; simp at h4'; omega
    obtain ⟨x3, r3, rfl⟩ : ∃ x3 r3, r = x3 :: r3 := by
      rcases r with _ | ⟨x3, r3⟩
      · rw [hX] at h4'; simp at h4'
      · exact ⟨x3, r3, rfl⟩
    have n3 : byteN b 3 = x3.toNat := by rw [hX]; rfl
    have hx3 := x3.toNat_lt
    have eN : numB b = 256 * x2.toNat + x3.toNat := by simp [numB, hL, n2, n3]
    have eA : atB b = 4 := by simp [atB, hL]
    have eO := or_len x2 x3
    (conv => whnf)
    refine ⟨by decide, ?_⟩
    (conv => whnf)
    refine ⟨rfl, [cB x3], ⟨by simp, by rw [hX]; rfl⟩, ?_⟩
    (conv => whnf)
    refine ⟨by kernel_rfl, ?_⟩
    (conv => whnf)
    refine ⟨by kernel_rfl, ?_⟩
    (conv => whnf)
    have w3 : IntKind.i64.wrap (4 + bits .or .i64 (IntKind.i64.wrap (IntKind.i64.wrap (x2.toNat : Int) * 2 ^ (min (Int.toNat 8) IntKind.i64.bits))) (IntKind.i64.wrap (x3.toNat : Int))) = (atB b + numB b : Nat) := by rw [eO, eN, eA, wrap64] <;> omega
    split
    · rename_i h3
      have h3 : b.length < atB b + numB b := by rw [w3, List.length_map] at h3; simp at h3; omega
      have e : oneE b last = 290 := by
        have : headE b last = 290 := by
          unfold headE
          rw [if_neg (by omega), if_neg (by rintro ⟨_, h2⟩; omega), if_pos h3]
        simp [oneE, this]
      (conv => whnf)
      exact Ends.oneE rfl (readerV_free _ _ _ _ _ _) e.symm (by rw [e]; decide)
    rename_i h3
    have h3 : atB b + numB b ≤ b.length := by rw [w3, List.length_map] at h3; simp at h3; omega
    have h4 : lngB b = true → 4 ≤ b.length := fun _ => h4'
    have hAN : IntKind.i64.wrap ((atB b : Int) + (numB b : Int)) = (atB b + numB b : Nat) := by rw [wrap64] <;> omega
    have hd : decide ((255 : Int) < (numB b : Int)) = decide (255 < numB b) := decide_eq_decide.2 (by omega)
    have hse : IntKind.i64.wrap ((seen : Int) + 1) = (seen + 1 : Nat) := by rw [wrap64] <;> omega
    (conv => whnf)
    refine callV_pure attributes_ok trivial ?_
    (conv => whnf)
    refine callV_loop [(1, .ptr 1 0), (3, .ptr 2 0), (4, .ptr 3 0), (5, .ptr 4 0), (6, .ptr 5 0), (7, .ptr 6 0), (8, .ptr 7 0)] ⟨rfl, rfl, rfl, rfl, rfl, rfl, rfl, trivial⟩ fun asg' body' hasg hbody => ?_
    refine callV_of (fn := Go.Proofs.Tryz.f203) (body := _) tab_ok mixed rfl rfl (by decide) (by simp [Go.Proofs.Tryz.f203]) ?_
    (conv => whnf)
    intro _
    (conv => whnf)
    refine vcg_loop tab_ok mixed (fun k : {k : Nat // k ≤ 6 ∧ ∀ j, j < k → codesL.getD j 0 ≠ x1.toNat} => ⟨[(0, .yld 8), (1, .iptr true [.sl true 5 attrRows]), (5, .sl true 5 attrRows), (6, .int .i64 6), (7, cI k.1)], (8, some (.loop 141 [(1, .ptr 1 0), (3, .ptr 2 0), (4, .ptr 3 0), (5, .ptr 4 0), (6, .ptr 5 0), (7, .ptr 6 0), (8, .ptr 7 0)] [72] asg' body' .ready none)) :: oneH fr b last seen q a x0 x1 291, 9⟩) (fun k => 6 - k.1) ⟨0, by omega, by omega⟩ ?_ (fun k => ?_)
    · refine Wk.of id [] ⟨.yld rfl (by omega), .free attributesV_cap, .free attrV_free, .int_of rfl, .int_of rfl, trivial⟩ (LeH.of ⟨⟨by omega, .inl ⟨by simp, _, rfl, rfl, rfl, rfl, rfl, rfl, rfl, .ptr rfl (by omega), .ptr rfl (by omega), .ptr rfl (by omega), .ptr rfl (by omega), .ptr rfl (by omega), .ptr rfl (by omega), .ptr rfl (by omega), trivial⟩⟩,
        ⟨by omega, .inl ⟨by simp, _, rfl, LeB.free (blk := .var true 147 (readerV fr b last seen q a)) (readerV_free _ _ _ _ _ _)⟩⟩, ⟨by omega, .inl ⟨by simp, _, rfl, id, rfl, .ptr rfl (by omega), trivial⟩⟩, ⟨by omega, .inl ⟨by simp, _, rfl, id, rfl, .int_of rfl, trivial⟩⟩, ⟨by omega, .inl ⟨by simp, _, rfl, id, rfl, .int_of rfl, trivial⟩⟩,
        ⟨by omega, .inl ⟨by simp, _, rfl, id, rfl, .int_of (by rw [eO, eN]), trivial⟩⟩, ⟨by omega, .inl ⟨by simp, _, rfl, id, rfl, .int_of (by rw [eA]; rfl), trivial⟩⟩, ⟨by omega, .inl ⟨by simp, _, rfl, id, rfl, .bool_of hL.symm, trivial⟩⟩, ⟨by omega, .inl ⟨by simp, _, rfl, id, rfl, .int_of rfl, trivial⟩⟩, trivial⟩ (fun _ _ _ _ h => h) (fun _ _ => rfl) (by omega) (by simp))
    obtain ⟨k, hk, hne⟩ := k
    rcases k with _ | _ | _ | _ | _ | _ | _ | k
    case succ.succ.succ.succ.succ.succ.succ => omega
    case zero =>
      (conv => whnf)
      refine ⟨rfl, _, ⟨by simp, rfl⟩, ?_⟩
      (conv => whnf)
      subst hasg hbody
      refine roundV_of tab_ok mixed rfl (by simp) (show 8 < 10 by omega) ?_
      (conv => whnf)
      refine ⟨rfl, ?_⟩
      (conv => whnf)
      split
      · rename_i hc
        have hc : x1.toNat ≠ 1 := by simp at hc; omega
        (conv => whnf)
        refine ⟨rfl, ?_⟩
        (conv => whnf)
        refine ⟨⟨0 + 1, by omega, ?_⟩, Wk.of id [] ⟨.yld rfl (by omega), .free attributesV_cap, .free attrV_free, .int_of rfl, .int_of rfl, trivial⟩ (LeH.of ⟨⟨by omega, .inl ⟨by simp, _, rfl, rfl, rfl, rfl, rfl, rfl, rfl, .ptr rfl (by omega), .ptr rfl (by omega), .ptr rfl (by omega), .ptr rfl (by omega), .ptr rfl (by omega), .ptr rfl (by omega), .ptr rfl (by omega), trivial⟩⟩,
          ⟨by omega, .inl ⟨by simp, _, rfl, LeB.free (blk := .var true 147 (readerV fr b last seen q a)) (readerV_free _ _ _ _ _ _)⟩⟩, ⟨by omega, .inl ⟨by simp, _, rfl, id, rfl, .ptr rfl (by omega), trivial⟩⟩, ⟨by omega, .inl ⟨by simp, _, rfl, id, rfl, .free .int, trivial⟩⟩, ⟨by omega, .inl ⟨by simp, _, rfl, id, rfl, .free .int, trivial⟩⟩,
          ⟨by omega, .inl ⟨by simp, _, rfl, id, rfl, .free .int, trivial⟩⟩, ⟨by omega, .inl ⟨by simp, _, rfl, id, rfl, .free .int, trivial⟩⟩, ⟨by omega, .inl ⟨by simp, _, rfl, id, rfl, .free .bool, trivial⟩⟩, ⟨by omega, .inl ⟨by simp, _, rfl, id, rfl, .free .int, trivial⟩⟩, trivial⟩ (fun _ _ _ _ h => h) (fun _ _ => rfl) (by omega) (by simp)), by simp only; omega⟩
        intro j hj
        rcases Nat.lt_or_ge j 0 with h | h
        · exact hne j h
        · obtain rfl : j = 0 := by omega
          exact fun e => hc e.symm
      rename_i hc
      have hc : x1.toNat = 1 := by simp at hc; omega
      obtain rfl : x1 = 1 := UInt8.toNat_inj.1 hc
      have n1' : byteN b 1 = 1 := by rw [n1]; rfl
      (conv => whnf)
      have hF : flagsI (byteN b 1) = 64 := by rw [n1']; rfl
      have hH := head_is (last := last) h h4 h3 (by rw [hF]; decide)
      rw [hF] at hH
      cases hf : (bits BinOp.andNot IntKind.u8 (x0.toNat : Int) 16 != 64)
      case true =>
        have e : oneE b last = 292 := by
          have : headE b last = 292 := by
            rw [hH, if_pos]
            left
            rw [andNot16 _ h0] at hf
            rw [n0, show lngB b = (x0.toNat / 16 % 2 == 1) by rw [lngB, n0]]
            simpa using hf
          simp [oneE, this]
        (conv => whnf)
        refine ⟨rfl, ?_⟩
        (conv => whnf)
        refine ⟨_, _, _, Ends.here, ?_⟩
        (conv => whnf)
        refine ⟨rfl, ⟨by rw [hAN]; omega, by rw [hAN]; simp; omega⟩, ?_⟩
        (conv => whnf)
        refine ⟨by kernel_rfl, ?_⟩
        (conv => whnf)
        exact Ends.oneE rfl (rest_free _ _ _ _ _ _) e.symm (by rw [e]; decide)
      have hf : (byteN b 0 : Int) - (if lngB b then 16 else 0) = 64 := by
        rw [andNot16 _ h0] at hf
        rw [n0, show lngB b = (x0.toNat / 16 % 2 == 1) by rw [lngB, n0]]
        simpa using hf
      (conv => whnf)
      split
      · rename_i hg
        have e : oneE b last = 292 := by
          have : headE b last = 292 := by
            rw [hH, if_pos]
            right
            rw [hd] at hg
            simpa using hg
          simp [oneE, this]
        (conv => whnf)
        refine ⟨rfl, ?_⟩
        (conv => whnf)
        refine ⟨_, _, _, Ends.here, ?_⟩
        (conv => whnf)
        refine ⟨rfl, ⟨by rw [hAN]; omega, by rw [hAN]; simp; omega⟩, ?_⟩
        (conv => whnf)
        refine ⟨by kernel_rfl, ?_⟩
        (conv => whnf)
        exact Ends.oneE rfl (rest_free _ _ _ _ _ _) e.symm (by rw [e]; decide)
      rename_i hg
      have hg : lngB b = decide (255 < numB b) := by rw [hd] at hg; simpa using hg
      rw [if_neg (by rintro (h | h) <;> contradiction)] at hH
      (conv => whnf)
      refine ⟨by kernel_rfl, ?_⟩
      (conv => whnf)
      split
      · rename_i hr
        have e : oneE b last = 293 := by
          have : headE b last = 293 := by
            rw [hH, if_pos]
            rw [n1']
            simp at hr
            omega
          simp [oneE, this]
        (conv => whnf)
        refine ⟨rfl, ?_⟩
        (conv => whnf)
        refine ⟨_, _, _, Ends.here, ?_⟩
        (conv => whnf)
        refine ⟨rfl, ⟨by rw [hAN]; omega, by rw [hAN]; simp; omega⟩, ?_⟩
        (conv => whnf)
        refine ⟨by kernel_rfl, ?_⟩
        (conv => whnf)
        exact Ends.oneE rfl (rest_free _ _ _ _ _ _) e.symm (by rw [e]; decide)
      rename_i hr
      have hr : ¬ 1 ≤ last := by simp at hr; omega
      rw [if_neg (by rw [n1']; exact hr)] at hH
      (conv => whnf)
      refine ⟨rfl, ⟨by omega, by rw [hAN]; omega, by rw [hAN]; simp; omega, by rw [hAN]; simp; omega⟩, ?_⟩
      (conv => whnf)
      refine ⟨by kernel_rfl, ?_⟩
      (conv => whnf)
      have hsl : V.sl fr 1 (List.drop (atB b : Int).toNat (List.take (IntKind.i64.wrap ((atB b : Int) + (numB b : Int))).toNat (List.map (fun x => [V.int .u8 x.toNat]) b))) = encB fr (valB b) := by
        rw [hAN, Int.toNat_natCast, Int.toNat_natCast, ← List.map_take, ← List.map_drop, List.drop_take, Nat.add_sub_cancel_left]
        rfl
      have hsr : V.sl fr 1 (List.drop (IntKind.i64.wrap ((atB b : Int) + (numB b : Int))).toNat (List.map (fun x => [V.int .u8 x.toNat]) b)) = encB fr (restB b) := by
        rw [hAN, Int.toNat_natCast, ← List.map_drop]
        rfl
      have hvl : (valB b).length ≤ 1000000 := by simp [valB]; omega
      refine callV_read (b := 0) (read1_ok fr (valB b) q a _ _ _ (encB_free _ _) .int .int) rfl (encB_free _ _) .int .int ⟨.ptr rfl (by omega), .eq_of hsl (encB_free _ _), trivial⟩ fun c8 h8 hf8 hok => ?_
      obtain ⟨a0, a1, a2, a3, a4, a5, a6, a7, rfl⟩ := eight h8
      have ee : oneE b last = lowE 1 (valB b) := by
        rw [oneE, if_neg (by simp [hH]), n1']
      (conv => whnf)
      refine ⟨rfl, ?_⟩
      (conv => whnf)
      refine ⟨_, _, _, Ends.here, ?_⟩
      (conv => whnf)
      cases he : (lowE 1 (valB b) == 0) with
      | false =>
        have he' : lowE 1 (valB b) ≠ 0 := by simpa using he
        (conv => whnf)
        refine ⟨rfl, ⟨by rw [hAN]; omega, by rw [hAN]; simp; omega⟩, ?_⟩
        (conv => whnf)
        refine ⟨by kernel_rfl, ?_⟩
        (conv => whnf)
        exact Ends.oneE rfl (rest8_free hf8) ee.symm (by rw [ee]; exact he')
      | true =>
        have he' : lowE 1 (valB b) = 0 := by simpa using he
        have h8 := hok he'
        (conv => whnf)
        refine ⟨rfl, ⟨by rw [hAN]; omega, by rw [hAN]; simp; omega⟩, ?_⟩
        (conv => whnf)
        refine ⟨by kernel_rfl, ?_⟩
        (conv => whnf)
        refine Ends.oneK (cells' := readerV fr (restB b) 1 (seen + 1) _ (lowA 1 a (valB b))) rfl (readerV_free _ _ _ _ _ _) ⟨.eq_of hsr (encB_free _ _), .int_of rfl, .int_of hse, .of_eq h8 (cellsR_free _ _)⟩ ee.symm (fun _ => by rw [n1']; rfl)
    case succ.zero =>
      (conv => whnf)
      refine ⟨rfl, _, ⟨by simp, rfl⟩, ?_⟩
      (conv => whnf)
      subst hasg hbody
      refine roundV_of tab_ok mixed rfl (by simp) (show 8 < 10 by omega) ?_
      (conv => whnf)
      refine ⟨rfl, ?_⟩
      (conv => whnf)
      split
      · rename_i hc
        have hc : x1.toNat ≠ 2 := by simp at hc; omega
        (conv => whnf)
        refine ⟨rfl, ?_⟩
        (conv => whnf)
        refine ⟨⟨1 + 1, by omega, ?_⟩, Wk.of id [] ⟨.yld rfl (by omega), .free attributesV_cap, .free attrV_free, .int_of rfl, .int_of rfl, trivial⟩ (LeH.of ⟨⟨by omega, .inl ⟨by simp, _, rfl, rfl, rfl, rfl, rfl, rfl, rfl, .ptr rfl (by omega), .ptr rfl (by omega), .ptr rfl (by omega), .ptr rfl (by omega), .ptr rfl (by omega), .ptr rfl (by omega), .ptr rfl (by omega), trivial⟩⟩,
          ⟨by omega, .inl ⟨by simp, _, rfl, LeB.free (blk := .var true 147 (readerV fr b last seen q a)) (readerV_free _ _ _ _ _ _)⟩⟩, ⟨by omega, .inl ⟨by simp, _, rfl, id, rfl, .ptr rfl (by omega), trivial⟩⟩, ⟨by omega, .inl ⟨by simp, _, rfl, id, rfl, .free .int, trivial⟩⟩, ⟨by omega, .inl ⟨by simp, _, rfl, id, rfl, .free .int, trivial⟩⟩,
          ⟨by omega, .inl ⟨by simp, _, rfl, id, rfl, .free .int, trivial⟩⟩, ⟨by omega, .inl ⟨by simp, _, rfl, id, rfl, .free .int, trivial⟩⟩, ⟨by omega, .inl ⟨by simp, _, rfl, id, rfl, .free .bool, trivial⟩⟩, ⟨by omega, .inl ⟨by simp, _, rfl, id, rfl, .free .int, trivial⟩⟩, trivial⟩ (fun _ _ _ _ h => h) (fun _ _ => rfl) (by omega) (by simp)), by simp only; omega⟩
        intro j hj
        rcases Nat.lt_or_ge j 1 with h | h
        · exact hne j h
        · obtain rfl : j = 1 := by omega
          exact fun e => hc e.symm
      rename_i hc
      have hc : x1.toNat = 2 := by simp at hc; omega
      obtain rfl : x1 = 2 := UInt8.toNat_inj.1 hc
      have n1' : byteN b 1 = 2 := by rw [n1]; rfl
      (conv => whnf)
      have hF : flagsI (byteN b 1) = 64 := by rw [n1']; rfl
      have hH := head_is (last := last) h h4 h3 (by rw [hF]; decide)
      rw [hF] at hH
      cases hf : (bits BinOp.andNot IntKind.u8 (x0.toNat : Int) 16 != 64)
      case true =>
        have e : oneE b last = 292 := by
          have : headE b last = 292 := by
            rw [hH, if_pos]
            left
            rw [andNot16 _ h0] at hf
            rw [n0, show lngB b = (x0.toNat / 16 % 2 == 1) by rw [lngB, n0]]
            simpa using hf
          simp [oneE, this]
        (conv => whnf)
        refine ⟨rfl, ?_⟩
        (conv => whnf)
        refine ⟨_, _, _, Ends.here, ?_⟩
        (conv => whnf)
        refine ⟨rfl, ⟨by rw [hAN]; omega, by rw [hAN]; simp; omega⟩, ?_⟩
        (conv => whnf)
        refine ⟨by kernel_rfl, ?_⟩
        (conv => whnf)
        exact Ends.oneE rfl (rest_free _ _ _ _ _ _) e.symm (by rw [e]; decide)
      have hf : (byteN b 0 : Int) - (if lngB b then 16 else 0) = 64 := by
        rw [andNot16 _ h0] at hf
        rw [n0, show lngB b = (x0.toNat / 16 % 2 == 1) by rw [lngB, n0]]
        simpa using hf
      (conv => whnf)
      split
      · rename_i hg
        have e : oneE b last = 292 := by
          have : headE b last = 292 := by
            rw [hH, if_pos]
            right
            rw [hd] at hg
            simpa using hg
          simp [oneE, this]
        (conv => whnf)
        refine ⟨rfl, ?_⟩
        (conv => whnf)
        refine ⟨_, _, _, Ends.here, ?_⟩
        (conv => whnf)
        refine ⟨rfl, ⟨by rw [hAN]; omega, by rw [hAN]; simp; omega⟩, ?_⟩
        (conv => whnf)
        refine ⟨by kernel_rfl, ?_⟩
        (conv => whnf)
        exact Ends.oneE rfl (rest_free _ _ _ _ _ _) e.symm (by rw [e]; decide)
      rename_i hg
      have hg : lngB b = decide (255 < numB b) := by rw [hd] at hg; simpa using hg
      rw [if_neg (by rintro (h | h) <;> contradiction)] at hH
      (conv => whnf)
      refine ⟨by kernel_rfl, ?_⟩
      (conv => whnf)
      split
      · rename_i hr
        have e : oneE b last = 293 := by
          have : headE b last = 293 := by
            rw [hH, if_pos]
            rw [n1']
            simp at hr
            omega
          simp [oneE, this]
        (conv => whnf)
        refine ⟨rfl, ?_⟩
        (conv => whnf)
        refine ⟨_, _, _, Ends.here, ?_⟩
        (conv => whnf)
        refine ⟨rfl, ⟨by rw [hAN]; omega, by rw [hAN]; simp; omega⟩, ?_⟩
        (conv => whnf)
        refine ⟨by kernel_rfl, ?_⟩
        (conv => whnf)
        exact Ends.oneE rfl (rest_free _ _ _ _ _ _) e.symm (by rw [e]; decide)
      rename_i hr
      have hr : ¬ 2 ≤ last := by simp at hr; omega
      rw [if_neg (by rw [n1']; exact hr)] at hH
      (conv => whnf)
      refine ⟨rfl, ⟨by omega, by rw [hAN]; omega, by rw [hAN]; simp; omega, by rw [hAN]; simp; omega⟩, ?_⟩
      (conv => whnf)
      refine ⟨by kernel_rfl, ?_⟩
      (conv => whnf)
      obtain rfl := hq (by omega)
      have hsl : V.sl fr 1 (List.drop (atB b : Int).toNat (List.take (IntKind.i64.wrap ((atB b : Int) + (numB b : Int))).toNat (List.map (fun x => [V.int .u8 x.toNat]) b))) = encB fr (valB b) := by
        rw [hAN, Int.toNat_natCast, Int.toNat_natCast, ← List.map_take, ← List.map_drop, List.drop_take, Nat.add_sub_cancel_left]
        rfl
      have hsr : V.sl fr 1 (List.drop (IntKind.i64.wrap ((atB b : Int) + (numB b : Int))).toNat (List.map (fun x => [V.int .u8 x.toNat]) b)) = encB fr (restB b) := by
        rw [hAN, Int.toNat_natCast, ← List.map_drop]
        rfl
      have hvl : (valB b).length ≤ 1000000 := by simp [valB]; omega
      refine callV_read (b := 0) (readRoute_ok fr (valB b) hvl a _ _ _ (encB_free _ _) .int .int) rfl (encB_free _ _) .int .int ⟨.ptr rfl (by omega), .eq_of hsl (encB_free _ _), trivial⟩ fun c8 h8 hf8 hok => ?_
      obtain ⟨a0, a1, a2, a3, a4, a5, a6, a7, rfl⟩ := eight h8
      have ee : oneE b last = lowE 2 (valB b) := by
        rw [oneE, if_neg (by simp [hH]), n1']
      (conv => whnf)
      refine ⟨rfl, ?_⟩
      (conv => whnf)
      refine ⟨_, _, _, Ends.here, ?_⟩
      (conv => whnf)
      cases he : (lowE 2 (valB b) == 0) with
      | false =>
        have he' : lowE 2 (valB b) ≠ 0 := by simpa using he
        (conv => whnf)
        refine ⟨rfl, ⟨by rw [hAN]; omega, by rw [hAN]; simp; omega⟩, ?_⟩
        (conv => whnf)
        refine ⟨by kernel_rfl, ?_⟩
        (conv => whnf)
        exact Ends.oneE rfl (rest8_free hf8) ee.symm (by rw [ee]; exact he')
      | true =>
        have he' : lowE 2 (valB b) = 0 := by simpa using he
        have h8 := hok he'
        (conv => whnf)
        refine ⟨rfl, ⟨by rw [hAN]; omega, by rw [hAN]; simp; omega⟩, ?_⟩
        (conv => whnf)
        refine ⟨by kernel_rfl, ?_⟩
        (conv => whnf)
        refine Ends.oneK (cells' := readerV fr (restB b) 2 (seen + 1) _ (lowA 2 a (valB b))) rfl (readerV_free _ _ _ _ _ _) ⟨.eq_of hsr (encB_free _ _), .int_of rfl, .int_of hse, .of_eq h8 (cellsR_free _ _)⟩ ee.symm (fun _ => by rw [n1']; rfl)
    case succ.succ.zero =>
      (conv => whnf)
      refine ⟨rfl, _, ⟨by simp, rfl⟩, ?_⟩
      (conv => whnf)
      subst hasg hbody
      refine roundV_of tab_ok mixed rfl (by simp) (show 8 < 10 by omega) ?_
      (conv => whnf)
      refine ⟨rfl, ?_⟩
      (conv => whnf)
      split
      · rename_i hc
        have hc : x1.toNat ≠ 3 := by simp at hc; omega
        (conv => whnf)
        refine ⟨rfl, ?_⟩
        (conv => whnf)
        refine ⟨⟨2 + 1, by omega, ?_⟩, Wk.of id [] ⟨.yld rfl (by omega), .free attributesV_cap, .free attrV_free, .int_of rfl, .int_of rfl, trivial⟩ (LeH.of ⟨⟨by omega, .inl ⟨by simp, _, rfl, rfl, rfl, rfl, rfl, rfl, rfl, .ptr rfl (by omega), .ptr rfl (by omega), .ptr rfl (by omega), .ptr rfl (by omega), .ptr rfl (by omega), .ptr rfl (by omega), .ptr rfl (by omega), trivial⟩⟩,
          ⟨by omega, .inl ⟨by simp, _, rfl, LeB.free (blk := .var true 147 (readerV fr b last seen q a)) (readerV_free _ _ _ _ _ _)⟩⟩, ⟨by omega, .inl ⟨by simp, _, rfl, id, rfl, .ptr rfl (by omega), trivial⟩⟩, ⟨by omega, .inl ⟨by simp, _, rfl, id, rfl, .free .int, trivial⟩⟩, ⟨by omega, .inl ⟨by simp, _, rfl, id, rfl, .free .int, trivial⟩⟩,
          ⟨by omega, .inl ⟨by simp, _, rfl, id, rfl, .free .int, trivial⟩⟩, ⟨by omega, .inl ⟨by simp, _, rfl, id, rfl, .free .int, trivial⟩⟩, ⟨by omega, .inl ⟨by simp, _, rfl, id, rfl, .free .bool, trivial⟩⟩, ⟨by omega, .inl ⟨by simp, _, rfl, id, rfl, .free .int, trivial⟩⟩, trivial⟩ (fun _ _ _ _ h => h) (fun _ _ => rfl) (by omega) (by simp)), by simp only; omega⟩
        intro j hj
        rcases Nat.lt_or_ge j 2 with h | h
        · exact hne j h
        · obtain rfl : j = 2 := by omega
          exact fun e => hc e.symm
      rename_i hc
      have hc : x1.toNat = 3 := by simp at hc; omega
      obtain rfl : x1 = 3 := UInt8.toNat_inj.1 hc
      have n1' : byteN b 1 = 3 := by rw [n1]; rfl
      (conv => whnf)
      have hF : flagsI (byteN b 1) = 64 := by rw [n1']; rfl
      have hH := head_is (last := last) h h4 h3 (by rw [hF]; decide)
      rw [hF] at hH
      cases hf : (bits BinOp.andNot IntKind.u8 (x0.toNat : Int) 16 != 64)
      case true =>
        have e : oneE b last = 292 := by
          have : headE b last = 292 := by
            rw [hH, if_pos]
            left
            rw [andNot16 _ h0] at hf
            rw [n0, show lngB b = (x0.toNat / 16 % 2 == 1) by rw [lngB, n0]]
            simpa using hf
          simp [oneE, this]
        (conv => whnf)
        refine ⟨rfl, ?_⟩
        (conv => whnf)
        refine ⟨_, _, _, Ends.here, ?_⟩
        (conv => whnf)
        refine ⟨rfl, ⟨by rw [hAN]; omega, by rw [hAN]; simp; omega⟩, ?_⟩
        (conv => whnf)
        refine ⟨by kernel_rfl, ?_⟩
        (conv => whnf)
        exact Ends.oneE rfl (rest_free _ _ _ _ _ _) e.symm (by rw [e]; decide)
      have hf : (byteN b 0 : Int) - (if lngB b then 16 else 0) = 64 := by
        rw [andNot16 _ h0] at hf
        rw [n0, show lngB b = (x0.toNat / 16 % 2 == 1) by rw [lngB, n0]]
        simpa using hf
      (conv => whnf)
      split
      · rename_i hg
        have e : oneE b last = 292 := by
          have : headE b last = 292 := by
            rw [hH, if_pos]
            right
            rw [hd] at hg
            simpa using hg
          simp [oneE, this]
        (conv => whnf)
        refine ⟨rfl, ?_⟩
        (conv => whnf)
        refine ⟨_, _, _, Ends.here, ?_⟩
        (conv => whnf)
        refine ⟨rfl, ⟨by rw [hAN]; omega, by rw [hAN]; simp; omega⟩, ?_⟩
        (conv => whnf)
        refine ⟨by kernel_rfl, ?_⟩
        (conv => whnf)
        exact Ends.oneE rfl (rest_free _ _ _ _ _ _) e.symm (by rw [e]; decide)
      rename_i hg
      have hg : lngB b = decide (255 < numB b) := by rw [hd] at hg; simpa using hg
      rw [if_neg (by rintro (h | h) <;> contradiction)] at hH
      (conv => whnf)
      refine ⟨by kernel_rfl, ?_⟩
      (conv => whnf)
      split
      · rename_i hr
        have e : oneE b last = 293 := by
          have : headE b last = 293 := by
            rw [hH, if_pos]
            rw [n1']
            simp at hr
            omega
          simp [oneE, this]
        (conv => whnf)
        refine ⟨rfl, ?_⟩
        (conv => whnf)
        refine ⟨_, _, _, Ends.here, ?_⟩
        (conv => whnf)
        refine ⟨rfl, ⟨by rw [hAN]; omega, by rw [hAN]; simp; omega⟩, ?_⟩
        (conv => whnf)
        refine ⟨by kernel_rfl, ?_⟩
        (conv => whnf)
        exact Ends.oneE rfl (rest_free _ _ _ _ _ _) e.symm (by rw [e]; decide)
      rename_i hr
      have hr : ¬ 3 ≤ last := by simp at hr; omega
      rw [if_neg (by rw [n1']; exact hr)] at hH
      (conv => whnf)
      refine ⟨rfl, ⟨by omega, by rw [hAN]; omega, by rw [hAN]; simp; omega, by rw [hAN]; simp; omega⟩, ?_⟩
      (conv => whnf)
      refine ⟨by kernel_rfl, ?_⟩
      (conv => whnf)
      have hsl : V.sl fr 1 (List.drop (atB b : Int).toNat (List.take (IntKind.i64.wrap ((atB b : Int) + (numB b : Int))).toNat (List.map (fun x => [V.int .u8 x.toNat]) b))) = encB fr (valB b) := by
        rw [hAN, Int.toNat_natCast, Int.toNat_natCast, ← List.map_take, ← List.map_drop, List.drop_take, Nat.add_sub_cancel_left]
        rfl
      have hsr : V.sl fr 1 (List.drop (IntKind.i64.wrap ((atB b : Int) + (numB b : Int))).toNat (List.map (fun x => [V.int .u8 x.toNat]) b)) = encB fr (restB b) := by
        rw [hAN, Int.toNat_natCast, ← List.map_drop]
        rfl
      have hvl : (valB b).length ≤ 1000000 := by simp [valB]; omega
      refine callV_read (b := 0) (read3_ok fr (valB b) q a _ _ _ (encB_free _ _) .int .int) rfl (encB_free _ _) .int .int ⟨.ptr rfl (by omega), .eq_of hsl (encB_free _ _), .free (iptr_fn_free _), trivial⟩ fun c8 h8 hf8 hok => ?_
      obtain ⟨a0, a1, a2, a3, a4, a5, a6, a7, rfl⟩ := eight h8
      have ee : oneE b last = lowE 3 (valB b) := by
        rw [oneE, if_neg (by simp [hH]), n1']
      (conv => whnf)
      refine ⟨rfl, ?_⟩
      (conv => whnf)
      refine ⟨_, _, _, Ends.here, ?_⟩
      (conv => whnf)
      cases he : (lowE 3 (valB b) == 0) with
      | false =>
        have he' : lowE 3 (valB b) ≠ 0 := by simpa using he
        (conv => whnf)
        refine ⟨rfl, ⟨by rw [hAN]; omega, by rw [hAN]; simp; omega⟩, ?_⟩
        (conv => whnf)
        refine ⟨by kernel_rfl, ?_⟩
        (conv => whnf)
        exact Ends.oneE rfl (rest8_free hf8) ee.symm (by rw [ee]; exact he')
      | true =>
        have he' : lowE 3 (valB b) = 0 := by simpa using he
        have h8 := hok he'
        (conv => whnf)
        refine ⟨rfl, ⟨by rw [hAN]; omega, by rw [hAN]; simp; omega⟩, ?_⟩
        (conv => whnf)
        refine ⟨by kernel_rfl, ?_⟩
        (conv => whnf)
        refine Ends.oneK (cells' := readerV fr (restB b) 3 (seen + 1) _ (lowA 3 a (valB b))) rfl (readerV_free _ _ _ _ _ _) ⟨.eq_of hsr (encB_free _ _), .int_of rfl, .int_of hse, .of_eq h8 (cellsR_free _ _)⟩ ee.symm (fun _ => by rw [n1']; rfl)
    case succ.succ.succ.zero =>
      (conv => whnf)
      refine ⟨rfl, _, ⟨by simp, rfl⟩, ?_⟩
      (conv => whnf)
      subst hasg hbody
      refine roundV_of tab_ok mixed rfl (by simp) (show 8 < 10 by omega) ?_
      (conv => whnf)
      refine ⟨rfl, ?_⟩
      (conv => whnf)
      split
      · rename_i hc
        have hc : x1.toNat ≠ 4 := by simp at hc; omega
        (conv => whnf)
        refine ⟨rfl, ?_⟩
        (conv => whnf)
        refine ⟨⟨3 + 1, by omega, ?_⟩, Wk.of id [] ⟨.yld rfl (by omega), .free attributesV_cap, .free attrV_free, .int_of rfl, .int_of rfl, trivial⟩ (LeH.of ⟨⟨by omega, .inl ⟨by simp, _, rfl, rfl, rfl, rfl, rfl, rfl, rfl, .ptr rfl (by omega), .ptr rfl (by omega), .ptr rfl (by omega), .ptr rfl (by omega), .ptr rfl (by omega), .ptr rfl (by omega), .ptr rfl (by omega), trivial⟩⟩,
          ⟨by omega, .inl ⟨by simp, _, rfl, LeB.free (blk := .var true 147 (readerV fr b last seen q a)) (readerV_free _ _ _ _ _ _)⟩⟩, ⟨by omega, .inl ⟨by simp, _, rfl, id, rfl, .ptr rfl (by omega), trivial⟩⟩, ⟨by omega, .inl ⟨by simp, _, rfl, id, rfl, .free .int, trivial⟩⟩, ⟨by omega, .inl ⟨by simp, _, rfl, id, rfl, .free .int, trivial⟩⟩,
          ⟨by omega, .inl ⟨by simp, _, rfl, id, rfl, .free .int, trivial⟩⟩, ⟨by omega, .inl ⟨by simp, _, rfl, id, rfl, .free .int, trivial⟩⟩, ⟨by omega, .inl ⟨by simp, _, rfl, id, rfl, .free .bool, trivial⟩⟩, ⟨by omega, .inl ⟨by simp, _, rfl, id, rfl, .free .int, trivial⟩⟩, trivial⟩ (fun _ _ _ _ h => h) (fun _ _ => rfl) (by omega) (by simp)), by simp only; omega⟩
        intro j hj
        rcases Nat.lt_or_ge j 3 with h | h
        · exact hne j h
        · obtain rfl : j = 3 := by omega
          exact fun e => hc e.symm
      rename_i hc
      have hc : x1.toNat = 4 := by simp at hc; omega
      obtain rfl : x1 = 4 := UInt8.toNat_inj.1 hc
      have n1' : byteN b 1 = 4 := by rw [n1]; rfl
      (conv => whnf)
      have hF : flagsI (byteN b 1) = 128 := by rw [n1']; rfl
      have hH := head_is (last := last) h h4 h3 (by rw [hF]; decide)
      rw [hF] at hH
      cases hf : (bits BinOp.andNot IntKind.u8 (x0.toNat : Int) 16 != 128)
      case true =>
        have e : oneE b last = 292 := by
          have : headE b last = 292 := by
            rw [hH, if_pos]
            left
            rw [andNot16 _ h0] at hf
            rw [n0, show lngB b = (x0.toNat / 16 % 2 == 1) by rw [lngB, n0]]
            simpa using hf
          simp [oneE, this]
        (conv => whnf)
        refine ⟨rfl, ?_⟩
        (conv => whnf)
        refine ⟨_, _, _, Ends.here, ?_⟩
        (conv => whnf)
        refine ⟨rfl, ⟨by rw [hAN]; omega, by rw [hAN]; simp; omega⟩, ?_⟩
        (conv => whnf)
        refine ⟨by kernel_rfl, ?_⟩
        (conv => whnf)
        exact Ends.oneE rfl (rest_free _ _ _ _ _ _) e.symm (by rw [e]; decide)
      have hf : (byteN b 0 : Int) - (if lngB b then 16 else 0) = 128 := by
        rw [andNot16 _ h0] at hf
        rw [n0, show lngB b = (x0.toNat / 16 % 2 == 1) by rw [lngB, n0]]
        simpa using hf
      (conv => whnf)
      split
      · rename_i hg
        have e : oneE b last = 292 := by
          have : headE b last = 292 := by
            rw [hH, if_pos]
            right
            rw [hd] at hg
            simpa using hg
          simp [oneE, this]
        (conv => whnf)
        refine ⟨rfl, ?_⟩
        (conv => whnf)
        refine ⟨_, _, _, Ends.here, ?_⟩
        (conv => whnf)
        refine ⟨rfl, ⟨by rw [hAN]; omega, by rw [hAN]; simp; omega⟩, ?_⟩
        (conv => whnf)
        refine ⟨by kernel_rfl, ?_⟩
        (conv => whnf)
        exact Ends.oneE rfl (rest_free _ _ _ _ _ _) e.symm (by rw [e]; decide)
      rename_i hg
      have hg : lngB b = decide (255 < numB b) := by rw [hd] at hg; simpa using hg
      rw [if_neg (by rintro (h | h) <;> contradiction)] at hH
      (conv => whnf)
      refine ⟨by kernel_rfl, ?_⟩
      (conv => whnf)
      split
      · rename_i hr
        have e : oneE b last = 293 := by
          have : headE b last = 293 := by
            rw [hH, if_pos]
            rw [n1']
            simp at hr
            omega
          simp [oneE, this]
        (conv => whnf)
        refine ⟨rfl, ?_⟩
        (conv => whnf)
        refine ⟨_, _, _, Ends.here, ?_⟩
        (conv => whnf)
        refine ⟨rfl, ⟨by rw [hAN]; omega, by rw [hAN]; simp; omega⟩, ?_⟩
        (conv => whnf)
        refine ⟨by kernel_rfl, ?_⟩
        (conv => whnf)
        exact Ends.oneE rfl (rest_free _ _ _ _ _ _) e.symm (by rw [e]; decide)
      rename_i hr
      have hr : ¬ 4 ≤ last := by simp at hr; omega
      rw [if_neg (by rw [n1']; exact hr)] at hH
      (conv => whnf)
      refine ⟨rfl, ⟨by omega, by rw [hAN]; omega, by rw [hAN]; simp; omega, by rw [hAN]; simp; omega⟩, ?_⟩
      (conv => whnf)
      refine ⟨by kernel_rfl, ?_⟩
      (conv => whnf)
      have hsl : V.sl fr 1 (List.drop (atB b : Int).toNat (List.take (IntKind.i64.wrap ((atB b : Int) + (numB b : Int))).toNat (List.map (fun x => [V.int .u8 x.toNat]) b))) = encB fr (valB b) := by
        rw [hAN, Int.toNat_natCast, Int.toNat_natCast, ← List.map_take, ← List.map_drop, List.drop_take, Nat.add_sub_cancel_left]
        rfl
      have hsr : V.sl fr 1 (List.drop (IntKind.i64.wrap ((atB b : Int) + (numB b : Int))).toNat (List.map (fun x => [V.int .u8 x.toNat]) b)) = encB fr (restB b) := by
        rw [hAN, Int.toNat_natCast, ← List.map_drop]
        rfl
      have hvl : (valB b).length ≤ 1000000 := by simp [valB]; omega
      refine callV_read (b := 0) (read4_ok fr (valB b) q a _ _ _ (encB_free _ _) .int .int) rfl (encB_free _ _) .int .int ⟨.ptr rfl (by omega), .eq_of hsl (encB_free _ _), .free (iptr_fn_free _), trivial⟩ fun c8 h8 hf8 hok => ?_
      obtain ⟨a0, a1, a2, a3, a4, a5, a6, a7, rfl⟩ := eight h8
      have ee : oneE b last = lowE 4 (valB b) := by
        rw [oneE, if_neg (by simp [hH]), n1']
      (conv => whnf)
      refine ⟨rfl, ?_⟩
      (conv => whnf)
      refine ⟨_, _, _, Ends.here, ?_⟩
      (conv => whnf)
      cases he : (lowE 4 (valB b) == 0) with
      | false =>
        have he' : lowE 4 (valB b) ≠ 0 := by simpa using he
        (conv => whnf)
        refine ⟨rfl, ⟨by rw [hAN]; omega, by rw [hAN]; simp; omega⟩, ?_⟩
        (conv => whnf)
        refine ⟨by kernel_rfl, ?_⟩
        (conv => whnf)
        exact Ends.oneE rfl (rest8_free hf8) ee.symm (by rw [ee]; exact he')
      | true =>
        have he' : lowE 4 (valB b) = 0 := by simpa using he
        have h8 := hok he'
        (conv => whnf)
        refine ⟨rfl, ⟨by rw [hAN]; omega, by rw [hAN]; simp; omega⟩, ?_⟩
        (conv => whnf)
        refine ⟨by kernel_rfl, ?_⟩
        (conv => whnf)
        refine Ends.oneK (cells' := readerV fr (restB b) 4 seen _ (lowA 4 a (valB b))) rfl (readerV_free _ _ _ _ _ _) ⟨.eq_of hsr (encB_free _ _), .int_of rfl, .int_of rfl, .of_eq h8 (cellsR_free _ _)⟩ ee.symm (fun _ => by rw [n1']; rfl)
    case succ.succ.succ.succ.zero =>
      (conv => whnf)
      refine ⟨rfl, _, ⟨by simp, rfl⟩, ?_⟩
      (conv => whnf)
      subst hasg hbody
      refine roundV_of tab_ok mixed rfl (by simp) (show 8 < 10 by omega) ?_
      (conv => whnf)
      refine ⟨rfl, ?_⟩
      (conv => whnf)
      split
      · rename_i hc
        have hc : x1.toNat ≠ 5 := by simp at hc; omega
        (conv => whnf)
        refine ⟨rfl, ?_⟩
        (conv => whnf)
        refine ⟨⟨4 + 1, by omega, ?_⟩, Wk.of id [] ⟨.yld rfl (by omega), .free attributesV_cap, .free attrV_free, .int_of rfl, .int_of rfl, trivial⟩ (LeH.of ⟨⟨by omega, .inl ⟨by simp, _, rfl, rfl, rfl, rfl, rfl, rfl, rfl, .ptr rfl (by omega), .ptr rfl (by omega), .ptr rfl (by omega), .ptr rfl (by omega), .ptr rfl (by omega), .ptr rfl (by omega), .ptr rfl (by omega), trivial⟩⟩,
          ⟨by omega, .inl ⟨by simp, _, rfl, LeB.free (blk := .var true 147 (readerV fr b last seen q a)) (readerV_free _ _ _ _ _ _)⟩⟩, ⟨by omega, .inl ⟨by simp, _, rfl, id, rfl, .ptr rfl (by omega), trivial⟩⟩, ⟨by omega, .inl ⟨by simp, _, rfl, id, rfl, .free .int, trivial⟩⟩, ⟨by omega, .inl ⟨by simp, _, rfl, id, rfl, .free .int, trivial⟩⟩,
          ⟨by omega, .inl ⟨by simp, _, rfl, id, rfl, .free .int, trivial⟩⟩, ⟨by omega, .inl ⟨by simp, _, rfl, id, rfl, .free .int, trivial⟩⟩, ⟨by omega, .inl ⟨by simp, _, rfl, id, rfl, .free .bool, trivial⟩⟩, ⟨by omega, .inl ⟨by simp, _, rfl, id, rfl, .free .int, trivial⟩⟩, trivial⟩ (fun _ _ _ _ h => h) (fun _ _ => rfl) (by omega) (by simp)), by simp only; omega⟩
        intro j hj
        rcases Nat.lt_or_ge j 4 with h | h
        · exact hne j h
        · obtain rfl : j = 4 := by omega
          exact fun e => hc e.symm
      rename_i hc
      have hc : x1.toNat = 5 := by simp at hc; omega
      obtain rfl : x1 = 5 := UInt8.toNat_inj.1 hc
      have n1' : byteN b 1 = 5 := by rw [n1]; rfl
      (conv => whnf)
      have hF : flagsI (byteN b 1) = 64 := by rw [n1']; rfl
      have hH := head_is (last := last) h h4 h3 (by rw [hF]; decide)
      rw [hF] at hH
      cases hf : (bits BinOp.andNot IntKind.u8 (x0.toNat : Int) 16 != 64)
      case true =>
        have e : oneE b last = 292 := by
          have : headE b last = 292 := by
            rw [hH, if_pos]
            left
            rw [andNot16 _ h0] at hf
            rw [n0, show lngB b = (x0.toNat / 16 % 2 == 1) by rw [lngB, n0]]
            simpa using hf
          simp [oneE, this]
        (conv => whnf)
        refine ⟨rfl, ?_⟩
        (conv => whnf)
        refine ⟨_, _, _, Ends.here, ?_⟩
        (conv => whnf)
        refine ⟨rfl, ⟨by rw [hAN]; omega, by rw [hAN]; simp; omega⟩, ?_⟩
        (conv => whnf)
        refine ⟨by kernel_rfl, ?_⟩
        (conv => whnf)
        exact Ends.oneE rfl (rest_free _ _ _ _ _ _) e.symm (by rw [e]; decide)
      have hf : (byteN b 0 : Int) - (if lngB b then 16 else 0) = 64 := by
        rw [andNot16 _ h0] at hf
        rw [n0, show lngB b = (x0.toNat / 16 % 2 == 1) by rw [lngB, n0]]
        simpa using hf
      (conv => whnf)
      split
      · rename_i hg
        have e : oneE b last = 292 := by
          have : headE b last = 292 := by
            rw [hH, if_pos]
            right
            rw [hd] at hg
            simpa using hg
          simp [oneE, this]
        (conv => whnf)
        refine ⟨rfl, ?_⟩
        (conv => whnf)
        refine ⟨_, _, _, Ends.here, ?_⟩
        (conv => whnf)
        refine ⟨rfl, ⟨by rw [hAN]; omega, by rw [hAN]; simp; omega⟩, ?_⟩
        (conv => whnf)
        refine ⟨by kernel_rfl, ?_⟩
        (conv => whnf)
        exact Ends.oneE rfl (rest_free _ _ _ _ _ _) e.symm (by rw [e]; decide)
      rename_i hg
      have hg : lngB b = decide (255 < numB b) := by rw [hd] at hg; simpa using hg
      rw [if_neg (by rintro (h | h) <;> contradiction)] at hH
      (conv => whnf)
      refine ⟨by kernel_rfl, ?_⟩
      (conv => whnf)
      split
      · rename_i hr
        have e : oneE b last = 293 := by
          have : headE b last = 293 := by
            rw [hH, if_pos]
            rw [n1']
            simp at hr
            omega
          simp [oneE, this]
        (conv => whnf)
        refine ⟨rfl, ?_⟩
        (conv => whnf)
        refine ⟨_, _, _, Ends.here, ?_⟩
        (conv => whnf)
        refine ⟨rfl, ⟨by rw [hAN]; omega, by rw [hAN]; simp; omega⟩, ?_⟩
        (conv => whnf)
        refine ⟨by kernel_rfl, ?_⟩
        (conv => whnf)
        exact Ends.oneE rfl (rest_free _ _ _ _ _ _) e.symm (by rw [e]; decide)
      rename_i hr
      have hr : ¬ 5 ≤ last := by simp at hr; omega
      rw [if_neg (by rw [n1']; exact hr)] at hH
      (conv => whnf)
      refine ⟨rfl, ⟨by omega, by rw [hAN]; omega, by rw [hAN]; simp; omega, by rw [hAN]; simp; omega⟩, ?_⟩
      (conv => whnf)
      refine ⟨by kernel_rfl, ?_⟩
      (conv => whnf)
      have hsl : V.sl fr 1 (List.drop (atB b : Int).toNat (List.take (IntKind.i64.wrap ((atB b : Int) + (numB b : Int))).toNat (List.map (fun x => [V.int .u8 x.toNat]) b))) = encB fr (valB b) := by
        rw [hAN, Int.toNat_natCast, Int.toNat_natCast, ← List.map_take, ← List.map_drop, List.drop_take, Nat.add_sub_cancel_left]
        rfl
      have hsr : V.sl fr 1 (List.drop (IntKind.i64.wrap ((atB b : Int) + (numB b : Int))).toNat (List.map (fun x => [V.int .u8 x.toNat]) b)) = encB fr (restB b) := by
        rw [hAN, Int.toNat_natCast, ← List.map_drop]
        rfl
      have hvl : (valB b).length ≤ 1000000 := by simp [valB]; omega
      refine callV_read (b := 0) (read5_ok fr (valB b) q a _ _ _ (encB_free _ _) .int .int) rfl (encB_free _ _) .int .int ⟨.ptr rfl (by omega), .eq_of hsl (encB_free _ _), .free (iptr_fn_free _), trivial⟩ fun c8 h8 hf8 hok => ?_
      obtain ⟨a0, a1, a2, a3, a4, a5, a6, a7, rfl⟩ := eight h8
      have ee : oneE b last = lowE 5 (valB b) := by
        rw [oneE, if_neg (by simp [hH]), n1']
      (conv => whnf)
      refine ⟨rfl, ?_⟩
      (conv => whnf)
      refine ⟨_, _, _, Ends.here, ?_⟩
      (conv => whnf)
      cases he : (lowE 5 (valB b) == 0) with
      | false =>
        have he' : lowE 5 (valB b) ≠ 0 := by simpa using he
        (conv => whnf)
        refine ⟨rfl, ⟨by rw [hAN]; omega, by rw [hAN]; simp; omega⟩, ?_⟩
        (conv => whnf)
        refine ⟨by kernel_rfl, ?_⟩
        (conv => whnf)
        exact Ends.oneE rfl (rest8_free hf8) ee.symm (by rw [ee]; exact he')
      | true =>
        have he' : lowE 5 (valB b) = 0 := by simpa using he
        have h8 := hok he'
        (conv => whnf)
        refine ⟨rfl, ⟨by rw [hAN]; omega, by rw [hAN]; simp; omega⟩, ?_⟩
        (conv => whnf)
        refine ⟨by kernel_rfl, ?_⟩
        (conv => whnf)
        refine Ends.oneK (cells' := readerV fr (restB b) 5 seen _ (lowA 5 a (valB b))) rfl (readerV_free _ _ _ _ _ _) ⟨.eq_of hsr (encB_free _ _), .int_of rfl, .int_of rfl, .of_eq h8 (cellsR_free _ _)⟩ ee.symm (fun _ => by rw [n1']; rfl)
    case succ.succ.succ.succ.succ.zero =>
      (conv => whnf)
      refine ⟨rfl, _, ⟨by simp, rfl⟩, ?_⟩
      (conv => whnf)
      subst hasg hbody
      refine roundV_of tab_ok mixed rfl (by simp) (show 8 < 10 by omega) ?_
      (conv => whnf)
      refine ⟨rfl, ?_⟩
      (conv => whnf)
      split
      · rename_i hc
        have hc : x1.toNat ≠ 8 := by simp at hc; omega
        (conv => whnf)
        refine ⟨rfl, ?_⟩
        (conv => whnf)
        refine ⟨⟨5 + 1, by omega, ?_⟩, Wk.of id [] ⟨.yld rfl (by omega), .free attributesV_cap, .free attrV_free, .int_of rfl, .int_of rfl, trivial⟩ (LeH.of ⟨⟨by omega, .inl ⟨by simp, _, rfl, rfl, rfl, rfl, rfl, rfl, rfl, .ptr rfl (by omega), .ptr rfl (by omega), .ptr rfl (by omega), .ptr rfl (by omega), .ptr rfl (by omega), .ptr rfl (by omega), .ptr rfl (by omega), trivial⟩⟩,
          ⟨by omega, .inl ⟨by simp, _, rfl, LeB.free (blk := .var true 147 (readerV fr b last seen q a)) (readerV_free _ _ _ _ _ _)⟩⟩, ⟨by omega, .inl ⟨by simp, _, rfl, id, rfl, .ptr rfl (by omega), trivial⟩⟩, ⟨by omega, .inl ⟨by simp, _, rfl, id, rfl, .free .int, trivial⟩⟩, ⟨by omega, .inl ⟨by simp, _, rfl, id, rfl, .free .int, trivial⟩⟩,
          ⟨by omega, .inl ⟨by simp, _, rfl, id, rfl, .free .int, trivial⟩⟩, ⟨by omega, .inl ⟨by simp, _, rfl, id, rfl, .free .int, trivial⟩⟩, ⟨by omega, .inl ⟨by simp, _, rfl, id, rfl, .free .bool, trivial⟩⟩, ⟨by omega, .inl ⟨by simp, _, rfl, id, rfl, .free .int, trivial⟩⟩, trivial⟩ (fun _ _ _ _ h => h) (fun _ _ => rfl) (by omega) (by simp)), by simp only; omega⟩
        intro j hj
        rcases Nat.lt_or_ge j 5 with h | h
        · exact hne j h
        · obtain rfl : j = 5 := by omega
          exact fun e => hc e.symm
      rename_i hc
      have hc : x1.toNat = 8 := by simp at hc; omega
      obtain rfl : x1 = 8 := UInt8.toNat_inj.1 hc
      have n1' : byteN b 1 = 8 := by rw [n1]; rfl
      (conv => whnf)
      have hF : flagsI (byteN b 1) = 192 := by rw [n1']; rfl
      have hH := head_is (last := last) h h4 h3 (by rw [hF]; decide)
      rw [hF] at hH
      cases hf : (bits BinOp.andNot IntKind.u8 (x0.toNat : Int) 16 != 192)
      case true =>
        have e : oneE b last = 292 := by
          have : headE b last = 292 := by
            rw [hH, if_pos]
            left
            rw [andNot16 _ h0] at hf
            rw [n0, show lngB b = (x0.toNat / 16 % 2 == 1) by rw [lngB, n0]]
            simpa using hf
          simp [oneE, this]
        (conv => whnf)
        refine ⟨rfl, ?_⟩
        (conv => whnf)
        refine ⟨_, _, _, Ends.here, ?_⟩
        (conv => whnf)
        refine ⟨rfl, ⟨by rw [hAN]; omega, by rw [hAN]; simp; omega⟩, ?_⟩
        (conv => whnf)
        refine ⟨by kernel_rfl, ?_⟩
        (conv => whnf)
        exact Ends.oneE rfl (rest_free _ _ _ _ _ _) e.symm (by rw [e]; decide)
      have hf : (byteN b 0 : Int) - (if lngB b then 16 else 0) = 192 := by
        rw [andNot16 _ h0] at hf
        rw [n0, show lngB b = (x0.toNat / 16 % 2 == 1) by rw [lngB, n0]]
        simpa using hf
      (conv => whnf)
      split
      · rename_i hg
        have e : oneE b last = 292 := by
          have : headE b last = 292 := by
            rw [hH, if_pos]
            right
            rw [hd] at hg
            simpa using hg
          simp [oneE, this]
        (conv => whnf)
        refine ⟨rfl, ?_⟩
        (conv => whnf)
        refine ⟨_, _, _, Ends.here, ?_⟩
        (conv => whnf)
        refine ⟨rfl, ⟨by rw [hAN]; omega, by rw [hAN]; simp; omega⟩, ?_⟩
        (conv => whnf)
        refine ⟨by kernel_rfl, ?_⟩
        (conv => whnf)
        exact Ends.oneE rfl (rest_free _ _ _ _ _ _) e.symm (by rw [e]; decide)
      rename_i hg
      have hg : lngB b = decide (255 < numB b) := by rw [hd] at hg; simpa using hg
      rw [if_neg (by rintro (h | h) <;> contradiction)] at hH
      (conv => whnf)
      refine ⟨by kernel_rfl, ?_⟩
      (conv => whnf)
      split
      · rename_i hr
        have e : oneE b last = 293 := by
          have : headE b last = 293 := by
            rw [hH, if_pos]
            rw [n1']
            simp at hr
            omega
          simp [oneE, this]
        (conv => whnf)
        refine ⟨rfl, ?_⟩
        (conv => whnf)
        refine ⟨_, _, _, Ends.here, ?_⟩
        (conv => whnf)
        refine ⟨rfl, ⟨by rw [hAN]; omega, by rw [hAN]; simp; omega⟩, ?_⟩
        (conv => whnf)
        refine ⟨by kernel_rfl, ?_⟩
        (conv => whnf)
        exact Ends.oneE rfl (rest_free _ _ _ _ _ _) e.symm (by rw [e]; decide)
      rename_i hr
      have hr : ¬ 8 ≤ last := by simp at hr; omega
      rw [if_neg (by rw [n1']; exact hr)] at hH
      (conv => whnf)
      refine ⟨rfl, ⟨by omega, by rw [hAN]; omega, by rw [hAN]; simp; omega, by rw [hAN]; simp; omega⟩, ?_⟩
      (conv => whnf)
      refine ⟨by kernel_rfl, ?_⟩
      (conv => whnf)
      have hsl : V.sl fr 1 (List.drop (atB b : Int).toNat (List.take (IntKind.i64.wrap ((atB b : Int) + (numB b : Int))).toNat (List.map (fun x => [V.int .u8 x.toNat]) b))) = encB fr (valB b) := by
        rw [hAN, Int.toNat_natCast, Int.toNat_natCast, ← List.map_take, ← List.map_drop, List.drop_take, Nat.add_sub_cancel_left]
        rfl
      have hsr : V.sl fr 1 (List.drop (IntKind.i64.wrap ((atB b : Int) + (numB b : Int))).toNat (List.map (fun x => [V.int .u8 x.toNat]) b)) = encB fr (restB b) := by
        rw [hAN, Int.toNat_natCast, ← List.map_drop]
        rfl
      have hvl : (valB b).length ≤ 1000000 := by simp [valB]; omega
      refine callV_read (b := 0) (read8_ok fr (valB b) hvl q a _ _ _ (encB_free _ _) .int .int) rfl (encB_free _ _) .int .int ⟨.ptr rfl (by omega), .eq_of hsl (encB_free _ _), trivial⟩ fun c8 h8 hf8 hok => ?_
      obtain ⟨a0, a1, a2, a3, a4, a5, a6, a7, rfl⟩ := eight h8
      have ee : oneE b last = lowE 8 (valB b) := by
        rw [oneE, if_neg (by simp [hH]), n1']
      (conv => whnf)
      refine ⟨rfl, ?_⟩
      (conv => whnf)
      refine ⟨_, _, _, Ends.here, ?_⟩
      (conv => whnf)
      cases he : (lowE 8 (valB b) == 0) with
      | false =>
        have he' : lowE 8 (valB b) ≠ 0 := by simpa using he
        (conv => whnf)
        refine ⟨rfl, ⟨by rw [hAN]; omega, by rw [hAN]; simp; omega⟩, ?_⟩
        (conv => whnf)
        refine ⟨by kernel_rfl, ?_⟩
        (conv => whnf)
        exact Ends.oneE rfl (rest8_free hf8) ee.symm (by rw [ee]; exact he')
      | true =>
        have he' : lowE 8 (valB b) = 0 := by simpa using he
        have h8 := hok he'
        (conv => whnf)
        refine ⟨rfl, ⟨by rw [hAN]; omega, by rw [hAN]; simp; omega⟩, ?_⟩
        (conv => whnf)
        refine ⟨by kernel_rfl, ?_⟩
        (conv => whnf)
        refine Ends.oneK (cells' := readerV fr (restB b) 8 seen _ (lowA 8 a (valB b))) rfl (readerV_free _ _ _ _ _ _) ⟨.eq_of hsr (encB_free _ _), .int_of rfl, .int_of rfl, .of_eq h8 (cellsR_free _ _)⟩ ee.symm (fun _ => by rw [n1']; rfl)
    case succ.succ.succ.succ.succ.succ.zero =>
      have hF := flags_none hne
      have e : oneE b last = 291 := by
        have : headE b last = 291 := by
          unfold headE
          rw [if_neg (by omega), if_neg (by rintro ⟨h1, h2⟩; have := h4 h1; omega), if_neg (by omega), if_pos (by rw [n1, hF]; decide)]
        simp [oneE, this]
      (conv => whnf)
      refine ⟨_, _, _, Ends.here, ?_⟩
      (conv => whnf)
      refine ⟨rfl, ⟨by rw [hAN]; omega, by rw [hAN]; simp; omega⟩, ?_⟩
      (conv => whnf)
      refine ⟨by kernel_rfl, ?_⟩
      (conv => whnf)
      exact Ends.oneE rfl (rest_free _ _ _ _ _ _) e.symm (by rw [e]; decide)
end Go.Proofs.YtehhligadnlijaaGreatDoor
set_option linter.unusedVariables false
set_option linter.unusedSimpArgs false
namespace Go.Proofs.YtehhligadnlijaaGreatDoor
open Go.RowKit
open Go.Proofs.Tryz (prog)
attribute [local irreducible] CallV RoundV
theorem callV_one {f : FuncId} {args : List V} {fr : Bool} {b : List UInt8} {last seen : Nat} {q : Bool} {a : Attrs} {h : Heap} {nx i : Nat} {K : V → Heap → Nat → Prop}
    (hc : CallV prog f [.ptr 0 0] [(0, some (.var true 147 (readerV fr b last seen q a)))] 1 (OneR fr b last seen q a)) (hb : hget h i = some (.var true 147 (readerV fr b last seen q a))) (ha : LeL h nx (fun _ => i) 1 [] args [.ptr 0 0])
    (hK : ∀ cells' : List V, (∀ x ∈ cells', Free x) → (oneE b last = 0 → cells' = readerV fr (restB b) (byteN b 1) (if byteN b 1 ≤ 3 then seen + 1 else seen) (q || byteN b 1 == 2) (lowA (byteN b 1) a (valB b))) →
      K (.int .i64 (oneE b last)) ((i, some (.var true 147 cells')) :: h) nx) : CallV prog f args h nx K := by
  refine callV_ptr (R := fun v' cells' => v' = .int .i64 (oneE b last) ∧ (∀ x ∈ cells', Free x) ∧ (oneE b last = 0 → cells' = readerV fr (restB b) (byteN b 1) (if byteN b 1 ≤ 3 then seen + 1 else seen) (q || byteN b 1 == 2) (lowA (byteN b 1) a (valB b)))) (hc.mono ?_) hb (readerV_free _ _ _ _ _ _) ha ?_
  · rintro v' h' nx' ⟨cells', rfl, hf, hok, rfl, rfl⟩
    exact ⟨_, ⟨rfl, hf, hok⟩, rfl, rfl⟩
  · rintro v' cells' ⟨rfl, hf, hok⟩
    exact ⟨.int, hf, hK cells' hf hok⟩
structure At (b : List UInt8) where
  rest : List UInt8
  last : Nat
  seen : Nat
  q : Bool
  a : Attrs
  law : parseA b 0 0 noA = parseA rest last seen a
  lim : last < 256
  cnt : seen + rest.length ≤ b.length
  nop : last < 2 → q = false
  nil : q = false → a.path = []
theorem oneE_zero {b : List UInt8} {last : Nat} (h : oneE b last = 0) : headE b last = 0 ∧ lowE (byteN b 1) (valB b) = 0 := by
  unfold oneE at h
  split at h
  · rename_i h1; exact absurd h h1
  · rename_i h1; exact ⟨by simpa using h1, h⟩
theorem parseA_err {b : List UInt8} {last seen : Nat} {a : Attrs} (hb : b ≠ []) (h : oneE b last ≠ 0) : parseA b last seen a = (noA, oneE b last) := by
  by_cases h1 : headE b last = 0
  · have : oneE b last = lowE (byteN b 1) (valB b) := by simp [oneE, h1]
    rw [this] at h ⊢
    exact parseA_low hb h1 h
  · have : oneE b last = headE b last := by simp [oneE, h1]
    rw [this]
    exact parseA_head hb h1
def At.next {b : List UInt8} (k : At b) (hb : k.rest ≠ []) (h : oneE k.rest k.last = 0) : At b where
  rest := restB k.rest
  last := byteN k.rest 1
  seen := if byteN k.rest 1 ≤ 3 then k.seen + 1 else k.seen
  q := k.q || byteN k.rest 1 == 2
  a := lowA (byteN k.rest 1) k.a (valB k.rest)
  law := k.law.trans (parseA_go hb (oneE_zero h).1 (oneE_zero h).2)
  lim := byteN_lt _ _
  cnt := by
    have := restB_lt hb
    have := k.cnt
    split <;> omega
  nop := fun hl => by
    have h1 : ¬ byteN k.rest 1 ≤ k.last := by
      have := (oneE_zero h).1
      unfold headE at this
      intro hle
      rw [if_pos hle] at this
      revert this
      repeat' split
      all_goals decide
    have h2 : k.q = false := k.nop (by omega)
    have h3 : (byteN k.rest 1 == 2) = false := by simp; omega
    rw [h2, h3]; rfl
  nil := fun hq => by
    have h1 : k.q = false := by cases hk : k.q with | false => rfl | true => rw [hk] at hq; cases hq
    have h2 : byteN k.rest 1 ≠ 2 := by intro e; rw [h1, e] at hq; cases hq
    have h3 := k.nil h1
    unfold lowA
    repeat' split
    all_goals first | exact h3 | contradiction
set_option maxRecDepth 100000 in
theorem parse_ok (fr : Bool) (b : List UInt8) (hb : b.length ≤ 1000000) : PCon prog 67 [encB fr b] (parseE true (parseA b 0 0 noA).1 (parseA b 0 0 noA).2) := by
  refine callV_of (fn := Go.Proofs.Tryz.f67) (body := _) tab_ok mixed rfl rfl (by decide) (by simp [Go.Proofs.Tryz.f67]) ?_
  (conv => whnf)
  refine vcg_loop tab_ok mixed (fun k : At b => ⟨[(2, .ptr 0 0), (4, .ptr 1 0)], [(0, some (.var true 45 zeroA)), (1, some (.var true 147 (readerV fr k.rest k.last k.seen k.q k.a)))], 2⟩) (fun k => k.rest.length) ⟨b, 0, 0, false, noA, rfl, by omega, by omega, fun _ => rfl, fun _ => rfl⟩ (Wk.of id [] ⟨.ptr rfl (by omega), .ptr rfl (by omega), trivial⟩ (LeH.of ⟨⟨by omega, .inl ⟨by simp, _, rfl, id, rfl, ?_⟩⟩, ⟨by omega, .inl ⟨by simp, _, rfl, id, rfl, ?_⟩⟩, trivial⟩ (fun _ _ _ _ h => h) (fun _ _ => rfl) (by omega) (by simp))) (fun k => ?_)
  · exact LeL.free zeroA_free
  · exact ⟨.free (encB_free _ _), .int_of rfl, .int_of rfl, .free .int, .free .snil, .free .int, .free .bool, .free .int, .free .bool, .free .int, .snil_sl, trivial⟩
  (conv => whnf)
  intro _
  (conv => whnf)
  split
  · rename_i hc
    have hne : k.rest ≠ [] := by intro e; rw [e] at hc; simp at hc
    (conv => whnf)
    refine callV_one (i := 1) (one_ok fr k.rest (by have := k.cnt; omega) k.last k.seen k.lim (by have := k.cnt; omega) k.q k.nop k.a) rfl ⟨.ptr rfl (by omega), trivial⟩ fun cells' hf hok => ?_
    (conv => whnf)
    cases he : (oneE k.rest k.last != 0) with
    | true =>
      have he' : oneE k.rest k.last ≠ 0 := by simpa using he
      have hp : parseA b 0 0 noA = (noA, oneE k.rest k.last) := k.law.trans (parseA_err hne he')
      (conv => whnf)
      rw [hp]
      exact Ends.pure [] (.tupL ⟨.noA, .int_of rfl, trivial⟩) (by simp)
    | false =>
      have he' : oneE k.rest k.last = 0 := by simpa using he
      (conv => whnf)
      refine ⟨k.next hne he', Wk.of id [] ⟨.ptr rfl (by omega), .ptr rfl (by omega), trivial⟩ (LeH.of ⟨⟨by omega, .inl ⟨by simp, _, rfl, id, rfl, LeL.free zeroA_free⟩⟩, ⟨by omega, .inl ⟨by simp, _, rfl, id, rfl, .of_eq (hok he') (readerV_free _ _ _ _ _ _)⟩⟩, trivial⟩ (fun _ _ _ _ h => h) (fun _ _ => rfl) (by omega) (by simp)), restB_lt hne⟩
  · rename_i hc
    have hnil : k.rest = [] := by simp at hc; exact hc
    have hl : parseA b 0 0 noA = if k.seen = 3 then (k.a, 0) else (noA, 299) := by rw [k.law, hnil, parseA_nil]
    (conv => whnf)
    cases h3 : ((k.seen : Int) != 3) with
    | true =>
      have h3' : k.seen ≠ 3 := by simp at h3; omega
      rw [if_neg h3'] at hl
      (conv => whnf)
      rw [hl]
      exact Ends.pure [] (.tupL ⟨.noA, .int_of rfl, trivial⟩) (by simp)
    | false =>
      have h3' : k.seen = 3 := by simp at h3; omega
      rw [if_pos h3'] at hl
      cases hq : k.q with
      | true =>
        (conv => whnf)
        rw [hl]
        exact Ends.pure [] (.tupL ⟨.eq_of rfl (encA_free true k.a), .int_of rfl, trivial⟩) (by simp)
      | false =>
        have hp := k.nil hq
        (conv => whnf)
        rw [hl]
        refine Ends.pure [] (.tupL ⟨.aggL ⟨.free .int, ?_, .free .int, .free .bool, .free .int, .free .bool, .free .int, .free (encW_free _ _), trivial⟩, .int_of rfl, trivial⟩) (by simp)
        show LeV _ _ _ _ _ .snil (encLegs true k.a.path)
        rw [hp]
        exact .snil_sl
end Go.Proofs.YtehhligadnlijaaGreatDoor
set_option linter.unusedVariables false
set_option linter.unusedSimpArgs false
namespace Go.Proofs.YtehhligadnlijaaGreatDoor
open Go.RowKit
open Go.Proofs.Tryz (prog)
attribute [local irreducible] CallV RoundV
set_option maxRecDepth 100000 in
theorem flags_ok (c : Nat) : PCon prog 110 [cI c] (.int .i64 (flagsI c)) := by
  refine callV_of (fn := Go.Proofs.Tryz.f110) (body := _) tab_ok mixed rfl rfl (by decide) (by simp [Go.Proofs.Tryz.f110]) ?_
  have fin : ∀ {s : St} {e : Int}, flagsI c = e → ∃ v1 h' nx', Ends 0 s (.int .i64 e) v1 h' nx' ∧ (v1 = .int .i64 (flagsI c) ∧ h' = [] ∧ nx' = 0) := fun h => Ends.pure [] (.int_of h.symm) (by simp)
  (conv => whnf)
  cases h1 : ((c : Int) == 1) with
  | true => 
    have : c = 1 := by simp at h1; omega
    subst this
    (conv => whnf)
    exact fin rfl
  | false =>
  have h1 : c ≠ 1 := by simp at h1; omega
  (conv => whnf)
  cases h2 : ((c : Int) == 2) with
  | true => 
    have : c = 2 := by simp at h2; omega
    subst this
    (conv => whnf)
    exact fin rfl
  | false =>
  have h2 : c ≠ 2 := by simp at h2; omega
  (conv => whnf)
  cases h3 : ((c : Int) == 3) with
  | true => 
    have : c = 3 := by simp at h3; omega
    subst this
    (conv => whnf)
    exact fin rfl
  | false =>
  have h3 : c ≠ 3 := by simp at h3; omega
  (conv => whnf)
  cases h5 : ((c : Int) == 5) with
  | true => 
    have : c = 5 := by simp at h5; omega
    subst this
    (conv => whnf)
    exact fin rfl
  | false =>
  have h5 : c ≠ 5 := by simp at h5; omega
  (conv => whnf)
  cases h4 : ((c : Int) == 4) with
  | true => 
    have : c = 4 := by simp at h4; omega
    subst this
    (conv => whnf)
    exact fin rfl
  | false =>
  have h4 : c ≠ 4 := by simp at h4; omega
  (conv => whnf)
  cases h8 : ((c : Int) == 8) with
  | true => 
    have : c = 8 := by simp at h8; omega
    subst this
    (conv => whnf)
    exact fin rfl
  | false =>
  have h8 : c ≠ 8 := by simp at h8; omega
  (conv => whnf)
  exact fin (by unfold flagsI; rw [if_neg h1, if_neg h2, if_neg h3, if_neg h5, if_neg h4, if_neg h8])
structure Road (v : List UInt8) where
  i : Nat
  told : List (UInt8 × List UInt32)
  law : legs v = (legs (v.drop i)).map (told ++ ·)
  le : i ≤ v.length
  few : 2 * told.length ≤ i
theorem LeB.snoc {h : Heap} {nx nx' : Nat} {ρ : Nat → Nat} {Z : List Nat} {fr ex : Bool} {ty sz : Nat} {rows r0 r1 : List (List V)} {x x' : List V} (hf : ∀ x ∈ rows, ∀ v ∈ x, Free v) (e0 : r0 = rows ++ [x]) (e1 : r1 = rows ++ [x']) (hx : LeL h nx ρ nx' Z x x') :
    LeB h nx ρ nx' Z (.arr fr ex ty sz r0) (.arr fr ex ty sz r1) := by
  subst e0; subst e1
  refine LeB.rows (by simp) fun j y y' h1 h2 => ?_
  rcases Nat.lt_or_ge j rows.length with hj | hj
  · rw [List.getElem?_append_left hj] at h1 h2
    rw [h1] at h2; cases h2
    exact LeL.free (hf _ (List.mem_of_getElem? h1))
  · rw [List.getElem?_append_right hj] at h1 h2
    have : j - rows.length = 0 := by
      have := (List.getElem?_eq_some_iff.1 h1).1
      simp at this; omega
    rw [this] at h1 h2
    simp at h1 h2
    subst h1; subst h2
    exact hx
def partsV (v : List UInt8) : V := .tup [encLegs true (if pathE v = 0 then pathA v else []), .int .i64 (pathE v)]
set_option maxRecDepth 100000 in
theorem parts_ok (fr : Bool) (v : List UInt8) (hv : v.length ≤ 1000000) : PCon prog 141 [encB fr v] (partsV v) := by
  refine callV_of (fn := Go.Proofs.Tryz.f141) (body := _) tab_ok mixed rfl rfl (by decide) (by simp [Go.Proofs.Tryz.f141]) ?_
  (conv => whnf)
  refine vcg_loop tab_ok mixed (fun k : Road v => ⟨[(0, encB fr v), (4, .osl 0 2 0 k.told.length), (5, .bool (!(k.told.all fun p => kindOk p.1))), (6, cI k.i)], [(0, some (.arr true false 92 2 (rowsL (wayA k.told))))], 1⟩) (fun k => v.length - k.i) ⟨0, [], by simp, by omega, by simp⟩ (Wk.of id [] ⟨.free (encB_free _ _), .osl0, .bool_of rfl, .int_of rfl, trivial⟩ (LeH.of ⟨⟨by omega, .inr ⟨by simp, _, _, _, _, rfl⟩⟩, trivial⟩ (fun _ _ _ _ h => h) (fun _ _ => rfl) (by omega) (by simp))) (fun k => ?_)
  obtain ⟨i, told, law, le, few⟩ := k
  (conv => whnf)
  intro _
  (conv => whnf)
  split
  · rename_i hc
    have hc : i < v.length := by simpa using hc
    have w2 : IntKind.i64.wrap ((i : Int) + 2) = (i + 2 : Nat) := by rw [wrap64] <;> omega
    have w1 : IntKind.i64.wrap ((i : Int) + 1) = (i + 1 : Nat) := by rw [wrap64] <;> omega
    (conv => whnf)
    intro _
    (conv => whnf)
    cases h1 : decide (((List.map (fun x => [V.int .u8 x.toNat]) v).length : Int) < IntKind.i64.wrap ((i : Int) + 2)) with
    | true =>
      have h1 : v.length < i + 2 := by rw [w2] at h1; simp at h1; omega
      have hd : (v.drop i).length = 1 := by simp; omega
      obtain ⟨x, hx⟩ := List.length_eq_one_iff.1 hd
      have e : pathE v = 294 := by
        rw [hx, legs_one] at law
        simp [pathE, law]
      (conv => whnf)
      rw [show partsV v = .tup [encLegs true [], .int .i64 (pathE v)] by simp [partsV, e], e]
      exact Ends.pure [] (.tupL ⟨.snil_sl, .int_of rfl, trivial⟩) (by simp)
    | false =>
    have h1 : i + 2 ≤ v.length := by rw [w2] at h1; simp at h1; omega
    obtain ⟨x, n, r, hd⟩ : ∃ x n r, v.drop i = x :: n :: r := by
      have hl : 2 ≤ (v.drop i).length := by simp; omega
      rcases hh : v.drop i with _ | ⟨x, _ | ⟨n, r⟩⟩
      · rw [hh] at hl; simp at hl
      · rw [hh] at hl; simp at hl
      · exact ⟨x, n, r, rfl⟩
    have hx : (List.map (fun x => [V.int .u8 x.toNat]) v)[((i : Nat) : Int).toNat]? = some [cB x] := by
      have : (v.drop i)[0]? = v[i + 0]? := List.getElem?_drop
      rw [hd] at this
      rw [Nat.add_zero] at this
      rw [Int.toNat_natCast, List.getElem?_map, ← this]; rfl
    have hn : (List.map (fun x => [V.int .u8 x.toNat]) v)[(IntKind.i64.wrap ((i : Int) + 1)).toNat]? = some [cB n] := by
      have : (v.drop i)[1]? = v[i + 1]? := List.getElem?_drop
      rw [hd] at this
      rw [w1, Int.toNat_natCast, List.getElem?_map, ← this]; rfl
    have hr : r = v.drop (i + 2) := by
      have : (v.drop i).drop 2 = v.drop (i + 2) := List.drop_drop
      rw [hd] at this
      exact this
    have hrl : r.length = v.length - (i + 2) := by rw [hr]; simp
    have hn256 := n.toNat_lt
    have wn : IntKind.i64.wrap (n.toNat : Int) = n.toNat := wrap64 (by omega) (by omega)
    have w4 : IntKind.i64.wrap (IntKind.i64.wrap ((i : Int) + 2) + IntKind.i64.wrap (4 * IntKind.i64.wrap (n.toNat : Int))) = (i + 2 + 4 * n.toNat : Nat) := by
      rw [w2, wn, wrap64 (n := 4 * (n.toNat : Int)) (by omega) (by omega), wrap64] <;> omega
    (conv => whnf)
    refine ⟨rfl, _, ⟨by rw [w1]; omega, hn⟩, ?_⟩
    (conv => whnf)
    intro _
    (conv => whnf)
    cases h2 : decide (((List.map (fun x => [V.int .u8 x.toNat]) v).length : Int) < IntKind.i64.wrap (IntKind.i64.wrap ((i : Int) + 2) + IntKind.i64.wrap (4 * IntKind.i64.wrap (n.toNat : Int)))) with
    | true =>
      have h2 : r.length < 4 * n.toNat := by rw [w4] at h2; simp at h2; omega
      have e : pathE v = 294 := by
        rw [hd, legs_no h2] at law
        simp [pathE, law]
      (conv => whnf)
      rw [show partsV v = .tup [encLegs true [], .int .i64 (pathE v)] by simp [partsV, e], e]
      exact Ends.pure [] (.tupL ⟨.snil_sl, .int_of rfl, trivial⟩) (by simp)
    | false =>
    have h2 : ¬ r.length < 4 * n.toNat := by rw [w4] at h2; simp at h2; omega
    have law' : legs v = (legs (v.drop (i + 2 + 4 * n.toNat))).map ((told ++ [(x, numsK r n.toNat)]) ++ ·) := by
      rw [law, hd, legs_go h2, Option.map_map, hr, List.drop_drop]
      congr 1
      funext l
      simp
    have hall : ((told ++ [(x, numsK r n.toNat)]).all fun p => kindOk p.1) = ((told.all fun p => kindOk p.1) && kindOk x) := by simp
    (conv => whnf)
    cases hk : (told.all fun p => kindOk p.1) with
    | false =>
      (conv => whnf)
      refine ⟨rfl, _, ⟨by omega, hx⟩, ?_⟩
      (conv => whnf)
      refine vcg_loop tab_ok mixed (fun j : {j : Nat // j ≤ n.toNat} => ⟨[(0, encB fr v), (4, .osl 0 2 0 told.length), (5, .bool (!((told ++ [(x, numsK r n.toNat)]).all fun p => kindOk p.1))), (6, cI i), (7, .ptr 1 0), (8, cI j.1)], [(0, some (.arr true false 92 2 (rowsL (wayA told)))), (1, some (.var true 92 [.bool (x == 1), .osl 2 1 0 j.1])), (2, some (.arr true false 22 1 (rowsW (numsK r j.1))))], 3⟩) (fun j => n.toNat - j.1) ⟨0, by omega⟩ ?_ (fun j => ?_)
      · refine Wk.of id [] ⟨.free (encB_free _ _), .osl_of rfl (by omega) rfl, .bool_of ?_, .int_of rfl, .ptr rfl (by omega), .int_of rfl, trivial⟩ (LeH.of ⟨⟨by omega, .inl ⟨by simp, _, rfl, LeB.free (blk := .arr true false 92 2 (rowsL (wayA told))) (rowsLegs_free true _)⟩⟩, ⟨by omega, .inl ⟨by simp, _, rfl, id, rfl, .bool_of (u8_is1 x), .osl0, trivial⟩⟩, ⟨by omega, .inr ⟨by simp, _, _, _, _, rfl⟩⟩, trivial⟩ (fun _ _ _ _ h => h) (fun _ _ => rfl) (by omega) (by simp))
        symm
        exact (by rw [hall, hk]; rfl)
      obtain ⟨j, hj⟩ := j
      (conv => whnf)
      refine ⟨rfl, _, ⟨by rw [w1]; omega, hn⟩, ?_⟩
      (conv => whnf)
      split
      · rename_i hjc
        have hjc : j < n.toNat := by rw [wn] at hjc; simp at hjc; omega
        have wa : IntKind.i64.wrap (IntKind.i64.wrap ((i : Int) + 2) + IntKind.i64.wrap (4 * (j : Int))) = (i + 2 + 4 * j : Nat) := by rw [w2, wrap64 (n := 4 * (j : Int)) (by omega) (by omega), wrap64] <;> omega
        have wb : IntKind.i64.wrap (IntKind.i64.wrap ((i : Int) + 6) + IntKind.i64.wrap (4 * (j : Int))) = (i + 2 + 4 * j + 4 : Nat) := by rw [wrap64 (n := (i : Int) + 6) (by omega) (by omega), wrap64 (n := 4 * (j : Int)) (by omega) (by omega), wrap64] <;> omega
        have hsl : V.sl fr 1 (List.drop (IntKind.i64.wrap (IntKind.i64.wrap ((i : Int) + 2) + IntKind.i64.wrap (4 * (j : Int)))).toNat (List.take (IntKind.i64.wrap (IntKind.i64.wrap ((i : Int) + 6) + IntKind.i64.wrap (4 * (j : Int)))).toNat (List.map (fun x => [V.int .u8 x.toNat]) v))) = encB fr ((r.drop (4 * j)).take 4) := by
          rw [wa, wb, Int.toNat_natCast, Int.toNat_natCast, ← List.map_take, ← List.map_drop, List.drop_take, hr, List.drop_drop, show i + 2 + 4 * j + 4 - (i + 2 + 4 * j) = 4 by omega]
          rfl
        (conv => whnf)
        refine ⟨rfl, ⟨by rw [wa]; omega, by rw [wb]; omega, by rw [wa, wb]; simp; try omega, by rw [wb]; simp; omega⟩, ?_⟩
        (conv => whnf)
        refine ⟨cW (wordOf ((r.drop (4 * j)).take 4)), [], fun h nx _ => pureV_pure (word_ok fr _) ⟨.eq_of hsl (encB_free _ _), trivial⟩, by simp, ?_⟩
        (conv => whnf)
        refine ⟨rfl, by simp, ⟨rfl, rfl, rfl, rfl, by decide⟩, by simp [numsK_len], ⟨by simp [tab, tabOf, nth]; omega, by simp; omega⟩, ?_⟩
        (conv => whnf)
        refine ⟨by kernel_rfl, ?_⟩
        (conv => whnf)
        refine ⟨⟨j + 1, by omega⟩, Wk.of (renOf [(2, 4)]) [] ⟨.free (encB_free _ _), .osl_of rfl (by omega) rfl, .free .bool, .int_of rfl, .ptr rfl (by omega), .int_of ?_, trivial⟩ (LeH.of ⟨⟨by omega, .inl ⟨by simp, _, rfl, LeB.free (blk := .arr true false 92 2 (rowsL (wayA told))) (rowsLegs_free true _)⟩⟩, ⟨by omega, .inl ⟨by simp, _, rfl, id, rfl, .free .bool, .osl_of rfl (by omega) (by simp), trivial⟩⟩, ⟨by omega, .inl ⟨by simp, _, rfl, LeB.eq_of ?_ (rowsW_free _)⟩⟩, trivial⟩ (show ∀ b ∈ [0, 1, 2], ∀ b' ∈ [0, 1, 2], renOf [(2, 4)] b = renOf [(2, 4)] b' → b = b' by decide) (show ∀ b, b < 0 → renOf [(2, 4)] b = b by decide) (by omega) (by simp)), by simp only; omega⟩
        · rw [wrap64] <;> (simp only; omega)
        · simp only
          rw [numsK_succ, List.take_of_length_le (by simp [numsK_len])]
          simp
      · rename_i hjc
        have hjc : j = n.toNat := by rw [wn] at hjc; simp at hjc; omega
        subst hjc
        (conv => whnf)
        refine ⟨rfl, by simp, ⟨rfl, rfl, rfl, rfl, by decide⟩, by simp [wayA], ⟨by simp [tab, tabOf, nth]; omega, by simp; omega⟩, ?_⟩
        (conv => whnf)
        refine ⟨rfl, _, ⟨by rw [w1]; omega, hn⟩, ?_⟩
        (conv => whnf)
        refine ⟨⟨i + 2 + 4 * n.toNat, told ++ [(x, numsK r n.toNat)], law', by omega, by simp; omega⟩, Wk.of (renOf [(0, 4)]) [2] ⟨.free (encB_free _ _), .osl_of rfl (by omega) (by simp), .free .bool, .int_of w4, trivial⟩ (LeH.of ⟨⟨by omega, .inl ⟨by simp [renOf], _, rfl, LeB.snoc (x := [.bool (x == 1), .osl 2 1 0 n.toNat]) (x' := encLeg true (legOf (x, numsK r n.toNat))) (rowsLegs_free true (wayA told)) ?_ ?_ ?_⟩⟩, trivial⟩ (by simp) (fun b hb => by omega) (by omega) ?_), by simp only; omega⟩
        · rw [List.take_of_length_le (by simp [wayA])]
          simp [wayA]
        · simp [wayA, rowsL]
        · exact ⟨.bool_of rfl, LeV.freeze_of (by simp) rfl (by simp [numsK_len]) (rowsW_free _) (by rw [List.drop_zero]; exact List.take_of_length_le (by simp [numsK_len])), trivial⟩
        · exact one_none rfl
    | true =>
      (conv => whnf)
      refine ⟨rfl, _, ⟨by omega, hx⟩, ?_⟩
      (conv => whnf)
      cases h1 : ((x.toNat : Int) != 1) with
      | false =>
        have h1 : kindOk x = true := by
          have := congrArg Bool.not h1
          simp only [bne, Bool.not_not, Bool.not_false, u8_is1] at this
          simp [kindOk, this]
        (conv => whnf)
        refine ⟨rfl, _, ⟨by omega, hx⟩, ?_⟩
        (conv => whnf)
        refine vcg_loop tab_ok mixed (fun j : {j : Nat // j ≤ n.toNat} => ⟨[(0, encB fr v), (4, .osl 0 2 0 told.length), (5, .bool (!((told ++ [(x, numsK r n.toNat)]).all fun p => kindOk p.1))), (6, cI i), (7, .ptr 1 0), (8, cI j.1)], [(0, some (.arr true false 92 2 (rowsL (wayA told)))), (1, some (.var true 92 [.bool (x == 1), .osl 2 1 0 j.1])), (2, some (.arr true false 22 1 (rowsW (numsK r j.1))))], 3⟩) (fun j => n.toNat - j.1) ⟨0, by omega⟩ ?_ (fun j => ?_)
        · refine Wk.of id [] ⟨.free (encB_free _ _), .osl_of rfl (by omega) rfl, .bool_of ?_, .int_of rfl, .ptr rfl (by omega), .int_of rfl, trivial⟩ (LeH.of ⟨⟨by omega, .inl ⟨by simp, _, rfl, LeB.free (blk := .arr true false 92 2 (rowsL (wayA told))) (rowsLegs_free true _)⟩⟩, ⟨by omega, .inl ⟨by simp, _, rfl, id, rfl, .bool_of (u8_is1 x), .osl0, trivial⟩⟩, ⟨by omega, .inr ⟨by simp, _, _, _, _, rfl⟩⟩, trivial⟩ (fun _ _ _ _ h => h) (fun _ _ => rfl) (by omega) (by simp))
          symm
          exact (by rw [hall, hk, h1]; rfl)
        obtain ⟨j, hj⟩ := j
        (conv => whnf)
        refine ⟨rfl, _, ⟨by rw [w1]; omega, hn⟩, ?_⟩
        (conv => whnf)
        split
        · rename_i hjc
          have hjc : j < n.toNat := by rw [wn] at hjc; simp at hjc; omega
          have wa : IntKind.i64.wrap (IntKind.i64.wrap ((i : Int) + 2) + IntKind.i64.wrap (4 * (j : Int))) = (i + 2 + 4 * j : Nat) := by rw [w2, wrap64 (n := 4 * (j : Int)) (by omega) (by omega), wrap64] <;> omega
          have wb : IntKind.i64.wrap (IntKind.i64.wrap ((i : Int) + 6) + IntKind.i64.wrap (4 * (j : Int))) = (i + 2 + 4 * j + 4 : Nat) := by rw [wrap64 (n := (i : Int) + 6) (by omega) (by omega), wrap64 (n := 4 * (j : Int)) (by omega) (by omega), wrap64] <;> omega
          have hsl : V.sl fr 1 (List.drop (IntKind.i64.wrap (IntKind.i64.wrap ((i : Int) + 2) + IntKind.i64.wrap (4 * (j : Int)))).toNat (List.take (IntKind.i64.wrap (IntKind.i64.wrap ((i : Int) + 6) + IntKind.i64.wrap (4 * (j : Int)))).toNat (List.map (fun x => [V.int .u8 x.toNat]) v))) = encB fr ((r.drop (4 * j)).take 4) := by
            rw [wa, wb, Int.toNat_natCast, Int.toNat_natCast, ← List.map_take, ← List.map_drop, List.drop_take, hr, List.drop_drop, show i + 2 + 4 * j + 4 - (i + 2 + 4 * j) = 4 by omega]
            rfl
          (conv => whnf)
          refine ⟨rfl, ⟨by rw [wa]; omega, by rw [wb]; omega, by rw [wa, wb]; simp; try omega, by rw [wb]; simp; omega⟩, ?_⟩
          (conv => whnf)
          refine ⟨cW (wordOf ((r.drop (4 * j)).take 4)), [], fun h nx _ => pureV_pure (word_ok fr _) ⟨.eq_of hsl (encB_free _ _), trivial⟩, by simp, ?_⟩
          (conv => whnf)
          refine ⟨rfl, by simp, ⟨rfl, rfl, rfl, rfl, by decide⟩, by simp [numsK_len], ⟨by simp [tab, tabOf, nth]; omega, by simp; omega⟩, ?_⟩
          (conv => whnf)
          refine ⟨by kernel_rfl, ?_⟩
          (conv => whnf)
          refine ⟨⟨j + 1, by omega⟩, Wk.of (renOf [(2, 4)]) [] ⟨.free (encB_free _ _), .osl_of rfl (by omega) rfl, .free .bool, .int_of rfl, .ptr rfl (by omega), .int_of ?_, trivial⟩ (LeH.of ⟨⟨by omega, .inl ⟨by simp, _, rfl, LeB.free (blk := .arr true false 92 2 (rowsL (wayA told))) (rowsLegs_free true _)⟩⟩, ⟨by omega, .inl ⟨by simp, _, rfl, id, rfl, .free .bool, .osl_of rfl (by omega) (by simp), trivial⟩⟩, ⟨by omega, .inl ⟨by simp, _, rfl, LeB.eq_of ?_ (rowsW_free _)⟩⟩, trivial⟩ (show ∀ b ∈ [0, 1, 2], ∀ b' ∈ [0, 1, 2], renOf [(2, 4)] b = renOf [(2, 4)] b' → b = b' by decide) (show ∀ b, b < 0 → renOf [(2, 4)] b = b by decide) (by omega) (by simp)), by simp only; omega⟩
          · rw [wrap64] <;> (simp only; omega)
          · simp only
            rw [numsK_succ, List.take_of_length_le (by simp [numsK_len])]
            simp
        · rename_i hjc
          have hjc : j = n.toNat := by rw [wn] at hjc; simp at hjc; omega
          subst hjc
          (conv => whnf)
          refine ⟨rfl, by simp, ⟨rfl, rfl, rfl, rfl, by decide⟩, by simp [wayA], ⟨by simp [tab, tabOf, nth]; omega, by simp; omega⟩, ?_⟩
          (conv => whnf)
          refine ⟨rfl, _, ⟨by rw [w1]; omega, hn⟩, ?_⟩
          (conv => whnf)
          refine ⟨⟨i + 2 + 4 * n.toNat, told ++ [(x, numsK r n.toNat)], law', by omega, by simp; omega⟩, Wk.of (renOf [(0, 4)]) [2] ⟨.free (encB_free _ _), .osl_of rfl (by omega) (by simp), .free .bool, .int_of w4, trivial⟩ (LeH.of ⟨⟨by omega, .inl ⟨by simp [renOf], _, rfl, LeB.snoc (x := [.bool (x == 1), .osl 2 1 0 n.toNat]) (x' := encLeg true (legOf (x, numsK r n.toNat))) (rowsLegs_free true (wayA told)) ?_ ?_ ?_⟩⟩, trivial⟩ (by simp) (fun b hb => by omega) (by omega) ?_), by simp only; omega⟩
          · rw [List.take_of_length_le (by simp [wayA])]
            simp [wayA]
          · simp [wayA, rowsL]
          · exact ⟨.bool_of rfl, LeV.freeze_of (by simp) rfl (by simp [numsK_len]) (rowsW_free _) (by rw [List.drop_zero]; exact List.take_of_length_le (by simp [numsK_len])), trivial⟩
          · exact one_none rfl
      | true =>
        have h1 : kindOk x = (x == 2) := by
          have := congrArg Bool.not h1
          simp only [bne, Bool.not_not, Bool.not_true, u8_is1] at this
          simp [kindOk, this]
        (conv => whnf)
        refine ⟨rfl, _, ⟨by omega, hx⟩, ?_⟩
        (conv => whnf)
        refine ⟨rfl, _, ⟨by omega, hx⟩, ?_⟩
        (conv => whnf)
        refine vcg_loop tab_ok mixed (fun j : {j : Nat // j ≤ n.toNat} => ⟨[(0, encB fr v), (4, .osl 0 2 0 told.length), (5, .bool (!((told ++ [(x, numsK r n.toNat)]).all fun p => kindOk p.1))), (6, cI i), (7, .ptr 1 0), (8, cI j.1)], [(0, some (.arr true false 92 2 (rowsL (wayA told)))), (1, some (.var true 92 [.bool (x == 1), .osl 2 1 0 j.1])), (2, some (.arr true false 22 1 (rowsW (numsK r j.1))))], 3⟩) (fun j => n.toNat - j.1) ⟨0, by omega⟩ ?_ (fun j => ?_)
        · refine Wk.of id [] ⟨.free (encB_free _ _), .osl_of rfl (by omega) rfl, .bool_of ?_, .int_of rfl, .ptr rfl (by omega), .int_of rfl, trivial⟩ (LeH.of ⟨⟨by omega, .inl ⟨by simp, _, rfl, LeB.free (blk := .arr true false 92 2 (rowsL (wayA told))) (rowsLegs_free true _)⟩⟩, ⟨by omega, .inl ⟨by simp, _, rfl, id, rfl, .bool_of (u8_is1 x), .osl0, trivial⟩⟩, ⟨by omega, .inr ⟨by simp, _, _, _, _, rfl⟩⟩, trivial⟩ (fun _ _ _ _ h => h) (fun _ _ => rfl) (by omega) (by simp))
          symm
          exact (by rw [hall, hk, h1]; simp [u8_is2, bne])
        obtain ⟨j, hj⟩ := j
        (conv => whnf)
        refine ⟨rfl, _, ⟨by rw [w1]; omega, hn⟩, ?_⟩
        (conv => whnf)
        split
        · rename_i hjc
          have hjc : j < n.toNat := by rw [wn] at hjc; simp at hjc; omega
          have wa : IntKind.i64.wrap (IntKind.i64.wrap ((i : Int) + 2) + IntKind.i64.wrap (4 * (j : Int))) = (i + 2 + 4 * j : Nat) := by rw [w2, wrap64 (n := 4 * (j : Int)) (by omega) (by omega), wrap64] <;> omega
          have wb : IntKind.i64.wrap (IntKind.i64.wrap ((i : Int) + 6) + IntKind.i64.wrap (4 * (j : Int))) = (i + 2 + 4 * j + 4 : Nat) := by rw [wrap64 (n := (i : Int) + 6) (by omega) (by omega), wrap64 (n := 4 * (j : Int)) (by omega) (by omega), wrap64] <;> omega
          have hsl : V.sl fr 1 (List.drop (IntKind.i64.wrap (IntKind.i64.wrap ((i : Int) + 2) + IntKind.i64.wrap (4 * (j : Int)))).toNat (List.take (IntKind.i64.wrap (IntKind.i64.wrap ((i : Int) + 6) + IntKind.i64.wrap (4 * (j : Int)))).toNat (List.map (fun x => [V.int .u8 x.toNat]) v))) = encB fr ((r.drop (4 * j)).take 4) := by
            rw [wa, wb, Int.toNat_natCast, Int.toNat_natCast, ← List.map_take, ← List.map_drop, List.drop_take, hr, List.drop_drop, show i + 2 + 4 * j + 4 - (i + 2 + 4 * j) = 4 by omega]
            rfl
          (conv => whnf)
          refine ⟨rfl, ⟨by rw [wa]; omega, by rw [wb]; omega, by rw [wa, wb]; simp; try omega, by rw [wb]; simp; omega⟩, ?_⟩
          (conv => whnf)
          refine ⟨cW (wordOf ((r.drop (4 * j)).take 4)), [], fun h nx _ => pureV_pure (word_ok fr _) ⟨.eq_of hsl (encB_free _ _), trivial⟩, by simp, ?_⟩
          (conv => whnf)
          refine ⟨rfl, by simp, ⟨rfl, rfl, rfl, rfl, by decide⟩, by simp [numsK_len], ⟨by simp [tab, tabOf, nth]; omega, by simp; omega⟩, ?_⟩
          (conv => whnf)
          refine ⟨by kernel_rfl, ?_⟩
          (conv => whnf)
          refine ⟨⟨j + 1, by omega⟩, Wk.of (renOf [(2, 4)]) [] ⟨.free (encB_free _ _), .osl_of rfl (by omega) rfl, .free .bool, .int_of rfl, .ptr rfl (by omega), .int_of ?_, trivial⟩ (LeH.of ⟨⟨by omega, .inl ⟨by simp, _, rfl, LeB.free (blk := .arr true false 92 2 (rowsL (wayA told))) (rowsLegs_free true _)⟩⟩, ⟨by omega, .inl ⟨by simp, _, rfl, id, rfl, .free .bool, .osl_of rfl (by omega) (by simp), trivial⟩⟩, ⟨by omega, .inl ⟨by simp, _, rfl, LeB.eq_of ?_ (rowsW_free _)⟩⟩, trivial⟩ (show ∀ b ∈ [0, 1, 2], ∀ b' ∈ [0, 1, 2], renOf [(2, 4)] b = renOf [(2, 4)] b' → b = b' by decide) (show ∀ b, b < 0 → renOf [(2, 4)] b = b by decide) (by omega) (by simp)), by simp only; omega⟩
          · rw [wrap64] <;> (simp only; omega)
          · simp only
            rw [numsK_succ, List.take_of_length_le (by simp [numsK_len])]
            simp
        · rename_i hjc
          have hjc : j = n.toNat := by rw [wn] at hjc; simp at hjc; omega
          subst hjc
          (conv => whnf)
          refine ⟨rfl, by simp, ⟨rfl, rfl, rfl, rfl, by decide⟩, by simp [wayA], ⟨by simp [tab, tabOf, nth]; omega, by simp; omega⟩, ?_⟩
          (conv => whnf)
          refine ⟨rfl, _, ⟨by rw [w1]; omega, hn⟩, ?_⟩
          (conv => whnf)
          refine ⟨⟨i + 2 + 4 * n.toNat, told ++ [(x, numsK r n.toNat)], law', by omega, by simp; omega⟩, Wk.of (renOf [(0, 4)]) [2] ⟨.free (encB_free _ _), .osl_of rfl (by omega) (by simp), .free .bool, .int_of w4, trivial⟩ (LeH.of ⟨⟨by omega, .inl ⟨by simp [renOf], _, rfl, LeB.snoc (x := [.bool (x == 1), .osl 2 1 0 n.toNat]) (x' := encLeg true (legOf (x, numsK r n.toNat))) (rowsLegs_free true (wayA told)) ?_ ?_ ?_⟩⟩, trivial⟩ (by simp) (fun b hb => by omega) (by omega) ?_), by simp only; omega⟩
          · rw [List.take_of_length_le (by simp [wayA])]
            simp [wayA]
          · simp [wayA, rowsL]
          · exact ⟨.bool_of rfl, LeV.freeze_of (by simp) rfl (by simp [numsK_len]) (rowsW_free _) (by rw [List.drop_zero]; exact List.take_of_length_le (by simp [numsK_len])), trivial⟩
          · exact one_none rfl
  · rename_i hc
    have hc : i = v.length := by simp at hc; omega
    have hl : legs v = some told := by rw [law, hc, List.drop_length, legs_nil]; simp
    have hfz : LeV [(0, some (.arr true false 92 2 (rowsL (wayA told))))] 1 id 0 [0] (.osl 0 2 0 told.length) (encLegs true (wayA told)) := LeV.freeze_of (by simp) rfl (by simp [wayA]) (rowsLegs_free true (wayA told)) (by rw [List.drop_zero]; exact List.take_of_length_le (by simp [wayA]))
    (conv => whnf)
    cases hk : (told.all fun p => kindOk p.1) with
    | false =>
      have e : pathE v = 296 := by simp only [pathE, hl, hk]; rfl
      (conv => whnf)
      rw [show partsV v = .tup [encLegs true [], .int .i64 (pathE v)] by simp [partsV, e], e]
      exact Ends.pure [] (.tupL ⟨.snil_sl, .int_of rfl, trivial⟩) (by simp)
    | true =>
      (conv => whnf)
      refine callV_lend [0] (ref_path_ok false (wayA told)) ⟨.less (v1 := encLegs true (wayA told)) hfz .legs, trivial⟩ (by intro v hv; simp at hv; subst hv; exact encLegs_cold _) (one_none rfl) .bool ?_
      cases hp : pathOk (wayA told) with
      | false =>
        have e : pathE v = 296 := by simp only [pathE, hl, hk, show told.map legOf = wayA told from rfl, hp]; rfl
        (conv => whnf)
        rw [show partsV v = .tup [encLegs true [], .int .i64 (pathE v)] by simp [partsV, e], e]
        exact Ends.pure [] (.tupL ⟨.snil_sl, .int_of rfl, trivial⟩) (by simp)
      | true =>
        have e : pathE v = 0 := by simp only [pathE, hl, hk, show told.map legOf = wayA told from rfl, hp]; rfl
        have ep : pathA v = wayA told := by simp only [pathA, hl]; rfl
        (conv => whnf)
        rw [show partsV v = .tup [encLegs true (wayA told), .int .i64 0] by simp [partsV, e, ep]]
        exact Ends.pure [0] (.tupL ⟨hfz, .int_of rfl, trivial⟩) (one_none rfl)
end Go.Proofs.YtehhligadnlijaaGreatDoor
set_option linter.unusedVariables false
set_option linter.unusedSimpArgs false
namespace Go.Proofs.YtehhligadnlijaaGreatDoor
open Go.RowKit
open Go.Proofs.Tryz (prog)
attribute [local irreducible] CallV RoundV
def retA (c : Nat) (a : Attrs) (v : List UInt8) : Attrs := if lowE c v = 0 then lowA c a v else if lowE c v = 294 ∧ c ≠ 2 then a else if c = 2 then { a with path := [] } else lowA c a v
def valueV (c : Nat) (a : Attrs) (v : List UInt8) : V := .tup [encA true (retA c a v), .int .i64 (lowE c v)]
theorem Ends.valE {s : St} {c : Nat} {a : Attrs} {v : List UInt8} {w : V} {e : Int} {a' : Attrs} (Z : List Nat) (he : lowE c v = e) (ha : retA c a v = a') (hw : LeV s.h s.nx id 0 Z w (encA true a')) (hz : ∀ z ∈ Z, hget s.h z ≠ none) : ∃ v1 h' nx', Ends 0 s (.tup [w, .int .i64 e]) v1 h' nx' ∧ (v1 = valueV c a v ∧ h' = [] ∧ nx' = 0) := by
  subst he; subst ha
  exact Ends.pure Z (.tupL ⟨hw, .int_of rfl, trivial⟩) hz
theorem Ends.valK {s : St} {c : Nat} {a : Attrs} {v : List UInt8} {w : V} (he : lowE c v = 0) (Z : List Nat) (hw : LeV s.h s.nx id 0 Z w (encA true (lowA c a v))) (hz : ∀ z ∈ Z, hget s.h z ≠ none) : ∃ v1 h' nx', Ends 0 s (.tup [w, .int .i64 0]) v1 h' nx' ∧ (v1 = valueV c a v ∧ h' = [] ∧ nx' = 0) := by
  exact Ends.valE Z he (by simp [retA, he]) hw hz
set_option maxRecDepth 100000 in
theorem value1_ok (fr : Bool) (a : Attrs) (v : List UInt8) : PCon prog 111 [encA true a, cI 1, encB fr v] (valueV 1 a v) := by
  refine callV_of (fn := Go.Proofs.Tryz.f111) (body := _) tab_ok mixed rfl rfl (by decide) (by simp [Go.Proofs.Tryz.f111]) ?_
  (conv => whnf)
  intro _
  (conv => whnf)
  cases h : (((List.map (fun x => [V.int .u8 x.toNat]) v).length : Int) != 1) with
  | true =>
    have h : v.length ≠ 1 := by simp at h; omega
    have e : lowE 1 v = 294 := by simp [lowE, h]
    (conv => whnf)
    exact Ends.valE [] e (by simp [retA, e]) (.eq_of rfl (encA_free true a)) (by simp)
  | false =>
    have h : v.length = 1 := by simp at h; omega
    obtain ⟨x, rfl⟩ := List.length_eq_one_iff.1 h
    (conv => whnf)
    refine ⟨rfl, [cB x], ⟨by decide, rfl⟩, ?_⟩
    (conv => whnf)
    refine ⟨rfl, [cB x], ⟨by decide, rfl⟩, ?_⟩
    (conv => whnf)
    split
    · rename_i h2
      have e : lowE 1 [x] = 295 := by
        simp at h2
        simp [lowE]
        omega
      (conv => whnf)
      exact Ends.valE [] e (by simp [retA, e]) (.eq_of rfl (encA_free true (lowA 1 a [x]))) (by simp)
    · rename_i h2
      (conv => whnf)
      refine Ends.valK ?_ [] (.eq_of rfl (encA_free true (lowA 1 a [x]))) (by simp)
      simp at h2
      simp [lowE]
      omega
set_option maxRecDepth 100000 in
theorem value3_ok (fr : Bool) (a : Attrs) (v : List UInt8) : PCon prog 111 [encA true a, cI 3, encB fr v] (valueV 3 a v) := by
  refine callV_of (fn := Go.Proofs.Tryz.f111) (body := _) tab_ok mixed rfl rfl (by decide) (by simp [Go.Proofs.Tryz.f111]) ?_
  (conv => whnf)
  intro _
  (conv => whnf)
  cases h : (((List.map (fun x => [V.int .u8 x.toNat]) v).length : Int) != 4) with
  | true =>
    have h : v.length ≠ 4 := by simp at h; omega
    have e : lowE 3 v = 294 := by simp [lowE, h]
    (conv => whnf)
    exact Ends.valE [] e (by simp [retA, e]) (.eq_of rfl (encA_free true a)) (by simp)
  | false =>
    have h : v.length = 4 := by simp at h; omega
    (conv => whnf)
    refine callV_pure (word_ok fr v) ⟨.free (encB_free _ _), trivial⟩ ?_
    (conv => whnf)
    split
    · rename_i h2
      have h2 : wordOf v = 0 := UInt32.toNat_inj.1 (by simp at h2; simp; omega)
      have e : lowE 3 v = 297 := by simp [lowE, h, h2]
      (conv => whnf)
      exact Ends.valE [] e (by simp [retA, e]) (.eq_of rfl (encA_free true (lowA 3 a v))) (by simp)
    · rename_i h2
      have h2 : wordOf v ≠ 0 := fun h => by rw [h] at h2; simp at h2
      (conv => whnf)
      exact Ends.valK (by simp [lowE, h, h2]) [] (.eq_of rfl (encA_free true (lowA 3 a v))) (by simp)
set_option maxRecDepth 100000 in
theorem value4_ok (fr : Bool) (a : Attrs) (v : List UInt8) : PCon prog 111 [encA true a, cI 4, encB fr v] (valueV 4 a v) := by
  refine callV_of (fn := Go.Proofs.Tryz.f111) (body := _) tab_ok mixed rfl rfl (by decide) (by simp [Go.Proofs.Tryz.f111]) ?_
  (conv => whnf)
  intro _
  (conv => whnf)
  cases h : (((List.map (fun x => [V.int .u8 x.toNat]) v).length : Int) != 4) with
  | true =>
    have h : v.length ≠ 4 := by simp at h; omega
    have e : lowE 4 v = 294 := by simp [lowE, h]
    (conv => whnf)
    exact Ends.valE [] e (by simp [retA, e]) (.eq_of rfl (encA_free true a)) (by simp)
  | false =>
    have h : v.length = 4 := by simp at h; omega
    (conv => whnf)
    refine callV_pure (word_ok fr v) ⟨.free (encB_free _ _), trivial⟩ ?_
    (conv => whnf)
    exact Ends.valK (by simp [lowE, h]) [] (.eq_of rfl (encA_free true (lowA 4 a v))) (by simp)
set_option maxRecDepth 100000 in
theorem value5_ok (fr : Bool) (a : Attrs) (v : List UInt8) : PCon prog 111 [encA true a, cI 5, encB fr v] (valueV 5 a v) := by
  refine callV_of (fn := Go.Proofs.Tryz.f111) (body := _) tab_ok mixed rfl rfl (by decide) (by simp [Go.Proofs.Tryz.f111]) ?_
  (conv => whnf)
  intro _
  (conv => whnf)
  cases h : (((List.map (fun x => [V.int .u8 x.toNat]) v).length : Int) != 4) with
  | true =>
    have h : v.length ≠ 4 := by simp at h; omega
    have e : lowE 5 v = 294 := by simp [lowE, h]
    (conv => whnf)
    exact Ends.valE [] e (by simp [retA, e]) (.eq_of rfl (encA_free true a)) (by simp)
  | false =>
    have h : v.length = 4 := by simp at h; omega
    (conv => whnf)
    refine callV_pure (word_ok fr v) ⟨.free (encB_free _ _), trivial⟩ ?_
    (conv => whnf)
    exact Ends.valK (by simp [lowE, h]) [] (.eq_of rfl (encA_free true (lowA 5 a v))) (by simp)
set_option maxRecDepth 100000 in
theorem value2_ok (fr : Bool) (a : Attrs) (v : List UInt8) (hv : v.length ≤ 1000000) : PCon prog 111 [encA true a, cI 2, encB fr v] (valueV 2 a v) := by
  refine callV_of (fn := Go.Proofs.Tryz.f111) (body := _) tab_ok mixed rfl rfl (by decide) (by simp [Go.Proofs.Tryz.f111]) ?_
  (conv => whnf)
  refine callV_pure (parts_ok fr v hv) ⟨.free (encB_free _ _), trivial⟩ ?_
  (conv => whnf)
  by_cases he : pathE v = 0
  · rw [show (if pathE v = 0 then pathA v else []) = pathA v by simp [he], he]
    exact Ends.valK he [] (.eq_of rfl (encA_free true (lowA 2 a v))) (by simp)
  · rw [show (if pathE v = 0 then pathA v else []) = [] by simp [he]]
    have e : lowE 2 v ≠ 0 := he
    exact Ends.valE [] rfl (by simp [retA, e]) (.eq_of rfl (encA_free true { a with path := [] })) (by simp)
end Go.Proofs.YtehhligadnlijaaGreatDoor
set_option linter.unusedVariables false
set_option linter.unusedSimpArgs false
namespace Go.Proofs.YtehhligadnlijaaGreatDoor
open Go.RowKit
open Go.Proofs.Tryz (prog)
attribute [local irreducible] CallV RoundV
def cellsG (a : Attrs) (t : V) : List V := [cB a.origin, encLegs true a.path, cW a.next, .bool a.hasMed, cW a.med, .bool a.hasPref, cW a.pref, t]
theorem e298 {a : Attrs} {v : List UInt8} (h : lowE 8 v = 298) : lowE 8 v = 298 ∧ retA 8 a v = lowA 8 a v := ⟨h, by simp [retA, h]⟩
set_option maxRecDepth 100000 in
theorem value8_ok (fr : Bool) (a : Attrs) (v : List UInt8) (hv : v.length ≤ 1000000) : PCon prog 111 [encA true a, cI 8, encB fr v] (valueV 8 a v) := by
  refine callV_of (fn := Go.Proofs.Tryz.f111) (body := _) tab_ok mixed rfl rfl (by decide) (by simp [Go.Proofs.Tryz.f111]) ?_
  (conv => whnf)
  intro _
  (conv => whnf)
  cases h : (((List.map (fun x => [V.int .u8 x.toNat]) v).length : Int) == 0) with
  | true =>
    have h : v.length = 0 := by simpa using h
    (conv => whnf)
    exact Ends.valE [] (show lowE 8 v = 294 by simp [lowE, h]) (by simp [retA, show lowE 8 v = 294 by simp [lowE, h]]) (.eq_of rfl (encA_free true a)) (by simp)
  | false =>
  have h0 : v.length ≠ 0 := by simpa using h
  (conv => whnf)
  intro _
  (conv => whnf)
  refine ⟨by decide, ?_⟩
  (conv => whnf)
  cases h4 : (((List.map (fun x => [V.int .u8 x.toNat]) v).length : Int).tmod 4 != 0) with
  | true =>
    have h4 : v.length % 4 ≠ 0 := by rw [List.length_map, tmod4] at h4; simp at h4; omega
    (conv => whnf)
    exact Ends.valE [] (show lowE 8 v = 294 by simp [lowE, h4]) (by simp [retA, show lowE 8 v = 294 by simp [lowE, h4]]) (.eq_of rfl (encA_free true a)) (by simp)
  | false =>
  have h4 : v.length % 4 = 0 := by rw [List.length_map, tmod4] at h4; simp at h4; omega
  obtain ⟨m, hm⟩ : ∃ m, v.length = 4 * m := ⟨v.length / 4, by omega⟩
  have hmd : v.length / 4 = m := by omega
  (conv => whnf)
  refine vcg_loop tab_ok mixed (fun j : {j : Nat // j ≤ m} => ⟨[(2, encB fr v), (3, .ptr 0 0), (6, .ptr 1 0), (10, cI (4 * j.1))], [(0, some (.var true 45 (cellsG a (.osl 2 1 0 j.1)))), (1, some (.var true 45 zeroA)), (2, some (.arr true false 22 1 (rowsW (numsK v j.1))))], 3⟩) (fun j => m - j.1) ⟨0, by omega⟩ ?_ (fun j => ?_)
  · refine Wk.of id [] ⟨.free (encB_free _ _), .ptr rfl (by omega), .ptr rfl (by omega), .int_of rfl, trivial⟩ (LeH.of ⟨⟨by omega, .inl ⟨by simp, _, rfl, id, rfl, .free .int, .free (encLegs_free _ _), .free .int, .free .bool, .free .int, .free .bool, .free .int, .osl0, trivial⟩⟩, ⟨by omega, .inl ⟨by simp, _, rfl, id, rfl, LeL.free zeroA_free⟩⟩, ⟨by omega, .inr ⟨by simp, _, _, _, _, rfl⟩⟩, trivial⟩ (fun _ _ _ _ h => h) (fun _ _ => rfl) (by omega) (by simp))
  obtain ⟨j, hj⟩ := j
  (conv => whnf)
  intro _
  (conv => whnf)
  split
  · rename_i hc
    have hc : j < m := by simp at hc; omega
    have wb : IntKind.i64.wrap (((4 * j : Nat) : Int) + 4) = (4 * (j + 1) : Nat) := by rw [wrap64] <;> omega
    have hsl : V.sl fr 1 (List.drop ((4 * j : Nat) : Int).toNat (List.take (IntKind.i64.wrap (((4 * j : Nat) : Int) + 4)).toNat (List.map (fun x => [V.int .u8 x.toNat]) v))) = encB fr ((v.drop (4 * j)).take 4) := by
      rw [wb, Int.toNat_natCast, Int.toNat_natCast, ← List.map_take, ← List.map_drop, List.drop_take, show 4 * (j + 1) - 4 * j = 4 by omega]
      rfl
    (conv => whnf)
    refine ⟨rfl, ⟨by omega, by rw [wb]; omega, by rw [wb]; simp; try omega, by rw [wb]; simp; omega⟩, ?_⟩
    (conv => whnf)
    refine ⟨cW (wordOf ((v.drop (4 * j)).take 4)), [], fun h nx _ => pureV_pure (word_ok fr _) ⟨.eq_of hsl (encB_free _ _), trivial⟩, by simp, ?_⟩
    (conv => whnf)
    refine ⟨rfl, by simp, ⟨rfl, rfl, rfl, rfl, by decide⟩, by simp [numsK_len], ⟨by simp [tab, tabOf, nth]; omega, by simp; omega⟩, ?_⟩
    (conv => whnf)
    refine ⟨by kernel_rfl, ?_⟩
    (conv => whnf)
    refine ⟨⟨j + 1, by omega⟩, Wk.of (renOf [(2, 4)]) [] ⟨.free (encB_free _ _), .ptr rfl (by omega), .ptr rfl (by omega), .int_of wb, trivial⟩ (LeH.of ⟨⟨by omega, .inl ⟨by simp, _, rfl, id, rfl, .free .int, .free (encLegs_free _ _), .free .int, .free .bool, .free .int, .free .bool, .free .int, .osl_of rfl (by omega) (by simp), trivial⟩⟩, ⟨by omega, .inl ⟨by simp, _, rfl, id, rfl, LeL.free zeroA_free⟩⟩, ⟨by omega, .inl ⟨by simp, _, rfl, LeB.eq_of ?_ (rowsW_free _)⟩⟩, trivial⟩ (show ∀ b ∈ [0, 1, 2], ∀ b' ∈ [0, 1, 2], renOf [(2, 4)] b = renOf [(2, 4)] b' → b = b' by decide) (show ∀ b, b < 0 → renOf [(2, 4)] b = b by decide) (by omega) (by simp)), by simp only; omega⟩
    simp only
    rw [numsK_succ, List.take_of_length_le (by simp [numsK_len])]
    simp
  · rename_i hc
    have hc : j = m := by simp at hc; omega
    subst hc
    have hfz : LeV [(0, some (.var true 45 (cellsG a (.osl 2 1 0 j)))), (1, some (.var true 45 zeroA)), (2, some (.arr true false 22 1 (rowsW (numsK v j))))] 3 id 0 [2] (.osl 2 1 0 j) (encW true (numsK v j)) := LeV.freeze_of (by simp) rfl (by simp [numsK_len]) (rowsW_free _) (by rw [List.drop_zero]; exact List.take_of_length_le (by simp [numsK_len]))
    (conv => whnf)
    intro _
    (conv => whnf)
    cases h16 : decide ((16 : Int) < (j : Int)) with
    | true =>
      have h16 : 16 < j := by simp at h16; omega
      (conv => whnf)
      exact Ends.valE [2] (e298 (a := a) (by simp [lowE, h0, h4, hmd, h16])).1 (e298 (a := a) (by simp [lowE, h0, h4, hmd, h16])).2 (.aggL ⟨.free .int, .free (encLegs_free _ _), .free .int, .free .bool, .free .int, .free .bool, .free .int, (by show LeV _ _ _ _ _ _ (encW true (numsK v (v.length / 4))); rw [hmd]; exact LeV.freeze_of (by simp) rfl (by simp [numsK_len]) (rowsW_free _) (by rw [List.drop_zero]; exact List.take_of_length_le (by simp [numsK_len]))), trivial⟩) (by intro z hz; obtain rfl := List.mem_singleton.1 hz; exact ne_none_of rfl)
    | false =>
      have h16 : ¬ 16 < j := by simp at h16; omega
      (conv => whnf)
      refine callV_lend [2] (ref_rise_ok false (numsK v j)) ⟨.less (v1 := encW true (numsK v j)) hfz .encW, trivial⟩ (by intro v hv; simp at hv; subst hv; exact encW_cold _) (one_none rfl) .bool ?_
      cases hr : rises (numsK v j) with
      | false =>
        (conv => whnf)
        exact Ends.valE [2] (e298 (a := a) (by simp [lowE, h0, h4, hmd, hr])).1 (e298 (a := a) (by simp [lowE, h0, h4, hmd, hr])).2 (.aggL ⟨.free .int, .free (encLegs_free _ _), .free .int, .free .bool, .free .int, .free .bool, .free .int, (by show LeV _ _ _ _ _ _ (encW true (numsK v (v.length / 4))); rw [hmd]; exact LeV.freeze_of (by simp) rfl (by simp [numsK_len]) (rowsW_free _) (by rw [List.drop_zero]; exact List.take_of_length_le (by simp [numsK_len]))), trivial⟩) (by intro z hz; obtain rfl := List.mem_singleton.1 hz; exact ne_none_of rfl)
      | true =>
        (conv => whnf)
        refine Ends.valK (by simp [lowE, h0, h4, hmd, hr, h16]) [2] (.aggL ⟨.free .int, .free (encLegs_free _ _), .free .int, .free .bool, .free .int, .free .bool, .free .int, ?_, trivial⟩) ?_
        · show LeV _ _ _ _ _ _ (encW true (numsK v (v.length / 4)))
          rw [hmd]
          exact LeV.freeze_of (by simp) rfl (by simp [numsK_len]) (rowsW_free _) (by rw [List.drop_zero]; exact List.take_of_length_le (by simp [numsK_len]))
        · intro z hz
          obtain rfl := List.mem_singleton.1 hz
          exact ne_none_of rfl
theorem value_ok (fr : Bool) (a : Attrs) (c : Nat) (hc : 0 ≤ flagsI c) (v : List UInt8) (hv : v.length ≤ 1000000) : PCon prog 111 [encA true a, cI c, encB fr v] (valueV c a v) := by
  unfold flagsI at hc
  split at hc
  · rename_i h; subst h; exact value1_ok fr a v
  split at hc
  · rename_i h; subst h; exact value2_ok fr a v hv
  split at hc
  · rename_i h; subst h; exact value3_ok fr a v
  split at hc
  · rename_i h; subst h; exact value5_ok fr a v
  split at hc
  · rename_i h; subst h; exact value4_ok fr a v
  split at hc
  · rename_i h; subst h; exact value8_ok fr a v hv
  · exact absurd hc (by decide)
end Go.Proofs.YtehhligadnlijaaGreatDoor
set_option linter.unusedVariables false
set_option linter.unusedSimpArgs false
namespace Go.Proofs.YtehhligadnlijaaGreatDoor
open Go.RowKit
open Go.Proofs.Tryz (prog)
attribute [local irreducible] CallV RoundV
theorem lng_ref : ∀ n : Nat, n < 256 → ((IntKind.i64.wrap ((IntKind.i64.wrap (n : Int)).tdiv 16)).tmod 2 == 1) = (n / 16 % 2 == 1) := by decide +kernel
structure Pl (b : List UInt8) where
  i : Nat
  last : Nat
  seen : Nat
  a : Attrs
  law : parseA b 0 0 noA = parseA (b.drop i) last seen a
  le : i ≤ b.length
  lim : last < 256
  cnt : seen ≤ i
theorem idxD {b : List UInt8} {i j : Nat} {n : Int} {x : UInt8} (hn : n = (i + j : Nat)) (h : (b.drop i)[j]? = some x) : (List.map (fun x => [V.int .u8 x.toNat]) b)[n.toNat]? = some [cB x] := by
  subst hn
  rw [List.getElem?_drop] at h
  rw [Int.toNat_natCast, List.getElem?_map, h]; rfl
theorem numB_lt (b : List UInt8) : numB b < 65536 := by
  have h2 := byteN_lt b 2
  have h3 := byteN_lt b 3
  unfold numB
  split <;> omega
theorem atB_le (b : List UInt8) : 3 ≤ atB b ∧ atB b ≤ 4 := by
  unfold atB
  split <;> omega
set_option maxRecDepth 100000 in
set_option maxHeartbeats 8000000 in
theorem ref_parse_ok (fr : Bool) (b : List UInt8) (hb : b.length ≤ 1000000) : PCon prog 73 [encB fr b] (parseE true (parseA b 0 0 noA).1 (parseA b 0 0 noA).2) := by
  refine callV_of (fn := Go.Proofs.Tryz.f73) (body := _) tab_ok mixed rfl rfl (by decide) (by simp [Go.Proofs.Tryz.f73]) ?_
  (conv => whnf)
  refine vcg_loop tab_ok mixed (fun k : Pl b => ⟨[(0, encB fr b), (2, .ptr 0 0), (4, .ptr 1 0), (5, cI k.last), (6, cI k.seen), (7, cI k.i)], [(0, some (.var true 45 zeroA)), (1, some (.var true 45 (cellsA true k.a)))], 2⟩) (fun k => b.length - k.i) ⟨0, 0, 0, noA, by simp, by omega, by omega, by omega⟩ (Wk.of id [] ⟨.free (encB_free _ _), .ptr rfl (by omega), .ptr rfl (by omega), .int_of rfl, .int_of rfl, .int_of rfl, trivial⟩ (LeH.of ⟨⟨by omega, .inl ⟨by simp, _, rfl, id, rfl, LeL.free zeroA_free⟩⟩, ⟨by omega, .inl ⟨by simp, _, rfl, id, rfl, .free .int, .snil_sl, .free .int, .free .bool, .free .int, .free .bool, .free .int, .snil_sl, trivial⟩⟩, trivial⟩ (fun _ _ _ _ h => h) (fun _ _ => rfl) (by omega) (by simp))) (fun k => ?_)
  obtain ⟨i, last, seen, a, law, le, lim, cnt⟩ := k
  (conv => whnf)
  intro _
  (conv => whnf)
  split
  · rename_i hc
    have hc : i < b.length := by simpa using hc
    obtain ⟨X, hX⟩ : ∃ X, X = b.drop i := ⟨_, rfl⟩
    have hXl : X.length = b.length - i := by rw [hX]; simp
    have hne : b.drop i ≠ [] := by intro e; rw [← hX] at e; rw [e] at hXl; simp at hXl; omega
    have w3 : IntKind.i64.wrap ((i : Int) + 3) = (i + 3 : Nat) := by rw [wrap64] <;> omega
    have w1 : IntKind.i64.wrap ((i : Int) + 1) = (i + 1 : Nat) := by rw [wrap64] <;> omega
    have w2 : IntKind.i64.wrap ((i : Int) + 2) = (i + 2 : Nat) := by rw [wrap64] <;> omega
    have w4 : IntKind.i64.wrap ((i : Int) + 4) = (i + 4 : Nat) := by rw [wrap64] <;> omega
    (conv => whnf)
    intro _
    (conv => whnf)
    split
    · rename_i h
      have h : X.length < 3 := by rw [w3] at h; simp at h; omega
      have e : oneE (b.drop i) last = 290 := by rw [← hX]; exact headE_short h
      (conv => whnf)
      rw [show parseA b 0 0 noA = (noA, 290) from law.trans ((parseA_err hne (by rw [e]; decide)).trans (by rw [e]))]
      exact Ends.pure [] (.tupL ⟨.noA, .int_of rfl, trivial⟩) (by simp)
    rename_i h
    have h : 3 ≤ X.length := by rw [w3] at h; simp at h; omega
    obtain ⟨x0, x1, x2, r, hX3⟩ : ∃ x0 x1 x2 r, X = x0 :: x1 :: x2 :: r := by
      rcases X with _ | ⟨x0, _ | ⟨x1, _ | ⟨x2, r⟩⟩⟩
      · simp at h
      · simp at h
      · simp at h
      · exact ⟨x0, x1, x2, r, rfl⟩
    have h0 := x0.toNat_lt
    have h1 := x1.toNat_lt
    have h2 := x2.toNat_lt
    have n0 : byteN X 0 = x0.toNat := by rw [hX3]; rfl
    have n1 : byteN X 1 = x1.toNat := by rw [hX3]; rfl
    have n2 : byteN X 2 = x2.toNat := by rw [hX3]; rfl
    have q0 : (b.drop i)[0]? = some x0 := by rw [← hX, hX3]; rfl
    have q1 : (b.drop i)[1]? = some x1 := by rw [← hX, hX3]; rfl
    have q2 : (b.drop i)[2]? = some x2 := by rw [← hX, hX3]; rfl
    have v0 : IntKind.i64.wrap (x0.toNat : Int) = x0.toNat := wrap64 (by omega) (by omega)
    have v1 : IntKind.i64.wrap (x1.toNat : Int) = x1.toNat := wrap64 (by omega) (by omega)
    have v2 : IntKind.i64.wrap (x2.toNat : Int) = x2.toNat := wrap64 (by omega) (by omega)
    have eL : ((IntKind.i64.wrap ((IntKind.i64.wrap (x0.toNat : Int)).tdiv 16)).tmod 2 == 1) = lngB X := by rw [lng_ref _ h0, lngB, n0]
    (conv => whnf)
    refine ⟨rfl, _, ⟨by omega, idxD rfl q0⟩, ?_⟩
    (conv => whnf)
    refine ⟨rfl, _, ⟨by rw [w1]; omega, idxD w1 q1⟩, ?_⟩
    (conv => whnf)
    refine ⟨by kernel_rfl, ?_⟩
    (conv => whnf)
    refine ⟨by decide, ?_⟩
    (conv => whnf)
    refine ⟨by decide, ?_⟩
    (conv => whnf)
    refine ⟨rfl, _, ⟨by rw [w2]; omega, idxD w2 q2⟩, ?_⟩
    (conv => whnf)
    rw [eL]
    cases hL : lngB X with
    | false =>
      have eN : numB X = x2.toNat := by simp [numB, hL, n2]
      have eA : atB X = 3 := by simp [atB, hL]
      have h4 : lngB X = true → 4 ≤ X.length := fun h => by rw [hL] at h; cases h
      have hN : IntKind.i64.wrap (x2.toNat : Int) = (numB X : Nat) := by rw [v2, eN]
      have hA : IntKind.i64.wrap ((i : Int) + 3) = (i + atB X : Nat) := by rw [w3, eA]
      have hF : IntKind.i64.wrap (x0.toNat : Int) = (byteN X 0 : Int) - (if lngB X then 16 else 0) := by rw [v0, n0, hL]; simp
      (conv => whnf)
      intro _
      (conv => whnf)
      have w5 : IntKind.i64.wrap (IntKind.i64.wrap ((i : Int) + 3) + IntKind.i64.wrap (x2.toNat : Int)) = (i + atB X + numB X : Nat) := by rw [hA, hN, wrap64] <;> (have := numB_lt X; have := atB_le X; omega)
      split
      · rename_i hh
        have hh : X.length < atB X + numB X := by rw [w5] at hh; simp at hh; omega
        have e : oneE (b.drop i) last = 290 := by
          rw [← hX]
          have : headE X last = 290 := by
            unfold headE
            rw [if_neg (by omega), if_neg (by rintro ⟨p1, p2⟩; have := h4 p1; omega), if_pos hh]
          simp [oneE, this]
        (conv => whnf)
        rw [show parseA b 0 0 noA = (noA, 290) from law.trans ((parseA_err hne (by rw [e]; decide)).trans (by rw [e]))]
        exact Ends.pure [] (.tupL ⟨.noA, .int_of rfl, trivial⟩) (by simp)
      rename_i hh
      have hl : atB X + numB X ≤ X.length := by rw [w5] at hh; simp at hh; omega
      (conv => whnf)
      refine callV_pure (flags_ok x1.toNat) ⟨.int_of v1, trivial⟩ ?_
      (conv => whnf)
      cases hfl : decide (flagsI x1.toNat < 0)
      case true =>
        have e : oneE (b.drop i) last = 291 := by
          rw [← hX]
          have : headE X last = 291 := by
            unfold headE
            rw [if_neg (by omega), if_neg (by rintro ⟨p1, p2⟩; have := h4 p1; omega), if_neg (by omega), if_pos (by rw [n1]; simpa using hfl)]
          simp [oneE, this]
        (conv => whnf)
        rw [show parseA b 0 0 noA = (noA, 291) from law.trans ((parseA_err hne (by rw [e]; decide)).trans (by rw [e]))]
        exact Ends.pure [] (.tupL ⟨.noA, .int_of rfl, trivial⟩) (by simp)
      have hf0 : 0 ≤ flagsI x1.toNat := by simp at hfl; omega
      have hH := head_is (last := last) h h4 hl (by rw [n1]; exact hf0)
      (conv => whnf)
      refine callV_pure (flags_ok x1.toNat) ⟨.int_of v1, trivial⟩ ?_
      (conv => whnf)
      cases hf : (IntKind.i64.wrap (x0.toNat : Int) != flagsI x1.toNat)
      case true =>
        have e : oneE (b.drop i) last = 292 := by
          rw [← hX]
          have : headE X last = 292 := by
            rw [hH, if_pos]
            left
            rw [← hF, n1]
            simpa using hf
          simp [oneE, this]
        (conv => whnf)
        rw [show parseA b 0 0 noA = (noA, 292) from law.trans ((parseA_err hne (by rw [e]; decide)).trans (by rw [e]))]
        exact Ends.pure [] (.tupL ⟨.noA, .int_of rfl, trivial⟩) (by simp)
      (conv => whnf)
      cases hg : (false != decide ((255 : Int) < IntKind.i64.wrap (x2.toNat : Int)))
      case true =>
        have e : oneE (b.drop i) last = 292 := by
          rw [← hX]
          have : headE X last = 292 := by
            rw [hH, if_pos]
            right
            rw [hL]
            rw [hN, show decide ((255 : Int) < (numB X : Nat)) = decide (255 < numB X) from decide_eq_decide.2 (by omega)] at hg
            simpa [bne] using hg
          simp [oneE, this]
        (conv => whnf)
        rw [show parseA b 0 0 noA = (noA, 292) from law.trans ((parseA_err hne (by rw [e]; decide)).trans (by rw [e]))]
        exact Ends.pure [] (.tupL ⟨.noA, .int_of rfl, trivial⟩) (by simp)
      rw [if_neg (by
        rintro (p | p)
        · rw [← hF, n1] at p
          rw [bne_eq_false_iff_eq] at hf
          exact p hf
        · rw [hL] at p
          rw [hN, show decide ((255 : Int) < (numB X : Nat)) = decide (255 < numB X) from decide_eq_decide.2 (by omega), bne_eq_false_iff_eq] at hg
          exact p hg)] at hH
      (conv => whnf)
      cases hr : decide (IntKind.i64.wrap (x1.toNat : Int) ≤ (last : Int))
      case true =>
        have e : oneE (b.drop i) last = 293 := by
          rw [← hX]
          have : headE X last = 293 := by
            rw [hH, if_pos]
            rw [v1] at hr
            simp at hr
            omega
          simp [oneE, this]
        (conv => whnf)
        rw [show parseA b 0 0 noA = (noA, 293) from law.trans ((parseA_err hne (by rw [e]; decide)).trans (by rw [e]))]
        exact Ends.pure [] (.tupL ⟨.noA, .int_of rfl, trivial⟩) (by simp)
      rw [if_neg (by rw [v1] at hr; simp at hr; omega)] at hH
      have hvl : (valB X).length ≤ 1000000 := by simp [valB]; omega
      have hsl : V.sl fr 1 (List.drop (IntKind.i64.wrap ((i : Int) + 3)).toNat (List.take (IntKind.i64.wrap (IntKind.i64.wrap ((i : Int) + 3) + IntKind.i64.wrap (x2.toNat : Int))).toNat (List.map (fun x => [V.int .u8 x.toNat]) b))) = encB fr (valB X) := by
        rw [w5, hA, Int.toNat_natCast, Int.toNat_natCast, ← List.map_take, ← List.map_drop, List.drop_take, Nat.add_sub_cancel_left, valB, hX, List.drop_drop]
        rfl
      have hone : oneE (b.drop i) last = lowE x1.toNat (valB X) := by rw [← hX, oneE, if_neg (by simp [hH]), n1]
      (conv => whnf)
      refine ⟨rfl, ⟨by rw [hA]; omega, by rw [w5]; omega, by rw [w5, hA]; simp; try omega, by rw [w5]; simp; omega⟩, ?_⟩
      (conv => whnf)
      refine ⟨valueV x1.toNat a (valB X), [], fun h nx _ => pureV_pure (value_ok fr a x1.toNat hf0 (valB X) hvl) ⟨.eq_of rfl (encA_free true a), .int_of v1, .eq_of hsl (encB_free _ _), trivial⟩, by simp, ?_⟩
      (conv => whnf)
      refine ⟨by kernel_rfl, ?_⟩
      (conv => whnf)
      cases he : (lowE x1.toNat (valB X) != 0)
      case true =>
        have he : lowE x1.toNat (valB X) ≠ 0 := by simpa using he
        (conv => whnf)
        rw [show parseA b 0 0 noA = (noA, lowE x1.toNat (valB X)) from law.trans ((parseA_err hne (by rw [hone]; exact he)).trans (by rw [hone]))]
        exact Ends.pure [] (.tupL ⟨.noA, .int_of rfl, trivial⟩) (by simp)
      have he : lowE x1.toNat (valB X) = 0 := by simpa using he
      have hret : retA x1.toNat a (valB X) = lowA x1.toNat a (valB X) := by simp [retA, he]
      have law' : parseA b 0 0 noA = parseA (b.drop (i + atB X + numB X)) x1.toNat (if x1.toNat ≤ 3 then seen + 1 else seen) (lowA x1.toNat a (valB X)) := by
        have := parseA_go (last := last) (seen := seen) (a := a) hne (by rw [← hX]; exact hH) (by rw [← hX, n1]; exact he)
        rw [law, this, ← hX, n1, restB, hX, List.drop_drop, Nat.add_assoc]
      (conv => whnf)
      split
      · rename_i h3
        have h3 : x1.toNat ≤ 3 := by rw [v1] at h3; simp at h3; omega
        rw [if_pos h3] at law'
        (conv => whnf)
        refine ⟨⟨i + atB X + numB X, x1.toNat, seen + 1, lowA x1.toNat a (valB X), law', by omega, by omega, by have := atB_le X; omega⟩, Wk.of id [] ⟨.free (encB_free _ _), .ptr rfl (by omega), .ptr rfl (by omega), .int_of v1, .int_of ?_, .int_of w5, trivial⟩ (LeH.of ⟨⟨by omega, .inl ⟨by simp, _, rfl, id, rfl, LeL.free zeroA_free⟩⟩, ⟨by omega, .inl ⟨by simp, _, rfl, id, rfl, .of_eq (congrArg (cellsA true) hret) (cellsA_free true _)⟩⟩, trivial⟩ (fun _ _ _ _ h => h) (fun _ _ => rfl) (by omega) (by simp)), by have := atB_le X; simp only; omega⟩
        rw [wrap64] <;> (simp only; omega)
      · rename_i h3
        have h3 : ¬ x1.toNat ≤ 3 := by rw [v1] at h3; simp at h3; omega
        rw [if_neg h3] at law'
        (conv => whnf)
        exact ⟨⟨i + atB X + numB X, x1.toNat, seen, lowA x1.toNat a (valB X), law', by omega, by omega, by omega⟩, Wk.of id [] ⟨.free (encB_free _ _), .ptr rfl (by omega), .ptr rfl (by omega), .int_of v1, .int_of rfl, .int_of w5, trivial⟩ (LeH.of ⟨⟨by omega, .inl ⟨by simp, _, rfl, id, rfl, LeL.free zeroA_free⟩⟩, ⟨by omega, .inl ⟨by simp, _, rfl, id, rfl, .of_eq (congrArg (cellsA true) hret) (cellsA_free true _)⟩⟩, trivial⟩ (fun _ _ _ _ h => h) (fun _ _ => rfl) (by omega) (by simp)), by have := atB_le X; simp only; omega⟩
    | true =>
      (conv => whnf)
      intro _
      (conv => whnf)
      split
      · rename_i h
        have h : X.length < 4 := by rw [w4] at h; simp at h; omega
        have e : oneE (b.drop i) last = 290 := by
          rw [← hX]
          have : headE X last = 290 := by
            unfold headE
            rw [if_neg (by omega), if_pos ⟨hL, h⟩]
          simp [oneE, this]
        (conv => whnf)
        rw [show parseA b 0 0 noA = (noA, 290) from law.trans ((parseA_err hne (by rw [e]; decide)).trans (by rw [e]))]
        exact Ends.pure [] (.tupL ⟨.noA, .int_of rfl, trivial⟩) (by simp)
      rename_i h4'
      have h4' : 4 ≤ X.length := by rw [w4] at h4'; simp at h4'; omega
      obtain ⟨x3, r3, rfl⟩ : ∃ x3 r3, r = x3 :: r3 := by
        rcases r with _ | ⟨x3, r3⟩
        · rw [hX3] at h4'; simp at h4'
        · exact ⟨x3, r3, rfl⟩
      have hx3 := x3.toNat_lt
      have n3 : byteN X 3 = x3.toNat := by rw [hX3]; rfl
      have q3 : (b.drop i)[3]? = some x3 := by rw [← hX, hX3]; rfl
      have v3 : IntKind.i64.wrap (x3.toNat : Int) = x3.toNat := wrap64 (by omega) (by omega)
      have eN : numB X = 256 * x2.toNat + x3.toNat := by simp [numB, hL, n2, n3]
      have eA : atB X = 4 := by simp [atB, hL]
      have h4 : lngB X = true → 4 ≤ X.length := fun _ => h4'
      have hN : IntKind.i64.wrap (IntKind.i64.wrap (256 * IntKind.i64.wrap (x2.toNat : Int)) + IntKind.i64.wrap (x3.toNat : Int)) = (numB X : Nat) := by rw [v2, v3, eN, wrap64 (n := 256 * (x2.toNat : Int)) (by omega) (by omega), wrap64] <;> omega
      have hA : IntKind.i64.wrap ((i : Int) + 4) = (i + atB X : Nat) := by rw [w4, eA]
      have hx16 : 16 ≤ x0.toNat := by
        have := hL
        rw [lngB, n0] at this
        simp at this
        omega
      have hF : IntKind.i64.wrap (IntKind.i64.wrap (x0.toNat : Int) - 16) = (byteN X 0 : Int) - (if lngB X then 16 else 0) := by
        rw [v0, n0, hL, if_pos rfl]
        rw [wrap64] <;> omega
      (conv => whnf)
      refine ⟨rfl, _, ⟨by rw [w3]; omega, idxD w3 q3⟩, ?_⟩
      (conv => whnf)
      intro _
      (conv => whnf)
      have w5 : IntKind.i64.wrap (IntKind.i64.wrap ((i : Int) + 4) + IntKind.i64.wrap (IntKind.i64.wrap (256 * IntKind.i64.wrap (x2.toNat : Int)) + IntKind.i64.wrap (x3.toNat : Int))) = (i + atB X + numB X : Nat) := by rw [hA, hN, wrap64] <;> (have := numB_lt X; have := atB_le X; omega)
      split
      · rename_i hh
        have hh : X.length < atB X + numB X := by rw [w5] at hh; simp at hh; omega
        have e : oneE (b.drop i) last = 290 := by
          rw [← hX]
          have : headE X last = 290 := by
            unfold headE
            rw [if_neg (by omega), if_neg (by rintro ⟨p1, p2⟩; have := h4 p1; omega), if_pos hh]
          simp [oneE, this]
        (conv => whnf)
        rw [show parseA b 0 0 noA = (noA, 290) from law.trans ((parseA_err hne (by rw [e]; decide)).trans (by rw [e]))]
        exact Ends.pure [] (.tupL ⟨.noA, .int_of rfl, trivial⟩) (by simp)
      rename_i hh
      have hl : atB X + numB X ≤ X.length := by rw [w5] at hh; simp at hh; omega
      (conv => whnf)
      refine callV_pure (flags_ok x1.toNat) ⟨.int_of v1, trivial⟩ ?_
      (conv => whnf)
      cases hfl : decide (flagsI x1.toNat < 0)
      case true =>
        have e : oneE (b.drop i) last = 291 := by
          rw [← hX]
          have : headE X last = 291 := by
            unfold headE
            rw [if_neg (by omega), if_neg (by rintro ⟨p1, p2⟩; have := h4 p1; omega), if_neg (by omega), if_pos (by rw [n1]; simpa using hfl)]
          simp [oneE, this]
        (conv => whnf)
        rw [show parseA b 0 0 noA = (noA, 291) from law.trans ((parseA_err hne (by rw [e]; decide)).trans (by rw [e]))]
        exact Ends.pure [] (.tupL ⟨.noA, .int_of rfl, trivial⟩) (by simp)
      have hf0 : 0 ≤ flagsI x1.toNat := by simp at hfl; omega
      have hH := head_is (last := last) h h4 hl (by rw [n1]; exact hf0)
      (conv => whnf)
      refine callV_pure (flags_ok x1.toNat) ⟨.int_of v1, trivial⟩ ?_
      (conv => whnf)
      cases hf : (IntKind.i64.wrap (IntKind.i64.wrap (x0.toNat : Int) - 16) != flagsI x1.toNat)
      case true =>
        have e : oneE (b.drop i) last = 292 := by
          rw [← hX]
          have : headE X last = 292 := by
            rw [hH, if_pos]
            left
            rw [← hF, n1]
            simpa using hf
          simp [oneE, this]
        (conv => whnf)
        rw [show parseA b 0 0 noA = (noA, 292) from law.trans ((parseA_err hne (by rw [e]; decide)).trans (by rw [e]))]
        exact Ends.pure [] (.tupL ⟨.noA, .int_of rfl, trivial⟩) (by simp)
      (conv => whnf)
      cases hg : (true != decide ((255 : Int) < IntKind.i64.wrap (IntKind.i64.wrap (256 * IntKind.i64.wrap (x2.toNat : Int)) + IntKind.i64.wrap (x3.toNat : Int))))
      case true =>
        have e : oneE (b.drop i) last = 292 := by
          rw [← hX]
          have : headE X last = 292 := by
            rw [hH, if_pos]
            right
            rw [hL]
            rw [hN, show decide ((255 : Int) < (numB X : Nat)) = decide (255 < numB X) from decide_eq_decide.2 (by omega)] at hg
            simpa [bne] using hg
          simp [oneE, this]
        (conv => whnf)
        rw [show parseA b 0 0 noA = (noA, 292) from law.trans ((parseA_err hne (by rw [e]; decide)).trans (by rw [e]))]
        exact Ends.pure [] (.tupL ⟨.noA, .int_of rfl, trivial⟩) (by simp)
      rw [if_neg (by
        rintro (p | p)
        · rw [← hF, n1] at p
          rw [bne_eq_false_iff_eq] at hf
          exact p hf
        · rw [hL] at p
          rw [hN, show decide ((255 : Int) < (numB X : Nat)) = decide (255 < numB X) from decide_eq_decide.2 (by omega), bne_eq_false_iff_eq] at hg
          exact p hg)] at hH
      (conv => whnf)
      cases hr : decide (IntKind.i64.wrap (x1.toNat : Int) ≤ (last : Int))
      case true =>
        have e : oneE (b.drop i) last = 293 := by
          rw [← hX]
          have : headE X last = 293 := by
            rw [hH, if_pos]
            rw [v1] at hr
            simp at hr
            omega
          simp [oneE, this]
        (conv => whnf)
        rw [show parseA b 0 0 noA = (noA, 293) from law.trans ((parseA_err hne (by rw [e]; decide)).trans (by rw [e]))]
        exact Ends.pure [] (.tupL ⟨.noA, .int_of rfl, trivial⟩) (by simp)
      rw [if_neg (by rw [v1] at hr; simp at hr; omega)] at hH
      have hvl : (valB X).length ≤ 1000000 := by simp [valB]; omega
      have hsl : V.sl fr 1 (List.drop (IntKind.i64.wrap ((i : Int) + 4)).toNat (List.take (IntKind.i64.wrap (IntKind.i64.wrap ((i : Int) + 4) + IntKind.i64.wrap (IntKind.i64.wrap (256 * IntKind.i64.wrap (x2.toNat : Int)) + IntKind.i64.wrap (x3.toNat : Int)))).toNat (List.map (fun x => [V.int .u8 x.toNat]) b))) = encB fr (valB X) := by
        rw [w5, hA, Int.toNat_natCast, Int.toNat_natCast, ← List.map_take, ← List.map_drop, List.drop_take, Nat.add_sub_cancel_left, valB, hX, List.drop_drop]
        rfl
      have hone : oneE (b.drop i) last = lowE x1.toNat (valB X) := by rw [← hX, oneE, if_neg (by simp [hH]), n1]
      (conv => whnf)
      refine ⟨rfl, ⟨by rw [hA]; omega, by rw [w5]; omega, by rw [w5, hA]; simp; try omega, by rw [w5]; simp; omega⟩, ?_⟩
      (conv => whnf)
      refine ⟨valueV x1.toNat a (valB X), [], fun h nx _ => pureV_pure (value_ok fr a x1.toNat hf0 (valB X) hvl) ⟨.eq_of rfl (encA_free true a), .int_of v1, .eq_of hsl (encB_free _ _), trivial⟩, by simp, ?_⟩
      (conv => whnf)
      refine ⟨by kernel_rfl, ?_⟩
      (conv => whnf)
      cases he : (lowE x1.toNat (valB X) != 0)
      case true =>
        have he : lowE x1.toNat (valB X) ≠ 0 := by simpa using he
        (conv => whnf)
        rw [show parseA b 0 0 noA = (noA, lowE x1.toNat (valB X)) from law.trans ((parseA_err hne (by rw [hone]; exact he)).trans (by rw [hone]))]
        exact Ends.pure [] (.tupL ⟨.noA, .int_of rfl, trivial⟩) (by simp)
      have he : lowE x1.toNat (valB X) = 0 := by simpa using he
      have hret : retA x1.toNat a (valB X) = lowA x1.toNat a (valB X) := by simp [retA, he]
      have law' : parseA b 0 0 noA = parseA (b.drop (i + atB X + numB X)) x1.toNat (if x1.toNat ≤ 3 then seen + 1 else seen) (lowA x1.toNat a (valB X)) := by
        have := parseA_go (last := last) (seen := seen) (a := a) hne (by rw [← hX]; exact hH) (by rw [← hX, n1]; exact he)
        rw [law, this, ← hX, n1, restB, hX, List.drop_drop, Nat.add_assoc]
      (conv => whnf)
      split
      · rename_i h3
        have h3 : x1.toNat ≤ 3 := by rw [v1] at h3; simp at h3; omega
        rw [if_pos h3] at law'
        (conv => whnf)
        refine ⟨⟨i + atB X + numB X, x1.toNat, seen + 1, lowA x1.toNat a (valB X), law', by omega, by omega, by have := atB_le X; omega⟩, Wk.of id [] ⟨.free (encB_free _ _), .ptr rfl (by omega), .ptr rfl (by omega), .int_of v1, .int_of ?_, .int_of w5, trivial⟩ (LeH.of ⟨⟨by omega, .inl ⟨by simp, _, rfl, id, rfl, LeL.free zeroA_free⟩⟩, ⟨by omega, .inl ⟨by simp, _, rfl, id, rfl, .of_eq (congrArg (cellsA true) hret) (cellsA_free true _)⟩⟩, trivial⟩ (fun _ _ _ _ h => h) (fun _ _ => rfl) (by omega) (by simp)), by have := atB_le X; simp only; omega⟩
        rw [wrap64] <;> (simp only; omega)
      · rename_i h3
        have h3 : ¬ x1.toNat ≤ 3 := by rw [v1] at h3; simp at h3; omega
        rw [if_neg h3] at law'
        (conv => whnf)
        exact ⟨⟨i + atB X + numB X, x1.toNat, seen, lowA x1.toNat a (valB X), law', by omega, by omega, by omega⟩, Wk.of id [] ⟨.free (encB_free _ _), .ptr rfl (by omega), .ptr rfl (by omega), .int_of v1, .int_of rfl, .int_of w5, trivial⟩ (LeH.of ⟨⟨by omega, .inl ⟨by simp, _, rfl, id, rfl, LeL.free zeroA_free⟩⟩, ⟨by omega, .inl ⟨by simp, _, rfl, id, rfl, .of_eq (congrArg (cellsA true) hret) (cellsA_free true _)⟩⟩, trivial⟩ (fun _ _ _ _ h => h) (fun _ _ => rfl) (by omega) (by simp)), by have := atB_le X; simp only; omega⟩
  · rename_i hc
    have hc : i = b.length := by simp at hc; omega
    have hl : parseA b 0 0 noA = if seen = 3 then (a, 0) else (noA, 299) := by rw [law, hc, List.drop_length, parseA_nil]
    (conv => whnf)
    cases h3 : ((seen : Int) != 3) with
    | true =>
      have h3' : seen ≠ 3 := by simp at h3; omega
      rw [if_neg h3'] at hl
      (conv => whnf)
      rw [hl]
      exact Ends.pure [] (.tupL ⟨.noA, .int_of rfl, trivial⟩) (by simp)
    | false =>
      have h3' : seen = 3 := by simp at h3; omega
      rw [if_pos h3'] at hl
      (conv => whnf)
      rw [hl]
      exact Ends.pure [] (.tupL ⟨.eq_of rfl (encA_free true a), .int_of rfl, trivial⟩) (by simp)
end Go.Proofs.YtehhligadnlijaaGreatDoor
set_option linter.unusedVariables false
set_option linter.unusedSimpArgs false
namespace Go.Proofs.YtehhligadnlijaaGreatDoor
open Go.RowKit
open Go.Proofs.Tryz (prog)
attribute [local irreducible] CallV RoundV
theorem rowB_get {r : List UInt8} {i : Nat} (h : i < r.length) : (List.map (fun x : UInt8 => [V.int .u8 x.toNat]) r)[0 + (i : Int).toNat]? = some [cB r[i]] := by simp [List.getElem?_eq_getElem h]
theorem wrap8_succ (x : UInt8) : IntKind.u8.wrap ((x.toNat : Int) + 1) = ((x + 1).toNat : Int) := by rw [wrap8, UInt8.toNat_add]; simp
structure Bump (n : Nat) where
  i : Nat
  r : List UInt8
  hi : i ≤ n
  hr : r.length = n + 1
end Go.Proofs.YtehhligadnlijaaGreatDoor
set_option linter.unusedVariables false
set_option linter.unusedSimpArgs false
namespace Go.Proofs.YtehhligadnlijaaGreatDoor
open Go.RowKit
open Go.Proofs.Tryz (prog)
attribute [local irreducible] CallV RoundV
theorem rawA_len {a : Attrs} (hf : fewA a = true) : (rawA a).length ≤ 20000 := by
  obtain ⟨hp, hpl, htl⟩ := fewA_out hf
  have hpb := pathB_len hp
  have al : ∀ {f c : UInt8} {v : List UInt8}, (attrB f c v).length ≤ 4 + v.length := fun {f c v} => by unfold attrB; split <;> simp <;> omega
  have h1 := al (f := 64) (c := 1) (v := [a.origin])
  have h2 := al (f := 64) (c := 2) (v := pathB a.path)
  have h3 := al (f := 64) (c := 3) (v := fourB a.next)
  have h4 : (if a.hasMed then attrB 128 4 (fourB a.med) else []).length ≤ 8 := by
    split
    · exact al
    · simp
  have h5 : (if a.hasPref then attrB 64 5 (fourB a.pref) else []).length ≤ 8 := by
    split
    · exact al
    · simp
  have h6 : (if 0 < a.tags.length then attrB 192 8 (allB a.tags) else []).length ≤ 244 := by
    split
    · have := al (f := 192) (c := 8) (v := allB a.tags)
      rw [allB_len] at this
      omega
    · simp
  have e3 : (fourB a.next).length = 4 := rfl
  have e1 : ([a.origin] : List UInt8).length = 1 := rfl
  simp only [rawA, rawO, List.length_append]
  omega
end Go.Proofs.YtehhligadnlijaaGreatDoor
set_option linter.unusedVariables false
set_option linter.unusedSimpArgs false
namespace Go.Proofs.YtehhligadnlijaaGreatDoor
open Go.RowKit
open Go.Proofs.Tryz (prog)
attribute [local irreducible] CallV RoundV
def Go (tn : Nat) (many : Int) (n : Nat) : Prop := tn = 0 → n = 0 ∨ (n : Int) < many
end Go.Proofs.YtehhligadnlijaaGreatDoor
set_option linter.unusedVariables false
set_option linter.unusedSimpArgs false
namespace Go.Proofs.YtehhligadnlijaaGreatDoor
open Go.RowKit
open Go.Proofs.Tryz (prog)
attribute [local irreducible] CallV RoundV
theorem w_eq {x y : UInt32} : ((x.toNat : Int) == (y.toNat : Int)) = (x == y) := by
  have := u32_neq (x := x) (y := y)
  simpa [bne] using this
theorem b_eq {x y : UInt8} : ((x.toNat : Int) == (y.toNat : Int)) = (x == y) := by
  have := u8_neq (x := x) (y := y)
  simpa [bne] using this
theorem take_step {α : Type} {l m : List α} {i : Nat} (h1 : i < l.length) (h2 : i < m.length) (hr : l.take i = m.take i) (he : l[i] = m[i]) : l.take (i + 1) = m.take (i + 1) := by
  rw [List.take_succ_eq_append_getElem h1, List.take_succ_eq_append_getElem h2, hr, he]
set_option maxRecDepth 100000 in
theorem equal_ok (fr fr' : Bool) (a b : List UInt32) : PCon prog 100 [encW fr a, encW fr' b] (.bool (decide (a = b))) := by
  refine callV_of (fn := Go.Proofs.Tryz.f100) (body := _) tab_ok mixed rfl rfl (by decide) (by simp [Go.Proofs.Tryz.f100]) ?_
  (conv => whnf)
  intro ha
  have ha : a.length ≤ maxLen := by simpa [gd] using ha
  (conv => whnf)
  intro hb
  (conv => whnf)
  split
  · rename_i hne
    (conv => whnf)
    refine Ends.pure [] (.bool_of ?_) (by simp)
    symm
    rw [decide_eq_false_iff_not]
    rintro rfl
    simp at hne
  · rename_i hne
    have hlen : a.length = b.length := by simp at hne; omega
    (conv => whnf)
    intro _
    (conv => whnf)
    refine vcg_loop tab_ok mixed (fun i : {i : Nat // i ≤ a.length ∧ a.take i = b.take i} => ⟨[(0, encW fr a), (1, encW fr' b), (12, cI a.length), (13, .int .i64 i.1)], [], 0⟩) (fun i => a.length - i.1) ⟨0, by omega, rfl⟩ (Wk.of id [] ⟨.free (encW_free _ _), .free (encW_free _ _), .int_of (by simp), .int_of rfl, trivial⟩ (LeH.nil (Nat.le_refl _) (fun b h => by omega) (by simp))) (fun i => ?_)
    obtain ⟨i, hi, hr⟩ := i
    (conv => whnf)
    split
    · rename_i hc
      have hc : i < a.length := by simpa using hc
      (conv => whnf)
      refine ⟨rfl, _, ⟨by first | omega | (simp only; omega), idxW hc⟩, ?_⟩
      (conv => whnf)
      refine ⟨rfl, _, ⟨by first | omega | (simp only; omega), idxW (show i < b.length by omega)⟩, ?_⟩
      (conv => whnf)
      refine ⟨by kernel_rfl, ?_⟩
      (conv => whnf)
      split
      · rename_i h1
        (conv => whnf)
        refine Ends.pure [] (.bool_of ?_) (by simp)
        symm
        rw [decide_eq_false_iff_not]
        rintro rfl
        simp at h1
      · rename_i h1
        have h1 : a[i] = b[i] := by
          simp at h1
          exact UInt32.toNat_inj.1 (by omega)
        (conv => whnf)
        exact ⟨⟨i + 1, by omega, take_step hc (by omega) hr h1⟩, Wk.of id [] ⟨.free (encW_free _ _), .free (encW_free _ _), .int_of rfl, .int_of (wrap64_succ hc ha), trivial⟩ (LeH.nil (Nat.le_refl _) (fun b h => by omega) (by simp)), by simp only; omega⟩
    · rename_i hc
      have hc : i = a.length := by simp at hc; omega
      subst hc
      rw [List.take_length, hlen, List.take_length] at hr
      (conv => whnf)
      refine Ends.pure [] (.bool_of ?_) (by simp)
      simp [hr]
set_option maxRecDepth 100000 in
theorem same1_ok (fr fr' : Bool) (p q : Leg) : PCon prog 99 [.agg (encLeg fr p), .agg (encLeg fr' q)] (.bool (decide (p = q))) := by
  obtain ⟨ps, pn⟩ := p
  obtain ⟨qs, qn⟩ := q
  refine callV_of (fn := Go.Proofs.Tryz.f99) (body := _) tab_ok mixed rfl rfl (by decide) (by simp [Go.Proofs.Tryz.f99]) ?_
  (conv => whnf)
  split
  · rename_i h
    have h : ps = qs := by simpa using h
    (conv => whnf)
    refine callV_pure (equal_ok fr fr' pn qn) ⟨.free (encW_free _ _), .free (encW_free _ _), trivial⟩ ?_
    (conv => whnf)
    refine Ends.pure [] (.bool_of ?_) (by simp)
    simp [h]
  · rename_i h
    have h : ps ≠ qs := by simpa using h
    (conv => whnf)
    refine Ends.pure [] (.bool_of ?_) (by simp)
    simp [h]
set_option maxRecDepth 100000 in
theorem equalFunc_ok (fr fr' : Bool) (a b : List Leg) : PCon prog 101 [encLegs fr a, encLegs fr' b, .fn (.func 99) [] []] (.bool (decide (a = b))) := by
  refine callV_of (fn := Go.Proofs.Tryz.f101) (body := _) tab_ok mixed rfl rfl (by decide) (by simp [Go.Proofs.Tryz.f101]) ?_
  (conv => whnf)
  intro ha
  have ha : a.length ≤ maxLen := by simpa [gd] using ha
  (conv => whnf)
  intro hb
  (conv => whnf)
  split
  · rename_i hne
    (conv => whnf)
    refine Ends.pure [] (.bool_of ?_) (by simp)
    symm
    rw [decide_eq_false_iff_not]
    rintro rfl
    simp at hne
  · rename_i hne
    have hlen : a.length = b.length := by simp at hne; omega
    (conv => whnf)
    intro _
    (conv => whnf)
    refine vcg_loop tab_ok mixed (fun i : {i : Nat // i ≤ a.length ∧ a.take i = b.take i} => ⟨[(1, encLegs fr' b), (2, .fn (.func 99) [] []), (15, encLegs fr a), (16, cI a.length), (17, .int .i64 i.1)], [], 0⟩) (fun i => a.length - i.1) ⟨0, by omega, rfl⟩ (Wk.of id [] ⟨.free (encLegs_free _ _), .free (.fn (by simp) (by simp)), .free (encLegs_free _ _), .int_of (by simp), .int_of rfl, trivial⟩ (LeH.nil (Nat.le_refl _) (fun b h => by omega) (by simp))) (fun i => ?_)
    obtain ⟨i, hi, hr⟩ := i
    (conv => whnf)
    split
    · rename_i hc
      have hc : i < a.length := by simpa using hc
      have hc' : i < b.length := by omega
      (conv => whnf)
      refine ⟨rfl, _, ⟨by first | omega | (simp only; omega), idxL hc⟩, ?_⟩
      (conv => whnf)
      refine ⟨rfl, _, ⟨by first | omega | (simp only; omega), idxL hc'⟩, ?_⟩
      (conv => whnf)
      refine callV_pure (same1_ok fr fr' a[i] b[i]) ⟨.free (.agg (encLeg_free _ _)), .free (.agg (encLeg_free _ _)), trivial⟩ ?_
      (conv => whnf)
      split
      · rename_i h1
        (conv => whnf)
        refine Ends.pure [] (.bool_of ?_) (by simp)
        symm
        rw [decide_eq_false_iff_not]
        rintro rfl
        simp at h1
      · rename_i h1
        have h1 : a[i] = b[i] := by simpa using h1
        (conv => whnf)
        exact ⟨⟨i + 1, by omega, take_step hc hc' hr h1⟩, Wk.of id [] ⟨.free (encLegs_free _ _), .free (.fn (by simp) (by simp)), .free (encLegs_free _ _), .int_of rfl, .int_of (wrap64_succ hc ha), trivial⟩ (LeH.nil (Nat.le_refl _) (fun b h => by omega) (by simp)), by simp only; omega⟩
    · rename_i hc
      have hc : i = a.length := by simp at hc; omega
      subst hc
      rw [List.take_length, hlen, List.take_length] at hr
      (conv => whnf)
      refine Ends.pure [] (.bool_of ?_) (by simp)
      simp [hr]
set_option maxRecDepth 100000 in
set_option maxHeartbeats 4000000 in
theorem same_ok (fr fr' : Bool) (a b : Attrs) : PCon prog 58 [encA fr a, encA fr' b] (.bool (sameA a b)) := by
  refine callV_of (fn := Go.Proofs.Tryz.f58) (body := _) tab_ok mixed rfl rfl (by decide) (by simp [Go.Proofs.Tryz.f58]) ?_
  have fin : ∀ {s : St} {r : Bool}, sameA a b = r → ∃ v1 h' nx', Ends 0 s (.bool r) v1 h' nx' ∧ (v1 = .bool (sameA a b) ∧ h' = [] ∧ nx' = 0) := fun h => Ends.pure [] (.bool_of h.symm) (by simp)
  (conv => whnf)
  repeat' first
    | refine fin ?_
    | (split <;> (conv => whnf))
    | (refine callV_pure (equalFunc_ok fr fr' a.path b.path) ⟨.free (encLegs_free _ _), .free (encLegs_free _ _), .free (.fn (by simp) (by simp)), trivial⟩ ?_; (conv => whnf))
    | (refine callV_pure (equal_ok fr fr' a.tags b.tags) ⟨.free (encW_free _ _), .free (encW_free _ _), trivial⟩ ?_; (conv => whnf))
  any_goals (clear fin; simp only [sameA, decide_eq_false_iff_not]; rintro rfl; simp_all; done)
  clear fin
  simp only [w_eq, b_eq, beq_iff_eq, decide_eq_true_eq] at *
  obtain ⟨o1, p1, n1, h1, m1, g1, q1, t1⟩ := a
  obtain ⟨o2, p2, n2, h2, m2, g2, q2, t2⟩ := b
  simp_all [sameA]
end Go.Proofs.YtehhligadnlijaaGreatDoor
set_option linter.unusedVariables false
set_option linter.unusedSimpArgs false
namespace Go.Proofs.YtehhligadnlijaaGreatDoor
open Go.RowKit
instance {fr p} : FreeLI (encLeg fr p) := ⟨⟨encLeg_free fr p⟩⟩
instance {fr} {l : List Leg} : FreeRI (l.map (encLeg fr)) := ⟨⟨rowsLegs_free fr l⟩⟩
instance {fr l} : FreeI (encLegs fr l) := ⟨⟨encLegs_free fr l⟩⟩
instance {fr a} : FreeLI (cellsA fr a) := ⟨⟨cellsA_free fr a⟩⟩
instance {fr a} : FreeI (encA fr a) := ⟨⟨encA_free fr a⟩⟩
instance : FreeLI zeroA := ⟨⟨zeroA_free⟩⟩
end Go.Proofs.YtehhligadnlijaaGreatDoor
set_option linter.unusedVariables false
set_option linter.unusedSimpArgs false
namespace Go.Proofs.YtehhligadnlijaaGreatDoor
open Go.RowKit
open Go.Proofs.Tryz (prog)
attribute [local irreducible] CallV RoundV
theorem pathOk_all {l : List Leg} (h : pathOk l = true) : l.length ≤ 8 ∧ ∀ p ∈ l, legOk p = true := by simpa [pathOk] using h
theorem legOk_ns {p : Leg} (h : legOk p = true) : 1 ≤ p.ns.length ∧ p.ns.length ≤ 32 ∧ (p.set = true → rises p.ns = true) ∧ ∀ x ∈ p.ns, x ≠ 0 := by
  simp only [legOk, Bool.and_eq_true, decide_eq_true_eq, Bool.or_eq_true, Bool.not_eq_true', List.all_eq_true, bne_iff_ne] at h
  refine ⟨h.1.1.1, h.1.1.2, fun hs => ?_, h.2⟩
  rcases h.1.2 with h1 | h1
  · rw [hs] at h1; cases h1
  · exact h1
end Go.Proofs.YtehhligadnlijaaGreatDoor
set_option linter.unusedVariables false
set_option linter.unusedSimpArgs false
namespace Go.Proofs.YtehhligadnlijaaGreatDoor
open Go.RowKit
theorem wordOf_four (x : UInt32) : wordOf (fourB x) = x := by
  apply UInt32.toNat_inj.1
  have hx := x.toNat_lt
  simp [wordOf, fourB, UInt32.toNat_add, UInt32.toNat_mul, UInt32.toNat_shiftRight, Nat.shiftRight_eq_div_pow]
  omega
theorem numsK_all (l : List UInt32) (r : List UInt8) : numsK (allB l ++ r) l.length = l := by
  induction l generalizing r with
  | nil => rfl
  | cons x l ih =>
    have h4 : (fourB x).length = 4 := rfl
    have hs : numsK (allB (x :: l) ++ r) (l.length + 1) = wordOf (fourB x) :: numsK (allB l ++ r) l.length := by
      simp only [numsK, List.range_succ_eq_map, List.map_cons, List.map_map]
      have e : allB (x :: l) ++ r = fourB x ++ (allB l ++ r) := by simp [allB]
      rw [e]
      congr 1
      try
        refine List.map_congr_left fun j _ => ?_
        simp only [Function.comp]
        congr 2
    rw [List.length_cons, hs, wordOf_four, ih]
theorem legs_path : ∀ (l : List Leg), (∀ p ∈ l, p.ns.length ≤ 32) → legs (pathB l) = some (l.map fun p => (kindB p, p.ns))
  | [], _ => by simp [pathB, legs_nil]
  | p :: l, h => by
    have hp := h p (by simp)
    have hn : (UInt8.ofNat p.ns.length).toNat = p.ns.length := by simp [UInt8.toNat_ofNat']; omega
    have e : pathB (p :: l) = kindB p :: UInt8.ofNat p.ns.length :: (allB p.ns ++ pathB l) := by simp [pathB, legB]
    have hl : (allB p.ns ++ pathB l).length = 4 * p.ns.length + (pathB l).length := by rw [List.length_append, allB_len]
    rw [e, legs_go (by rw [hn]; omega), hn, List.drop_left' (by rw [allB_len]), legs_path l (fun q hq => h q (by simp [hq])), numsK_all]
    rfl
theorem legOf_kind (p : Leg) : legOf (kindB p, p.ns) = p := by
  obtain ⟨s, ns⟩ := p
  cases s <;> simp [legOf, kindB]
theorem kindOk_kind (p : Leg) : kindOk (kindB p) = true := by
  obtain ⟨s, ns⟩ := p
  cases s <;> simp [kindOk, kindB]
end Go.Proofs.YtehhligadnlijaaGreatDoor
set_option linter.unusedVariables false
set_option linter.unusedSimpArgs false
namespace Go.Proofs.YtehhligadnlijaaGreatDoor
open Go.RowKit
theorem head_attr {f c : UInt8} {v rest : List UInt8} {last : Nat} (hf : flagsI c.toNat = f.toNat) (hf3 : f = 64 ∨ f = 128 ∨ f = 192) (hc : last < c.toNat) (hv : v.length < 65536) :
    attrB f c v ++ rest ≠ [] ∧ headE (attrB f c v ++ rest) last = 0 ∧ byteN (attrB f c v ++ rest) 1 = c.toNat ∧ valB (attrB f c v ++ rest) = v ∧ restB (attrB f c v ++ rest) = rest := by
  have hfl : 0 ≤ flagsI c.toNat := by rw [hf]; omega
  by_cases hl : 255 < v.length
  · have e : attrB f c v ++ rest = (f + 16) :: c :: UInt8.ofNat (v.length / 256) :: UInt8.ofNat (v.length % 256) :: (v ++ rest) := by simp [attrB, hl]
    have h0 : (f + 16).toNat = f.toNat + 16 := by rcases hf3 with rfl | rfl | rfl <;> rfl
    have b0 : byteN (attrB f c v ++ rest) 0 = f.toNat + 16 := by rw [e]; simp [byteN, h0]
    have b1 : byteN (attrB f c v ++ rest) 1 = c.toNat := by rw [e]; simp [byteN]
    have b2 : byteN (attrB f c v ++ rest) 2 = v.length / 256 := by rw [e]; simp [byteN, UInt8.toNat_ofNat']; omega
    have b3 : byteN (attrB f c v ++ rest) 3 = v.length % 256 := by rw [e]; simp [byteN, UInt8.toNat_ofNat']
    have lg : lngB (attrB f c v ++ rest) = true := by rw [lngB, b0]; rcases hf3 with rfl | rfl | rfl <;> rfl
    have nb : numB (attrB f c v ++ rest) = v.length := by simp only [numB, lg, if_true, b2, b3]; omega
    have at' : atB (attrB f c v ++ rest) = 4 := by simp [atB, lg]
    have len : (attrB f c v ++ rest).length = 4 + v.length + rest.length := by rw [e]; simp; omega
    refine ⟨by rw [e]; simp, ?_, b1, ?_, ?_⟩
    · unfold headE
      rw [if_neg (by omega), if_neg (by rw [len]; omega), if_neg (by rw [at', nb]; omega), if_neg (by rw [b1]; omega), if_neg, if_neg (by rw [b1]; omega)]
      rw [b0, b1, lg, nb, hf]
      simp [hl]
    · rw [valB, at', nb, e]; simp
    · rw [restB, at', nb, e, ← List.drop_drop]; simp
  · have e : attrB f c v ++ rest = f :: c :: UInt8.ofNat v.length :: (v ++ rest) := by simp [attrB, hl]
    have b0 : byteN (attrB f c v ++ rest) 0 = f.toNat := by rw [e]; simp [byteN]
    have b1 : byteN (attrB f c v ++ rest) 1 = c.toNat := by rw [e]; simp [byteN]
    have b2 : byteN (attrB f c v ++ rest) 2 = v.length := by rw [e]; simp [byteN, UInt8.toNat_ofNat']; omega
    have lg : lngB (attrB f c v ++ rest) = false := by rw [lngB, b0]; rcases hf3 with rfl | rfl | rfl <;> rfl
    have nb : numB (attrB f c v ++ rest) = v.length := by simp [numB, lg, b2]
    have at' : atB (attrB f c v ++ rest) = 3 := by simp [atB, lg]
    have len : (attrB f c v ++ rest).length = 3 + v.length + rest.length := by rw [e]; simp; omega
    refine ⟨by rw [e]; simp, ?_, b1, ?_, ?_⟩
    · unfold headE
      rw [if_neg (by omega), if_neg (by rw [lg]; simp), if_neg (by rw [at', nb]; omega), if_neg (by rw [b1]; omega), if_neg, if_neg (by rw [b1]; omega)]
      rw [b0, b1, lg, nb, hf]
      simp [hl]
    · rw [valB, at', nb, e]; simp
    · rw [restB, at', nb, e, ← List.drop_drop]; simp
end Go.Proofs.YtehhligadnlijaaGreatDoor
set_option linter.unusedVariables false
set_option linter.unusedSimpArgs false
namespace Go.Proofs.YtehhligadnlijaaGreatDoor
open Go.RowKit
theorem parse_step {f c : UInt8} {v rest : List UInt8} {last seen : Nat} {a : Attrs} (hf : flagsI c.toNat = f.toNat) (hf3 : f = 64 ∨ f = 128 ∨ f = 192) (hc : last < c.toNat) (hv : v.length < 65536) (he : lowE c.toNat v = 0) :
    parseA (attrB f c v ++ rest) last seen a = parseA rest c.toNat (if c.toNat ≤ 3 then seen + 1 else seen) (lowA c.toNat a v) := by
  obtain ⟨h1, h2, h3, h4, h5⟩ := head_attr (rest := rest) hf hf3 hc hv
  rw [parseA_go h1 h2 (by rw [h3, h4]; exact he), h3, h4, h5]
theorem rightA_parts {a : Attrs} (h : rightA a = true) : a.origin.toNat ≤ 2 ∧ pathOk a.path = true ∧ a.next ≠ 0 ∧ (a.hasMed = false → a.med = 0) ∧ (a.hasPref = false → a.pref = 0) ∧ a.tags.length ≤ 16 ∧ rises a.tags = true := by
  simp only [rightA, Bool.and_eq_true, decide_eq_true_eq, Bool.or_eq_true, bne_iff_ne, ne_eq, beq_iff_eq] at h
  obtain ⟨⟨⟨⟨⟨⟨h1, h2⟩, h3⟩, h4⟩, h5⟩, h6⟩, h7⟩ := h
  refine ⟨by omega, h2, h3, fun e => ?_, fun e => ?_, by omega, h7⟩
  · rcases h4 with h | h
    · rw [e] at h; cases h
    · exact h
  · rcases h5 with h | h
    · rw [e] at h; cases h
    · exact h
theorem pathE_ok {l : List Leg} (h : pathOk l = true) : pathE (pathB l) = 0 ∧ pathA (pathB l) = l := by
  have hall := (pathOk_all h).2
  have hl := legs_path l (fun p hp => (legOk_ns (hall p hp)).2.1)
  have hm : (l.map fun p => (kindB p, p.ns)).map legOf = l := by
    rw [List.map_map]
    conv => rhs; rw [← List.map_id l]
    exact List.map_congr_left fun p _ => legOf_kind p
  constructor
  · rw [pathE, hl]
    simp only
    rw [hm, h]
    have : (l.map fun p => (kindB p, p.ns)).all (fun p => kindOk p.1) = true := by
      rw [List.all_eq_true]
      intro p hp
      obtain ⟨q, _, rfl⟩ := List.mem_map.1 hp
      exact kindOk_kind q
    rw [this]; rfl
  · rw [pathA, hl]; exact hm
theorem pathB_short {l : List Leg} (h : pathOk l = true) : (pathB l).length < 65536 := by
  have h1 := pathOk_all h
  have := pathB_len (l := l) (fun p hp => by have := (legOk_ns (h1.2 p hp)).2.1; omega)
  omega
theorem low8 {v : List UInt8} (h1 : v.length ≠ 0) (h2 : v.length % 4 = 0) (h3 : v.length / 4 ≤ 16) (h4 : rises (numsK v (v.length / 4)) = true) : lowE 8 v = 0 := by
  have h5 : ¬ (16 < v.length / 4 ∨ rises (numsK v (v.length / 4)) = false) := by rw [h4]; simp; omega
  have h6 : ¬ (v.length = 0 ∨ v.length % 4 ≠ 0) := by omega
  simp only [lowE]
  rw [if_neg (by decide), if_neg (by decide), if_neg (by decide), if_neg (by decide), if_neg (by decide), if_neg h6, if_neg h5]
theorem low3 {v : List UInt8} (h1 : v.length = 4) (h2 : wordOf v ≠ 0) : lowE 3 v = 0 := by simp [lowE, h1, h2]
theorem tagsE {l : List UInt32} (h0 : l ≠ []) (h16 : l.length ≤ 16) (hr : rises l = true) : lowE 8 (allB l) = 0 ∧ numsK (allB l) ((allB l).length / 4) = l := by
  have hl := allB_len l
  have hn : numsK (allB l) l.length = l := by have := numsK_all l []; rwa [List.append_nil] at this
  have hp := List.length_pos_iff.2 h0
  have hd : (allB l).length / 4 = l.length := by omega
  constructor
  · refine low8 (by omega) (by omega) (by omega) ?_
    rw [hd, hn]; exact hr
  · rw [hd, hn]
theorem raw_parse {a : Attrs} (h : rightA a = true) : parseA (rawA a) 0 0 noA = (a, 0) := by
  obtain ⟨h1, h2, h3, h4, h5, h6, h7⟩ := rightA_parts h
  obtain ⟨p1, p2⟩ := pathE_ok h2
  simp only [rawA, rawO, List.append_assoc]
  rw [parse_step (f := 64) (c := 1) rfl (by decide) (by decide) (by simp) (by simp [lowE]; omega)]
  rw [parse_step (f := 64) (c := 2) rfl (by decide) (by decide) (pathB_short h2) (by simpa [lowE] using p1)]
  rw [parse_step (f := 64) (c := 3) rfl (by decide) (by decide) (by simp [fourB]) (low3 rfl (by rw [wordOf_four]; exact h3))]
  obtain ⟨o, l, nn, hm, m, hq, q, tg⟩ := a
  simp only at *
  have e1 : lowA (UInt8.toNat 3) (lowA (UInt8.toNat 2) (lowA (UInt8.toNat 1) noA [o]) (pathB l)) (fourB nn) = ⟨o, l, nn, false, 0, false, 0, []⟩ := by
    simp [lowA, noA, p2, wordOf_four]
  rw [e1]
  have s1 : (if UInt8.toNat 3 ≤ 3 then (if UInt8.toNat 2 ≤ 3 then (if UInt8.toNat 1 ≤ 3 then 0 + 1 else 0) + 1 else if UInt8.toNat 1 ≤ 3 then 0 + 1 else 0) + 1 else if UInt8.toNat 2 ≤ 3 then (if UInt8.toNat 1 ≤ 3 then 0 + 1 else 0) + 1 else if UInt8.toNat 1 ≤ 3 then 0 + 1 else 0) = 3 := rfl
  rw [s1]
  have last : ∀ k, k < 8 → parseA (if 0 < tg.length then attrB 192 8 (allB tg) else []) k 3 ⟨o, l, nn, hm, m, hq, q, []⟩ = (⟨o, l, nn, hm, m, hq, q, tg⟩, 0) := by
    intro k hk
    rcases tg with _ | ⟨t, tg⟩
    · simp [parseA_nil]
    · obtain ⟨t1, t2⟩ := tagsE (l := t :: tg) (by simp) h6 h7
      have := parse_step (f := 192) (c := 8) (v := allB (t :: tg)) (rest := []) (last := k) (seen := 3) (a := ⟨o, l, nn, hm, m, hq, q, []⟩) rfl (by decide) (by simpa using hk) (by rw [allB_len]; omega) t1
      rw [List.append_nil] at this
      rw [if_pos (by simp), this, parseA_nil]
      simp [lowA, t2]
  have pref : ∀ k, k < 5 → parseA ((if hq then attrB 64 5 (fourB q) else []) ++ (if 0 < tg.length then attrB 192 8 (allB tg) else [])) k 3 ⟨o, l, nn, hm, m, false, 0, []⟩ = (⟨o, l, nn, hm, m, hq, q, tg⟩, 0) := by
    intro k hk
    cases hq with
    | false =>
      obtain rfl := h5 rfl
      simpa using last k (by omega)
    | true =>
      rw [if_pos rfl, parse_step (f := 64) (c := 5) rfl (by decide) (by simpa using hk) (by simp [fourB]) (by simp [lowE, fourB])]
      have := last 5 (by omega)
      simpa [lowA, wordOf_four] using this
  cases hm with
  | false =>
    obtain rfl := h4 rfl
    simpa using pref 3 (by omega)
  | true =>
    rw [if_pos rfl, parse_step (f := 128) (c := 4) rfl (by decide) (by decide) (by simp [fourB]) (by simp [lowE, fourB])]
    have := pref 4 (by omega)
    simpa [lowA, wordOf_four] using this
end Go.Proofs.YtehhligadnlijaaGreatDoor
set_option linter.unusedVariables false
set_option linter.unusedSimpArgs false
namespace Go.Proofs.YtehhligadnlijaaGreatDoor
open Go.RowKit Go.ChangeShapes Go.WideShapes
open Go.Proofs.Tryz (prog)
theorem rep_words : RepOk prog 43 (fun l : List UInt32 => [encW false l]) :=
  rep_slice (cells := fun x : UInt32 => [.int .u32 x.toNat]) Go.Proofs.Tryz.underlying43 (by kernel_rfl) (by decide) (fun _ => rfl) (rep_u32 Go.Proofs.Tryz.underlying22)
theorem rep_bytes : RepOk prog 50 (fun l : List UInt8 => [encB false l]) :=
  rep_slice (cells := fun x : UInt8 => [.int .u8 x.toNat]) Go.Proofs.Tryz.underlying50 (by kernel_rfl) (by decide) (fun _ => rfl) (rep_u8 Go.Proofs.Tryz.underlying5)
theorem vrs_join {G : Gh} {w : World} {vs : List V} {us : List Value} {v : V} {k n : Nat} (h : vrs G w vs (us.take n)) (hv : vrs G w [v] ((us.drop k).take 1)) (hk : k = n) (hn : n < us.length) : vrs G w (vs ++ [v]) (us.take (n + 1)) := by
  subst hk
  rw [List.take_succ_eq_append_getElem hn]
  refine h.append ?_
  rw [List.drop_eq_getElem_cons hn, List.take_succ_cons, List.take_zero] at hv
  exact hv
theorem one_join {us : List Value} {k n : Nat} (h : ∀ u ∈ us.take n, u.oneCell' = true) (hv : ∀ u ∈ (us.drop k).take 1, u.oneCell' = true) (hk : k = n) (hn : n < us.length) : ∀ u ∈ us.take (n + 1), u.oneCell' = true := by
  subst hk
  rw [List.take_succ_eq_append_getElem hn]
  intro u hu
  rcases List.mem_append.1 hu with hu | hu
  · exact h u hu
  · refine hv u ?_
    rw [List.drop_eq_getElem_cons hn, List.take_succ_cons, List.take_zero]
    exact hu
theorem vrs_take0 {G : Gh} {w : World} {us : List Value} : vrs G w [] (us.take 0) := by simp [vrs]
theorem field_at {H : Type} {enc : TypeId × Value → H} {w : World} {sp : Nat → Bool} {t : TypeId} {fs : Array Field} {fuel : Nat} {cs : List Value} {x : DataW H × List MemPlace} (ht : prog.underlying t = some (.struct fs)) (h : DataW.trod enc prog w 0 sp true fuel t cs = some x)
    (i : Nat) {f : Field} (hf : fs[i]? = some f) {α : Type} {cells : α → List V} (he : RepOk prog f.type cells) (ho : f.offset = i) (hz : prog.cellsOf f.type = 1) : ∃ a, vrs (G0 w) w (cells a) ((cs.drop i).take 1) ∧ ∀ u ∈ (cs.drop i).take 1, u.oneCell' = true := by
  have := field_of ht h hf he
  rw [ho, hz] at this
  exact this
theorem rep_leg : RepOk prog 92 (encLeg false) := fun enc w sp fuel cs x h => by
  have ht := Go.Proofs.Tryz.underlying92
  obtain ⟨xs, n, _, _, hlen, _, _⟩ := DataW.trod_struct ht h
  have hl : cs.length = 2 := hlen.trans (by kernel_rfl)
  obtain ⟨b, h0, o0⟩ := field_at ht h 0 rfl (rep_bool Go.Proofs.Tryz.underlying4) rfl (by kernel_rfl)
  obtain ⟨l, h1, o1⟩ := field_at ht h 1 rfl rep_words rfl (by kernel_rfl)
  have j1 := vrs_join (vrs_join vrs_take0 h0 rfl (by omega)) h1 rfl (by omega)
  have k1 := one_join (one_join (by simp) o0 rfl (by omega)) o1 rfl (by omega)
  rw [List.take_of_length_le (by omega)] at j1 k1
  exact ⟨⟨b, l⟩, j1, k1⟩
theorem rep_legs : RepOk prog 42 (fun l : List Leg => [encLegs false l]) :=
  rep_slice (cells := encLeg false) Go.Proofs.Tryz.underlying42 (by kernel_rfl) (by decide) (fun _ => rfl) rep_leg
theorem rep_attrs : RepOk prog 45 (cellsA false) := fun enc w sp fuel cs x h => by
  have ht := Go.Proofs.Tryz.underlying45
  obtain ⟨xs, n, _, _, hlen, _, _⟩ := DataW.trod_struct ht h
  have hl : cs.length = 8 := hlen.trans (by kernel_rfl)
  obtain ⟨a0, h0, o0⟩ := field_at ht h 0 rfl (rep_u8 Go.Proofs.Tryz.underlying5) rfl (by kernel_rfl)
  obtain ⟨a1, h1, o1⟩ := field_at ht h 1 rfl rep_legs rfl (by kernel_rfl)
  obtain ⟨a2, h2, o2⟩ := field_at ht h 2 rfl (rep_u32 Go.Proofs.Tryz.underlying22) rfl (by kernel_rfl)
  obtain ⟨a3, h3, o3⟩ := field_at ht h 3 rfl (rep_bool Go.Proofs.Tryz.underlying4) rfl (by kernel_rfl)
  obtain ⟨a4, h4, o4⟩ := field_at ht h 4 rfl (rep_u32 Go.Proofs.Tryz.underlying22) rfl (by kernel_rfl)
  obtain ⟨a5, h5, o5⟩ := field_at ht h 5 rfl (rep_bool Go.Proofs.Tryz.underlying4) rfl (by kernel_rfl)
  obtain ⟨a6, h6, o6⟩ := field_at ht h 6 rfl (rep_u32 Go.Proofs.Tryz.underlying22) rfl (by kernel_rfl)
  obtain ⟨a7, h7, o7⟩ := field_at ht h 7 rfl rep_words rfl (by kernel_rfl)
  have j := vrs_join (vrs_join (vrs_join (vrs_join (vrs_join (vrs_join (vrs_join (vrs_join vrs_take0 h0 rfl (by omega)) h1 rfl (by omega)) h2 rfl (by omega)) h3 rfl (by omega)) h4 rfl (by omega)) h5 rfl (by omega)) h6 rfl (by omega)) h7 rfl (by omega)
  have k := one_join (one_join (one_join (one_join (one_join (one_join (one_join (one_join (by simp) o0 rfl (by omega)) o1 rfl (by omega)) o2 rfl (by omega)) o3 rfl (by omega)) o4 rfl (by omega)) o5 rfl (by omega)) o6 rfl (by omega)) o7 rfl (by omega)
  rw [List.take_of_length_le (by omega)] at j k
  exact ⟨⟨a0, a1, a2, a3, a4, a5, a6, a7⟩, j, k⟩
theorem arg_bytes : ArgOk prog 50 (encB false) := arg_slice Go.Proofs.Tryz.underlying50 rep_bytes
theorem arg_i64 : ArgOk prog 3 (fun n : I64 => .int .i64 n.1) := arg_int Go.Proofs.Tryz.underlying3 (rep_i64 Go.Proofs.Tryz.underlying3)
theorem arg_u8 : ArgOk prog 5 (fun x : UInt8 => .int .u8 x.toNat) := arg_int Go.Proofs.Tryz.underlying5 (rep_u8 Go.Proofs.Tryz.underlying5)
theorem laidOut : laidOutB prog = true := by kernel_rfl
theorem own : ownKnob prog.godebug = none := by kernel_rfl
end Go.Proofs.YtehhligadnlijaaGreatDoor
set_option linter.unusedVariables false
set_option linter.unusedSimpArgs false
namespace Go.Proofs.YtehhligadnlijaaGreatDoor
open Go.RowKit
open Go.Proofs.Tryz (prog)
structure Prefix where
  addr : UInt32
  len : UInt8
deriving DecidableEq
def cellsP (p : Prefix) : List V := [cW p.addr, cB p.len]
def encP (p : Prefix) : V := .agg (cellsP p)
theorem cellsP_free (p : Prefix) : ∀ v ∈ cellsP p, Free v := by
  intro v hv
  simp only [cellsP, List.mem_cons, List.not_mem_nil, or_false] at hv
  rcases hv with rfl | rfl <;> exact .int
theorem encP_free (p : Prefix) : Free (encP p) := .agg (cellsP_free p)
instance {p} : FreeLI (cellsP p) := ⟨⟨cellsP_free p⟩⟩
instance {p} : FreeI (encP p) := ⟨⟨encP_free p⟩⟩
def hostN (p : Prefix) : Nat := 32 - p.len.toNat
def prefOk (p : Prefix) : Bool := decide ((p.len.toNat : Int) ≤ 32) && decide (p.addr.toNat % 2 ^ hostN p = 0)
def coversP (p q : Prefix) : Bool := prefOk p && prefOk q && decide ((p.len.toNat : Int) ≤ (q.len.toNat : Int)) && decide (q.addr.toNat / 2 ^ hostN p = p.addr.toNat / 2 ^ hostN p)
def maskN (k : Nat) : Nat := 2 ^ 32 - 2 ^ k
theorem mask_shift {k : Nat} (h : k ≤ 32) : maskN k = (2 ^ (32 - k) - 1) <<< k := by
  rw [maskN, Nat.shiftLeft_eq, Nat.sub_mul, ← Nat.pow_add, Nat.one_mul]
  congr 2
  omega
theorem and_mask {x k : Nat} (hx : x < 2 ^ 32) (h : k ≤ 32) : x &&& maskN k = x / 2 ^ k * 2 ^ k := by
  rw [mask_shift h, ← Nat.shiftLeft_eq, ← Nat.shiftRight_eq_div_pow]
  apply Nat.eq_of_testBit_eq
  intro i
  simp only [Nat.testBit_and, Nat.testBit_shiftLeft, Nat.testBit_two_pow_sub_one, Nat.testBit_shiftRight]
  by_cases hk : k ≤ i
  · rw [show k + (i - k) = i by omega]
    by_cases hi : i < 32
    · simp [hk, show i - k < 32 - k by omega]
    · have : x.testBit i = false := Nat.testBit_lt_two_pow (Nat.lt_of_lt_of_le hx (Nat.pow_le_pow_right (by decide) (by omega)))
      simp [this]
  · simp [hk]
theorem mask_lt (k : Nat) : maskN k < 2 ^ 32 := Nat.sub_lt (by decide) (Nat.two_pow_pos k)
theorem bits_and_mask (x : UInt32) {k : Nat} (h : k ≤ 32) : bits .and .u32 (x.toNat : Int) ((maskN k : Nat) : Int) = ((x.toNat / 2 ^ k * 2 ^ k : Nat) : Int) := by
  rw [(bits_nat .u32 32 (by decide) (fun n h0 h1 => by rw [wrap32]; omega) x.toNat (maskN k) x.toNat_lt (mask_lt k)).1, and_mask x.toNat_lt h]
theorem bits_andNot_mask (x : UInt32) {k : Nat} (h : k ≤ 32) : bits .andNot .u32 (x.toNat : Int) ((maskN k : Nat) : Int) = ((x.toNat % 2 ^ k : Nat) : Int) := by
  have hx : x.toNat % 2 ^ IntKind.u32.bits = x.toNat := Nat.mod_eq_of_lt x.toNat_lt
  have hm : maskN k % 2 ^ IntKind.u32.bits = maskN k := Nat.mod_eq_of_lt (mask_lt k)
  have hk : 2 ^ k ≤ 2 ^ 32 := Nat.pow_le_pow_right (by decide) h
  have hn : 2 ^ IntKind.u32.bits - 1 - maskN k = 2 ^ k - 1 := by
    have : 2 ^ IntKind.u32.bits = 2 ^ 32 := rfl
    have hp := Nat.two_pow_pos k
    rw [this, maskN]; omega
  have hlt : x.toNat % 2 ^ k ≤ x.toNat := Nat.mod_le _ _
  have hx2 := x.toNat_lt
  simp only [bits, BitVec.ofInt_natCast, BitVec.toNat_and, BitVec.toNat_not, BitVec.toNat_ofNat, hx, hm, hn]
  rw [Nat.and_two_pow_sub_one_eq_mod, wrap32]
  omega
theorem host_le (p : Prefix) : hostN p ≤ 32 := by unfold hostN; omega
end Go.Proofs.YtehhligadnlijaaGreatDoor
set_option linter.unusedVariables false
set_option linter.unusedSimpArgs false
namespace Go.Proofs.YtehhligadnlijaaGreatDoor
open Go.RowKit Go.ChangeShapes Go.WideShapes
open Go.Proofs.Tryz (prog)
theorem rep_prefix : RepOk prog 24 cellsP := fun enc w sp fuel cs x h => by
  have ht := Go.Proofs.Tryz.underlying24
  obtain ⟨xs, n, _, _, hlen, _, _⟩ := DataW.trod_struct ht h
  have hl : cs.length = 2 := hlen.trans (by kernel_rfl)
  obtain ⟨b, h0, o0⟩ := field_at ht h 0 rfl (rep_u32 Go.Proofs.Tryz.underlying22) rfl (by kernel_rfl)
  obtain ⟨l, h1, o1⟩ := field_at ht h 1 rfl (rep_u8 Go.Proofs.Tryz.underlying5) rfl (by kernel_rfl)
  have j1 := vrs_join (vrs_join vrs_take0 h0 rfl (by omega)) h1 rfl (by omega)
  have k1 := one_join (one_join (by simp) o0 rfl (by omega)) o1 rfl (by omega)
  rw [List.take_of_length_le (by omega)] at j1 k1
  exact ⟨⟨b, l⟩, j1, k1⟩
theorem read_u8 : prog.readableRec 5 = true ∧ 5 < prog.types.size := ⟨by kernel_rfl, of_decide_eq_true (by kernel_rfl)⟩
theorem read_int : prog.readableRec 3 = true ∧ 3 < prog.types.size := ⟨by kernel_rfl, of_decide_eq_true (by kernel_rfl)⟩
theorem read_bytes : prog.readableRec 50 = true ∧ 50 < prog.types.size := ⟨by kernel_rfl, of_decide_eq_true (by kernel_rfl)⟩
end Go.Proofs.YtehhligadnlijaaGreatDoor
set_option linter.unusedVariables false
set_option linter.unusedSimpArgs false
namespace Go.Proofs.YtehhligadnlijaaGreatDoor
open Go.RowKit
open Go.Proofs.Tryz (prog)
attribute [local irreducible] CallV RoundV
theorem mask_val {n : Nat} (h : n < 256) : IntKind.u32.wrap (IntKind.u64.wrap (4294967296 - IntKind.u64.wrap (1 * 2 ^ (min (IntKind.u8.wrap (32 - (if (32 : Int) < n then 32 else (n : Int)))).toNat IntKind.u64.bits)))) = ((maskN (32 - n) : Nat) : Int) := by
  have key : ∀ m : Nat, m ≤ 32 → IntKind.u32.wrap (IntKind.u64.wrap (4294967296 - IntKind.u64.wrap (1 * 2 ^ (min (IntKind.u8.wrap (32 - (m : Int))).toNat IntKind.u64.bits)))) = ((maskN (32 - m) : Nat) : Int) := by
    intro m hm
    have hm' : m = 0 ∨ m = 1 ∨ m = 2 ∨ m = 3 ∨ m = 4 ∨ m = 5 ∨ m = 6 ∨ m = 7 ∨ m = 8 ∨ m = 9 ∨ m = 10 ∨ m = 11 ∨ m = 12 ∨ m = 13 ∨ m = 14 ∨ m = 15 ∨ m = 16 ∨ m = 17 ∨ m = 18 ∨ m = 19 ∨ m = 20 ∨ m = 21 ∨ m = 22 ∨ m = 23 ∨ m = 24 ∨ m = 25 ∨ m = 26 ∨ m = 27 ∨ m = 28 ∨ m = 29 ∨ m = 30 ∨ m = 31 ∨ m = 32 := by omega
    rcases hm' with rfl | rfl | rfl | rfl | rfl | rfl | rfl | rfl | rfl | rfl | rfl | rfl | rfl | rfl | rfl | rfl | rfl | rfl | rfl | rfl | rfl | rfl | rfl | rfl | rfl | rfl | rfl | rfl | rfl | rfl | rfl | rfl | rfl <;> decide
  split
  · rename_i hn
    have hn : 32 < n := by omega
    rw [show 32 - n = 32 - 32 by omega]
    exact key 32 (Nat.le_refl _)
  · exact key n (by omega)
set_option maxRecDepth 100000 in
theorem mask_ok (x : UInt8) : PCon prog 38 [cB x] (.int .u32 (maskN (32 - x.toNat) : Nat)) := by
  refine callV_of (fn := Go.Proofs.Tryz.f38) (body := _) tab_ok mixed rfl rfl (by decide) (by simp [Go.Proofs.Tryz.f38]) ?_
  (conv => whnf)
  refine ⟨by rw [wrap8]; omega, ?_⟩
  (conv => whnf)
  exact (Ends.pure [] (by first | exact .int_of (mask_val x.toNat_lt) | exact .ptr rfl (by omega) | exact .osl_of rfl (by omega) rfl | exact .fr rfl | exact LeL.fr rfl | exact .yld rfl (by omega) | exact .eptr rfl (by omega) | exact .osl0 | exact .snil_sl | exact .to_any | exact LeV.nineA | exact LeV.noA | (refine .tupL ?_; repeat' (first | exact True.intro | exact .int_of (mask_val x.toNat_lt) | exact .ptr rfl (by omega) | exact .osl_of rfl (by omega) rfl | exact .fr rfl | exact LeL.fr rfl | exact .yld rfl (by omega) | exact .eptr rfl (by omega) | exact .osl0 | exact .snil_sl | exact .to_any | exact LeV.nineA | exact LeV.noA | refine .aggL ?_ | refine ⟨?_, ?_⟩)) | (refine .aggL ?_; repeat' (first | exact True.intro | exact .int_of (mask_val x.toNat_lt) | exact .ptr rfl (by omega) | exact .osl_of rfl (by omega) rfl | exact .fr rfl | exact LeL.fr rfl | exact .yld rfl (by omega) | exact .eptr rfl (by omega) | exact .osl0 | exact .snil_sl | exact .to_any | exact LeV.nineA | exact LeV.noA | refine ⟨?_, ?_⟩))) (by simp))
set_option maxRecDepth 100000 in
theorem uRight_ok (p : Prefix) : PCon prog 12 [encP p] (.bool (prefOk p)) := by
  refine callV_of (fn := Go.Proofs.Tryz.f12) (body := _) tab_ok mixed rfl rfl (by decide) (by simp [Go.Proofs.Tryz.f12]) ?_
  (conv => whnf)
  cases h : decide ((p.len.toNat : Int) ≤ 32) with
  | false =>
    (conv => whnf)
    refine ⟨by kernel_rfl, ?_⟩
    (conv => whnf)
    exact (Ends.pure [] (by first | exact .bool_of (by simp [prefOk, h]) | exact .ptr rfl (by omega) | exact .osl_of rfl (by omega) rfl | exact .fr rfl | exact LeL.fr rfl | exact .yld rfl (by omega) | exact .eptr rfl (by omega) | exact .osl0 | exact .snil_sl | exact .to_any | exact LeV.nineA | exact LeV.noA | (refine .tupL ?_; repeat' (first | exact True.intro | exact .bool_of (by simp [prefOk, h]) | exact .ptr rfl (by omega) | exact .osl_of rfl (by omega) rfl | exact .fr rfl | exact LeL.fr rfl | exact .yld rfl (by omega) | exact .eptr rfl (by omega) | exact .osl0 | exact .snil_sl | exact .to_any | exact LeV.nineA | exact LeV.noA | refine .aggL ?_ | refine ⟨?_, ?_⟩)) | (refine .aggL ?_; repeat' (first | exact True.intro | exact .bool_of (by simp [prefOk, h]) | exact .ptr rfl (by omega) | exact .osl_of rfl (by omega) rfl | exact .fr rfl | exact LeL.fr rfl | exact .yld rfl (by omega) | exact .eptr rfl (by omega) | exact .osl0 | exact .snil_sl | exact .to_any | exact LeV.nineA | exact LeV.noA | refine ⟨?_, ?_⟩))) (by simp))
  | true =>
    (conv => whnf)
    refine ⟨_, [], fun h nx _ => pureV_pure (mask_ok p.len) ⟨.free .int, trivial⟩, by simp, ?_⟩
    (conv => whnf)
    refine ⟨by kernel_rfl, ?_⟩
    (conv => whnf)
    refine (Ends.pure [] (by first | exact .bool_of (by rw [prefOk, h, show 32 - p.len.toNat = hostN p from rfl, bits_andNot_mask _ (host_le p), Bool.true_and]; rw [Bool.eq_iff_iff]; simp only [beq_iff_eq, decide_eq_true_eq]; omega) | exact .ptr rfl (by omega) | exact .osl_of rfl (by omega) rfl | exact .fr rfl | exact LeL.fr rfl | exact .yld rfl (by omega) | exact .eptr rfl (by omega) | exact .osl0 | exact .snil_sl | exact .to_any | exact LeV.nineA | exact LeV.noA | (refine .tupL ?_; repeat' (first | exact True.intro | exact .bool_of (by rw [prefOk, h, show 32 - p.len.toNat = hostN p from rfl, bits_andNot_mask _ (host_le p), Bool.true_and]; rw [Bool.eq_iff_iff]; simp only [beq_iff_eq, decide_eq_true_eq]; omega) | exact .ptr rfl (by omega) | exact .osl_of rfl (by omega) rfl | exact .fr rfl | exact LeL.fr rfl | exact .yld rfl (by omega) | exact .eptr rfl (by omega) | exact .osl0 | exact .snil_sl | exact .to_any | exact LeV.nineA | exact LeV.noA | refine .aggL ?_ | refine ⟨?_, ?_⟩)) | (refine .aggL ?_; repeat' (first | exact True.intro | exact .bool_of (by rw [prefOk, h, show 32 - p.len.toNat = hostN p from rfl, bits_andNot_mask _ (host_le p), Bool.true_and]; rw [Bool.eq_iff_iff]; simp only [beq_iff_eq, decide_eq_true_eq]; omega) | exact .ptr rfl (by omega) | exact .osl_of rfl (by omega) rfl | exact .fr rfl | exact LeL.fr rfl | exact .yld rfl (by omega) | exact .eptr rfl (by omega) | exact .osl0 | exact .snil_sl | exact .to_any | exact LeV.nineA | exact LeV.noA | refine ⟨?_, ?_⟩))) (by simp))
theorem cover_eq {p q : Prefix} (h : prefOk p = true) : decide (q.addr.toNat / 2 ^ hostN p = p.addr.toNat / 2 ^ hostN p) = (((q.addr.toNat / 2 ^ hostN p * 2 ^ hostN p : Nat) : Int) == (p.addr.toNat : Int)) := by
  simp only [prefOk, Bool.and_eq_true, decide_eq_true_eq] at h
  have hd := Nat.div_add_mod p.addr.toNat (2 ^ hostN p)
  rw [h.2, Nat.add_zero, Nat.mul_comm] at hd
  rw [Bool.eq_iff_iff]
  simp only [decide_eq_true_eq, beq_iff_eq]
  constructor
  · intro e; rw [e, hd]
  · intro e
    have e : q.addr.toNat / 2 ^ hostN p * 2 ^ hostN p = p.addr.toNat := by omega
    rw [← hd] at e
    exact Nat.mul_right_cancel (Nat.two_pow_pos _) e
set_option maxRecDepth 100000 in
theorem uCovers_ok (p q : Prefix) : PCon prog 14 [encP p, encP q] (.bool (coversP p q)) := by
  refine callV_of (fn := Go.Proofs.Tryz.f14) (body := _) tab_ok mixed rfl rfl (by decide) (by simp [Go.Proofs.Tryz.f14]) ?_
  (conv => whnf)
  refine ⟨_, [], fun h nx _ => pureV_pure (uRight_ok p) ⟨.free (encP_free _), trivial⟩, by simp, ?_⟩
  cases h1 : prefOk p with
  | false =>
    (conv => whnf)
    refine ⟨by kernel_rfl, ?_⟩
    (conv => whnf)
    exact (Ends.pure [] (by first | exact .bool_of (by simp [coversP, h1]) | exact .ptr rfl (by omega) | exact .osl_of rfl (by omega) rfl | exact .fr rfl | exact LeL.fr rfl | exact .yld rfl (by omega) | exact .eptr rfl (by omega) | exact .osl0 | exact .snil_sl | exact .to_any | exact LeV.nineA | exact LeV.noA | (refine .tupL ?_; repeat' (first | exact True.intro | exact .bool_of (by simp [coversP, h1]) | exact .ptr rfl (by omega) | exact .osl_of rfl (by omega) rfl | exact .fr rfl | exact LeL.fr rfl | exact .yld rfl (by omega) | exact .eptr rfl (by omega) | exact .osl0 | exact .snil_sl | exact .to_any | exact LeV.nineA | exact LeV.noA | refine .aggL ?_ | refine ⟨?_, ?_⟩)) | (refine .aggL ?_; repeat' (first | exact True.intro | exact .bool_of (by simp [coversP, h1]) | exact .ptr rfl (by omega) | exact .osl_of rfl (by omega) rfl | exact .fr rfl | exact LeL.fr rfl | exact .yld rfl (by omega) | exact .eptr rfl (by omega) | exact .osl0 | exact .snil_sl | exact .to_any | exact LeV.nineA | exact LeV.noA | refine ⟨?_, ?_⟩))) (by simp))
  | true =>
  (conv => whnf)
  refine ⟨_, [], fun h nx _ => pureV_pure (uRight_ok q) ⟨.free (encP_free _), trivial⟩, by simp, ?_⟩
  cases h2 : prefOk q with
  | false =>
    (conv => whnf)
    refine ⟨by kernel_rfl, ?_⟩
    (conv => whnf)
    exact (Ends.pure [] (by first | exact .bool_of (by simp [coversP, h1, h2]) | exact .ptr rfl (by omega) | exact .osl_of rfl (by omega) rfl | exact .fr rfl | exact LeL.fr rfl | exact .yld rfl (by omega) | exact .eptr rfl (by omega) | exact .osl0 | exact .snil_sl | exact .to_any | exact LeV.nineA | exact LeV.noA | (refine .tupL ?_; repeat' (first | exact True.intro | exact .bool_of (by simp [coversP, h1, h2]) | exact .ptr rfl (by omega) | exact .osl_of rfl (by omega) rfl | exact .fr rfl | exact LeL.fr rfl | exact .yld rfl (by omega) | exact .eptr rfl (by omega) | exact .osl0 | exact .snil_sl | exact .to_any | exact LeV.nineA | exact LeV.noA | refine .aggL ?_ | refine ⟨?_, ?_⟩)) | (refine .aggL ?_; repeat' (first | exact True.intro | exact .bool_of (by simp [coversP, h1, h2]) | exact .ptr rfl (by omega) | exact .osl_of rfl (by omega) rfl | exact .fr rfl | exact LeL.fr rfl | exact .yld rfl (by omega) | exact .eptr rfl (by omega) | exact .osl0 | exact .snil_sl | exact .to_any | exact LeV.nineA | exact LeV.noA | refine ⟨?_, ?_⟩))) (by simp))
  | true =>
  (conv => whnf)
  cases h3 : decide ((p.len.toNat : Int) ≤ (q.len.toNat : Int)) with
  | false =>
    (conv => whnf)
    refine ⟨by kernel_rfl, ?_⟩
    (conv => whnf)
    exact (Ends.pure [] (by first | exact .bool_of (by simp only [coversP, h1, h2, h3]; rfl) | exact .ptr rfl (by omega) | exact .osl_of rfl (by omega) rfl | exact .fr rfl | exact LeL.fr rfl | exact .yld rfl (by omega) | exact .eptr rfl (by omega) | exact .osl0 | exact .snil_sl | exact .to_any | exact LeV.nineA | exact LeV.noA | (refine .tupL ?_; repeat' (first | exact True.intro | exact .bool_of (by simp only [coversP, h1, h2, h3]; rfl) | exact .ptr rfl (by omega) | exact .osl_of rfl (by omega) rfl | exact .fr rfl | exact LeL.fr rfl | exact .yld rfl (by omega) | exact .eptr rfl (by omega) | exact .osl0 | exact .snil_sl | exact .to_any | exact LeV.nineA | exact LeV.noA | refine .aggL ?_ | refine ⟨?_, ?_⟩)) | (refine .aggL ?_; repeat' (first | exact True.intro | exact .bool_of (by simp only [coversP, h1, h2, h3]; rfl) | exact .ptr rfl (by omega) | exact .osl_of rfl (by omega) rfl | exact .fr rfl | exact LeL.fr rfl | exact .yld rfl (by omega) | exact .eptr rfl (by omega) | exact .osl0 | exact .snil_sl | exact .to_any | exact LeV.nineA | exact LeV.noA | refine ⟨?_, ?_⟩))) (by simp))
  | true =>
  (conv => whnf)
  refine ⟨_, [], fun h nx _ => pureV_pure (mask_ok p.len) ⟨.free .int, trivial⟩, by simp, ?_⟩
  (conv => whnf)
  refine ⟨by kernel_rfl, ?_⟩
  (conv => whnf)
  exact (Ends.pure [] (by first | exact .bool_of (by rw [coversP, h1, h2, h3, show 32 - p.len.toNat = hostN p from rfl, bits_and_mask _ (host_le p), cover_eq h1]; rfl) | exact .ptr rfl (by omega) | exact .osl_of rfl (by omega) rfl | exact .fr rfl | exact LeL.fr rfl | exact .yld rfl (by omega) | exact .eptr rfl (by omega) | exact .osl0 | exact .snil_sl | exact .to_any | exact LeV.nineA | exact LeV.noA | (refine .tupL ?_; repeat' (first | exact True.intro | exact .bool_of (by rw [coversP, h1, h2, h3, show 32 - p.len.toNat = hostN p from rfl, bits_and_mask _ (host_le p), cover_eq h1]; rfl) | exact .ptr rfl (by omega) | exact .osl_of rfl (by omega) rfl | exact .fr rfl | exact LeL.fr rfl | exact .yld rfl (by omega) | exact .eptr rfl (by omega) | exact .osl0 | exact .snil_sl | exact .to_any | exact LeV.nineA | exact LeV.noA | refine .aggL ?_ | refine ⟨?_, ?_⟩)) | (refine .aggL ?_; repeat' (first | exact True.intro | exact .bool_of (by rw [coversP, h1, h2, h3, show 32 - p.len.toNat = hostN p from rfl, bits_and_mask _ (host_le p), cover_eq h1]; rfl) | exact .ptr rfl (by omega) | exact .osl_of rfl (by omega) rfl | exact .fr rfl | exact LeL.fr rfl | exact .yld rfl (by omega) | exact .eptr rfl (by omega) | exact .osl0 | exact .snil_sl | exact .to_any | exact LeV.nineA | exact LeV.noA | refine ⟨?_, ?_⟩))) (by simp))
def bitN (x : UInt32) (k : Nat) : Nat := x.toNat / 2 ^ k % 2
theorem tmod2 (d : Nat) : Int.tmod (d : Int) 2 = ((d % 2 : Nat) : Int) := by
  rw [Int.tmod_eq_emod_of_nonneg (by omega)]
  omega
theorem half_pow (x : UInt32) (k : Nat) : IntKind.u32.wrap (Int.tdiv ((x.toNat / 2 ^ k : Nat) : Int) 2) = ((x.toNat / 2 ^ (k + 1) : Nat) : Int) := by
  have hx := x.toNat_lt
  have h1 : x.toNat / 2 ^ k ≤ x.toNat := Nat.div_le_self _ _
  rw [Nat.pow_succ, ← Nat.div_div_eq_div_mul]
  generalize x.toNat / 2 ^ k = d at *
  rw [Int.tdiv_eq_ediv_of_nonneg (by omega), wrap32]
  omega
set_option maxRecDepth 100000 in
theorem bit_ok (x : UInt32) (i : Nat) (hi : i < 32) : PCon prog 39 [cW x, cI i] (.int .u32 (bitN x (31 - i) : Nat)) := by
  refine callV_of (fn := Go.Proofs.Tryz.f39) (body := _) tab_ok mixed rfl rfl (by decide) (by simp [Go.Proofs.Tryz.f39]) ?_
  (conv => whnf)
  refine vcg_loop tab_ok mixed (fun k : {k : Nat // k ≤ 31 - i} => ⟨[(0, .int .u32 (x.toNat / 2 ^ k.1 : Nat)), (1, cI i), (5, cI k.1)], [], 0⟩) (fun k => 31 - i - k.1) ⟨0, by omega⟩ (Wk.i (by repeat' (first | exact True.intro | exact id | exact rfl | decide | exact Nat.le_of_ble_eq_true rfl | exact .int_of (by simp) | exact .ptr rfl (by omega) | exact .osl_of rfl (by omega) rfl | exact .fr rfl | exact LeL.fr rfl | exact .yld rfl (by omega) | exact .eptr rfl (by omega) | exact .osl0 | exact .snil_sl | exact .to_any | exact LeV.nineA | exact LeV.noA | exact LeB.fr rfl id id | exact LeB.fr (by simp; done) id id | refine Or.inl ⟨by simp, _, rfl, ?_⟩ | exact Or.inr ⟨by simp, _, _, _, _, rfl⟩ | refine ⟨rfl, rfl, rfl, rfl, rfl, rfl, ?_⟩ | refine ⟨?_, ?_⟩)) (by omega)) (fun k => ?_)
  obtain ⟨k, hk⟩ := k
  have w1 : IntKind.i64.wrap (31 - (i : Int)) = ((31 - i : Nat) : Int) := by rw [wrap64] <;> omega
  (conv => whnf)
  split
  · rename_i hc
    have hc : k < 31 - i := by simp only [w1] at hc; simpa using hc
    have hx := x.toNat_lt
    (conv => whnf)
    refine ⟨by decide, ?_⟩
    (conv => whnf)
    refine ⟨⟨k + 1, by omega⟩, (Wk.i (by repeat' (first | exact True.intro | exact id | exact rfl | decide | exact Nat.le_of_ble_eq_true rfl | exact .int_of (half_pow x k) | exact .int_of (by simp only; rw [wrap64] <;> omega) | exact .ptr rfl (by omega) | exact .osl_of rfl (by omega) rfl | exact .fr rfl | exact LeL.fr rfl | exact .yld rfl (by omega) | exact .eptr rfl (by omega) | exact .osl0 | exact .snil_sl | exact .to_any | exact LeV.nineA | exact LeV.noA | exact LeB.fr rfl id id | exact LeB.fr (by simp; done) id id | refine Or.inl ⟨by simp, _, rfl, ?_⟩ | exact Or.inr ⟨by simp, _, _, _, _, rfl⟩ | refine ⟨rfl, rfl, rfl, rfl, rfl, rfl, ?_⟩ | refine ⟨?_, ?_⟩)) (by omega)), by simp only; omega⟩
  · rename_i hc
    have hc : k = 31 - i := by simp only [w1] at hc; simp at hc; omega
    subst hc
    (conv => whnf)
    refine ⟨by decide, ?_⟩
    (conv => whnf)
    exact (Ends.pure [] (by first | exact .int_of (by rw [bitN]; exact tmod2 _) | exact .ptr rfl (by omega) | exact .osl_of rfl (by omega) rfl | exact .fr rfl | exact LeL.fr rfl | exact .yld rfl (by omega) | exact .eptr rfl (by omega) | exact .osl0 | exact .snil_sl | exact .to_any | exact LeV.nineA | exact LeV.noA | (refine .tupL ?_; repeat' (first | exact True.intro | exact .int_of (by rw [bitN]; exact tmod2 _) | exact .ptr rfl (by omega) | exact .osl_of rfl (by omega) rfl | exact .fr rfl | exact LeL.fr rfl | exact .yld rfl (by omega) | exact .eptr rfl (by omega) | exact .osl0 | exact .snil_sl | exact .to_any | exact LeV.nineA | exact LeV.noA | refine .aggL ?_ | refine ⟨?_, ?_⟩)) | (refine .aggL ?_; repeat' (first | exact True.intro | exact .int_of (by rw [bitN]; exact tmod2 _) | exact .ptr rfl (by omega) | exact .osl_of rfl (by omega) rfl | exact .fr rfl | exact LeL.fr rfl | exact .yld rfl (by omega) | exact .eptr rfl (by omega) | exact .osl0 | exact .snil_sl | exact .to_any | exact LeV.nineA | exact LeV.noA | refine ⟨?_, ?_⟩))) (by simp))
theorem mod_bit (x : UInt32) {i : Nat} (hi : i < 32) : x.toNat % 2 ^ (32 - i) = x.toNat % 2 ^ (31 - i) + 2 ^ (31 - i) * bitN x (31 - i) := by
  rw [show 32 - i = (31 - i) + 1 by omega, Nat.mod_pow_succ]
  rfl
def x32 (p : Prefix) (i : Nat) : Prop := p.addr.toNat % 2 ^ (32 - p.len.toNat) = p.addr.toNat % 2 ^ (32 - i)
set_option maxRecDepth 100000 in
theorem rRight_ok (p : Prefix) : PCon prog 13 [encP p] (.bool (prefOk p)) := by
  refine callV_of (fn := Go.Proofs.Tryz.f13) (body := _) tab_ok mixed rfl rfl (by decide) (by simp [Go.Proofs.Tryz.f13]) ?_
  (conv => whnf)
  split
  · rename_i h
    (conv => whnf)
    exact (Ends.pure [] (by first | exact .bool_of (by simp at h; simp [prefOk]; omega) | exact .ptr rfl (by omega) | exact .osl_of rfl (by omega) rfl | exact .fr rfl | exact LeL.fr rfl | exact .yld rfl (by omega) | exact .eptr rfl (by omega) | exact .osl0 | exact .snil_sl | exact .to_any | exact LeV.nineA | exact LeV.noA | (refine .tupL ?_; repeat' (first | exact True.intro | exact .bool_of (by simp at h; simp [prefOk]; omega) | exact .ptr rfl (by omega) | exact .osl_of rfl (by omega) rfl | exact .fr rfl | exact LeL.fr rfl | exact .yld rfl (by omega) | exact .eptr rfl (by omega) | exact .osl0 | exact .snil_sl | exact .to_any | exact LeV.nineA | exact LeV.noA | refine .aggL ?_ | refine ⟨?_, ?_⟩)) | (refine .aggL ?_; repeat' (first | exact True.intro | exact .bool_of (by simp at h; simp [prefOk]; omega) | exact .ptr rfl (by omega) | exact .osl_of rfl (by omega) rfl | exact .fr rfl | exact LeL.fr rfl | exact .yld rfl (by omega) | exact .eptr rfl (by omega) | exact .osl0 | exact .snil_sl | exact .to_any | exact LeV.nineA | exact LeV.noA | refine ⟨?_, ?_⟩))) (by simp))
  · rename_i h
    have h32 : p.len.toNat ≤ 32 := by simp at h; omega
    have hn : hostN p = 32 - p.len.toNat := rfl
    have w0 : IntKind.i64.wrap (p.len.toNat : Int) = (p.len.toNat : Int) := wrap64 (by omega) (by omega)
    (conv => whnf)
    refine vcg_loop tab_ok mixed (fun i : {i : Nat // i ≤ 32 ∧ x32 p i} => ⟨[(1, .ptr 0 0), (3, cI i.1)], [(0, some (.var true 24 (cellsP p)))], 1⟩) (fun i => 32 - i.1) ⟨p.len.toNat, h32, rfl⟩ (Wk.i (by repeat' (first | exact True.intro | exact id | exact rfl | decide | exact Nat.le_of_ble_eq_true rfl | exact .int_of w0 | exact .ptr rfl (by omega) | exact .osl_of rfl (by omega) rfl | exact .fr rfl | exact LeL.fr rfl | exact .yld rfl (by omega) | exact .eptr rfl (by omega) | exact .osl0 | exact .snil_sl | exact .to_any | exact LeV.nineA | exact LeV.noA | exact LeB.fr rfl id id | exact LeB.fr (by simp; done) id id | refine Or.inl ⟨by simp, _, rfl, ?_⟩ | exact Or.inr ⟨by simp, _, _, _, _, rfl⟩ | refine ⟨rfl, rfl, rfl, rfl, rfl, rfl, ?_⟩ | refine ⟨?_, ?_⟩)) (by omega)) (fun i => ?_)
    obtain ⟨i, hi, hx⟩ := i
    (conv => whnf)
    split
    · rename_i hc
      have hc : i < 32 := by simp at hc; omega
      (conv => whnf)
      refine callV_pure (bit_ok p.addr i hc) ⟨.free .int, .int_of rfl, trivial⟩ ?_
      (conv => whnf)
      have hb := mod_bit p.addr hc
      have hlt : bitN p.addr (31 - i) < 2 := Nat.mod_lt _ (by decide)
      split
      · rename_i h1
        have h1 : bitN p.addr (31 - i) = 1 := by simp at h1; omega
        have hp := Nat.two_pow_pos (31 - i)
        (conv => whnf)
        refine (Ends.pure [] (by first | exact .bool_of (by symm; simp only [prefOk, Bool.and_eq_false_iff]; right; rw [decide_eq_false_iff_not, hn]; intro h0; unfold x32 at hx; rw [hx, hb, h1] at h0; omega) | exact .ptr rfl (by omega) | exact .osl_of rfl (by omega) rfl | exact .fr rfl | exact LeL.fr rfl | exact .yld rfl (by omega) | exact .eptr rfl (by omega) | exact .osl0 | exact .snil_sl | exact .to_any | exact LeV.nineA | exact LeV.noA | (refine .tupL ?_; repeat' (first | exact True.intro | exact .bool_of (by symm; simp only [prefOk, Bool.and_eq_false_iff]; right; rw [decide_eq_false_iff_not, hn]; intro h0; unfold x32 at hx; rw [hx, hb, h1] at h0; omega) | exact .ptr rfl (by omega) | exact .osl_of rfl (by omega) rfl | exact .fr rfl | exact LeL.fr rfl | exact .yld rfl (by omega) | exact .eptr rfl (by omega) | exact .osl0 | exact .snil_sl | exact .to_any | exact LeV.nineA | exact LeV.noA | refine .aggL ?_ | refine ⟨?_, ?_⟩)) | (refine .aggL ?_; repeat' (first | exact True.intro | exact .bool_of (by symm; simp only [prefOk, Bool.and_eq_false_iff]; right; rw [decide_eq_false_iff_not, hn]; intro h0; unfold x32 at hx; rw [hx, hb, h1] at h0; omega) | exact .ptr rfl (by omega) | exact .osl_of rfl (by omega) rfl | exact .fr rfl | exact LeL.fr rfl | exact .yld rfl (by omega) | exact .eptr rfl (by omega) | exact .osl0 | exact .snil_sl | exact .to_any | exact LeV.nineA | exact LeV.noA | refine ⟨?_, ?_⟩))) (by simp))
      · rename_i h1
        have h1 : bitN p.addr (31 - i) = 0 := by simp at h1; omega
        (conv => whnf)
        refine ⟨⟨i + 1, by omega, ?_⟩, (Wk.i (by repeat' (first | exact True.intro | exact id | exact rfl | decide | exact Nat.le_of_ble_eq_true rfl | exact .int_of (by simp only; rw [wrap64] <;> omega) | exact .ptr rfl (by omega) | exact .osl_of rfl (by omega) rfl | exact .fr rfl | exact LeL.fr rfl | exact .yld rfl (by omega) | exact .eptr rfl (by omega) | exact .osl0 | exact .snil_sl | exact .to_any | exact LeV.nineA | exact LeV.noA | exact LeB.fr rfl id id | exact LeB.fr (by simp; done) id id | refine Or.inl ⟨by simp, _, rfl, ?_⟩ | exact Or.inr ⟨by simp, _, _, _, _, rfl⟩ | refine ⟨rfl, rfl, rfl, rfl, rfl, rfl, ?_⟩ | refine ⟨?_, ?_⟩)) (by omega)), by simp only; omega⟩
        unfold x32 at hx ⊢
        rw [hx, hb, h1, show 32 - (i + 1) = 31 - i by omega]
        omega
    · rename_i hc
      have hc : i = 32 := by simp at hc; omega
      subst hc
      (conv => whnf)
      refine (Ends.pure [] (by first | exact .bool_of (by symm; simp only [prefOk, Bool.and_eq_true, decide_eq_true_eq]; refine ⟨by omega, ?_⟩; rw [hn]; unfold x32 at hx; rw [hx]; exact Nat.mod_one _) | exact .ptr rfl (by omega) | exact .osl_of rfl (by omega) rfl | exact .fr rfl | exact LeL.fr rfl | exact .yld rfl (by omega) | exact .eptr rfl (by omega) | exact .osl0 | exact .snil_sl | exact .to_any | exact LeV.nineA | exact LeV.noA | (refine .tupL ?_; repeat' (first | exact True.intro | exact .bool_of (by symm; simp only [prefOk, Bool.and_eq_true, decide_eq_true_eq]; refine ⟨by omega, ?_⟩; rw [hn]; unfold x32 at hx; rw [hx]; exact Nat.mod_one _) | exact .ptr rfl (by omega) | exact .osl_of rfl (by omega) rfl | exact .fr rfl | exact LeL.fr rfl | exact .yld rfl (by omega) | exact .eptr rfl (by omega) | exact .osl0 | exact .snil_sl | exact .to_any | exact LeV.nineA | exact LeV.noA | refine .aggL ?_ | refine ⟨?_, ?_⟩)) | (refine .aggL ?_; repeat' (first | exact True.intro | exact .bool_of (by symm; simp only [prefOk, Bool.and_eq_true, decide_eq_true_eq]; refine ⟨by omega, ?_⟩; rw [hn]; unfold x32 at hx; rw [hx]; exact Nat.mod_one _) | exact .ptr rfl (by omega) | exact .osl_of rfl (by omega) rfl | exact .fr rfl | exact LeL.fr rfl | exact .yld rfl (by omega) | exact .eptr rfl (by omega) | exact .osl0 | exact .snil_sl | exact .to_any | exact LeV.nineA | exact LeV.noA | refine ⟨?_, ?_⟩))) (by simp))
end Go.Proofs.YtehhligadnlijaaGreatDoor
set_option linter.unusedVariables false
set_option linter.unusedSimpArgs false
namespace Go.Proofs.YtehhligadnlijaaGreatDoor
open Go.RowKit
open Go.Proofs.Tryz (prog)
attribute [local irreducible] CallV RoundV
def cmpI (a b : Int) : Int := if a < b then -1 else if b < a then 1 else 0
def orI (l : List Int) : Int := (l.find? (· != 0)).getD 0
def cmpP (p q : Prefix) : Int := orI [cmpI p.addr.toNat q.addr.toNat, cmpI p.len.toNat q.len.toNat]
end Go.Proofs.YtehhligadnlijaaGreatDoor
