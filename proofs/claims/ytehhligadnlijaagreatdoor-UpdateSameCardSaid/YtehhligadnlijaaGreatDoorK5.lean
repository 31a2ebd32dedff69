/- Joined: E5, E6, F2, G3, G4, L0, R0, P0, R0p, P1, A1, B1, A2, A3, B2, B3. -/
import Derived.Test.YtehhligadnlijaaGreatDoorK4
import Derived.Laws.BitsLemmas
import Derived.Test.YtehhligadnlijaaGreatDoorK3
import Derived.Test.YtehhligadnlijaaGreatDoorRows
import Derived.Lib.Overlaps
import Derived.Shelf.SlSortCmp.NoneTotal
import Derived.Lib.Small
import Derived.Lib.Walk
import Derived.StillTailTactics
set_option linter.unusedVariables false
set_option linter.unusedSimpArgs false
namespace Go.Proofs.YtehhligadnlijaaGreatDoor
open Go.RowKit
open Go.Proofs.Tryz (prog)
attribute [local irreducible] CallV RoundV
theorem and16 : ∀ n : Nat, n < 256 → decide (0 < bits .and .u8 (n : Int) 16) = (n / 16 % 2 == 1) := by decide +kernel
theorem andNot16 : ∀ n : Nat, n < 256 → bits .andNot .u8 (n : Int) 16 = (n : Int) - (if (n / 16 % 2 == 1) = true then 16 else 0) := by decide +kernel
theorem or_len (x y : UInt8) : bits .or .i64 (IntKind.i64.wrap (IntKind.i64.wrap (x.toNat : Int) * 2 ^ (min (Int.toNat 8) IntKind.i64.bits))) (IntKind.i64.wrap (y.toNat : Int)) = (256 * x.toNat + y.toNat : Nat) := by
  have hx := x.toNat_lt
  have hy := y.toNat_lt
  have e : (2 : Int) ^ (min (Int.toNat 8) IntKind.i64.bits) = 256 := by decide
  rw [e, wrap64 (n := (x.toNat : Int)) (by omega) (by omega), wrap64 (n := (y.toNat : Int)) (by omega) (by omega), wrap64 (by omega) (by omega)]
  rw [bits_join .i64 63 (by decide) (fun n h0 h1 => by rw [wrap64] <;> omega) 8 _ _ (by omega) (by omega) (by omega) (by omega) (by omega) (by omega)]
  omega
def oneE (b : List UInt8) (last : Nat) : Int := if headE b last ≠ 0 then headE b last else lowE (byteN b 1) (valB b)
def readerV (fr : Bool) (b : List UInt8) (last seen : Nat) (q : Bool) (a : Attrs) : List V := encB fr b :: .int .u8 last :: cI seen :: cellsR q a
def OneR (fr : Bool) (b : List UInt8) (last seen : Nat) (q : Bool) (a : Attrs) : V → Heap → Nat → Prop := fun v' h' nx' =>
  ∃ cells', v' = .int .i64 (oneE b last) ∧ (∀ x ∈ cells', Free x) ∧ (oneE b last = 0 → cells' = readerV fr (restB b) (byteN b 1) (if byteN b 1 ≤ 3 then seen + 1 else seen) (q || byteN b 1 == 2) (lowA (byteN b 1) a (valB b))) ∧ h' = [(0, some (.var true 147 cells'))] ∧ nx' = 1
theorem Ends.oneE {s : St} {e : Int} {fr : Bool} {b : List UInt8} {last seen : Nat} {q : Bool} {a : Attrs} {cells : List V} (hb : hget s.h 0 = some (.var true 147 cells)) (hf : ∀ x ∈ cells, Free x) (he : e = Go.Proofs.YtehhligadnlijaaGreatDoor.oneE b last) (hne : Go.Proofs.YtehhligadnlijaaGreatDoor.oneE b last ≠ 0) :
    ∃ v1 h' nx', Ends 1 s (.int .i64 e) v1 h' nx' ∧ OneR fr b last seen q a v1 h' nx' :=
  ⟨.int .i64 (Go.Proofs.YtehhligadnlijaaGreatDoor.oneE b last), [(0, some (.var true 147 cells))], 1, Ends.of id [] (.int_of he) (LeH.of ⟨⟨by omega, .inl ⟨by simp, _, hb, id, rfl, LeL.free hf⟩⟩, trivial⟩ (fun _ _ _ _ h => h) (fun _ _ => rfl) (by omega) (by simp)), cells, rfl, hf, fun h => absurd h hne, rfl, rfl⟩
theorem Ends.oneK {s : St} {e : Int} {fr : Bool} {b : List UInt8} {last seen : Nat} {q : Bool} {a : Attrs} {cells cells' : List V} (hb : hget s.h 0 = some (.var true 147 cells)) (hf : ∀ x ∈ cells', Free x) (hle : LeL s.h s.nx id 1 [] cells cells') (he : e = Go.Proofs.YtehhligadnlijaaGreatDoor.oneE b last)
    (h : Go.Proofs.YtehhligadnlijaaGreatDoor.oneE b last = 0 → cells' = readerV fr (restB b) (byteN b 1) (if byteN b 1 ≤ 3 then seen + 1 else seen) (q || byteN b 1 == 2) (lowA (byteN b 1) a (valB b))) :
    ∃ v1 h' nx', Ends 1 s (.int .i64 e) v1 h' nx' ∧ OneR fr b last seen q a v1 h' nx' :=
  ⟨.int .i64 (Go.Proofs.YtehhligadnlijaaGreatDoor.oneE b last), [(0, some (.var true 147 cells'))], 1, Ends.of id [] (.int_of he) (LeH.of ⟨⟨by omega, .inl ⟨by simp, _, hb, id, rfl, hle⟩⟩, trivial⟩ (fun _ _ _ _ h => h) (fun _ _ => rfl) (by omega) (by simp)), cells', rfl, hf, h, rfl, rfl⟩
theorem readerV_free (fr : Bool) (b : List UInt8) (last seen : Nat) (q : Bool) (a : Attrs) : ∀ x ∈ readerV fr b last seen q a, Free x := by
  intro x hx
  simp only [readerV, List.mem_cons] at hx
  rcases hx with rfl | rfl | rfl | hx
  · exact encB_free _ _
  · exact .int
  · exact .int
  · exact cellsR_free _ _ x hx
theorem headE_short {b : List UInt8} {last : Nat} (h : b.length < 3) : oneE b last = 290 := by simp [oneE, headE, h]
def codesL : List Nat := [1, 2, 3, 4, 5, 8]
def oneH (fr : Bool) (b : List UInt8) (last seen : Nat) (q : Bool) (a : Attrs) (x0 x1 : UInt8) (e : Int) : Heap :=
  [(0, some (.var true 147 (readerV fr b last seen q a))), (1, some (.var true 143 [.ptr 0 0])), (2, some (.var true 5 [cB x0])), (3, some (.var true 5 [cB x1])), (4, some (.var true 3 [cI (numB b)])), (5, some (.var true 3 [cI (atB b)])), (6, some (.var true 4 [.bool (lngB b)])), (7, some (.var true 29 [.int .i64 e]))]
theorem head_is {b : List UInt8} {last : Nat} (h3 : 3 ≤ b.length) (h4 : lngB b = true → 4 ≤ b.length) (hl : atB b + numB b ≤ b.length) (hf : 0 ≤ flagsI (byteN b 1)) :
    headE b last = if (byteN b 0 : Int) - (if lngB b then 16 else 0) ≠ flagsI (byteN b 1) ∨ lngB b ≠ decide (255 < numB b) then 292 else if byteN b 1 ≤ last then 293 else 0 := by
  unfold headE
  rw [if_neg (by omega), if_neg (by rintro ⟨h1, h2⟩; have := h4 h1; omega), if_neg (by omega), if_neg (by omega)]
theorem callV_read {f : FuncId} {args args0 : List V} {c : Nat} {v : List UInt8} {q : Bool} {a : Attrs} {B L S : V} {h : Heap} {nx b : Nat} {K : V → Heap → Nat → Prop} (hc : CallV prog f args0 [(0, some (.var true 147 (B :: L :: S :: cellsR q a)))] 1 (RR c v q a B L S))
    (hb : hget h b = some (.var true 147 (B :: L :: S :: cellsR q a))) (hB : Free B) (hL : Free L) (hS : Free S) (ha : LeL h nx (fun _ => b) 1 [] args args0)
    (hK : ∀ c8 : List V, c8.length = 8 → (∀ x ∈ c8, Free x) → (lowE c v = 0 → c8 = cellsR (q || c == 2) (lowA c a v)) → K (.int .i64 (lowE c v)) ((b, some (.var true 147 (B :: L :: S :: c8))) :: h) nx) : CallV prog f args h nx K := by
  refine callV_ptr (R := fun v' cells' => ∃ c8, cells' = B :: L :: S :: c8 ∧ v' = .int .i64 (lowE c v) ∧ c8.length = 8 ∧ (∀ x ∈ c8, Free x) ∧ (lowE c v = 0 → c8 = cellsR (q || c == 2) (lowA c a v))) (hc.mono ?_) hb ?_ ha ?_
  · rintro v' h' nx' ⟨c8, rfl, h8, hf, hok, rfl, rfl⟩
    exact ⟨_, ⟨c8, rfl, rfl, h8, hf, hok⟩, rfl, rfl⟩
  · intro x hx
    simp only [List.mem_cons] at hx
    rcases hx with rfl | rfl | rfl | hx
    · exact hB
    · exact hL
    · exact hS
    · exact cellsR_free _ _ x hx
  · rintro v' cells' ⟨c8, rfl, rfl, h8, hf, hok⟩
    refine ⟨.int, fun x hx => ?_, hK c8 h8 hf hok⟩
    simp only [List.mem_cons] at hx
    rcases hx with rfl | rfl | rfl | hx
    · exact hB
    · exact hL
    · exact hS
    · exact hf x hx
theorem rest8_free {fr : Bool} {b : List UInt8} {x : UInt8} {seen : Nat} {c8 : List V} (h : ∀ x ∈ c8, Free x) {n : Nat} : ∀ v ∈ (V.sl fr 1 (List.drop n (b.map fun x => [V.int .u8 x.toNat])) :: cB x :: cI seen :: c8), Free v := by
  intro v hv
  simp only [List.mem_cons] at hv
  rcases hv with rfl | rfl | rfl | hv
  · rw [← List.map_drop]; exact encB_free _ _
  · exact .int
  · exact .int
  · exact h v hv
theorem eight {c8 : List V} (h : c8.length = 8) : ∃ a0 a1 a2 a3 a4 a5 a6 a7, c8 = [a0, a1, a2, a3, a4, a5, a6, a7] := by
  rcases c8 with _ | ⟨a0, _ | ⟨a1, _ | ⟨a2, _ | ⟨a3, _ | ⟨a4, _ | ⟨a5, _ | ⟨a6, _ | ⟨a7, _ | ⟨a8, l⟩⟩⟩⟩⟩⟩⟩⟩⟩
  all_goals first | (exact ⟨a0, a1, a2, a3, a4, a5, a6, a7, rfl⟩) | (simp at h)
theorem LeL.of_eq {h : Heap} {nx : Nat} {ρ : Nat → Nat} {nx' : Nat} {Z : List Nat} {cs cs' : List V} (e : cs = cs') (hf : ∀ v ∈ cs', Free v) : LeL h nx ρ nx' Z cs cs' := by subst e; exact LeL.free hf
theorem attrV_free : Free (.sl true 5 attrRows) := .sl attrRows_free
theorem attributesV_cap : Free (.iptr true [.sl true 5 attrRows]) := .iptr (by intro v hv; simp at hv; subst hv; exact attrV_free)
theorem rest_free (fr : Bool) (b : List UInt8) (x : UInt8) (seen : Nat) (q : Bool) (a : Attrs) {n : Nat} : ∀ v ∈ (V.sl fr 1 (List.drop n (b.map fun x => [V.int .u8 x.toNat])) :: cB x :: cI seen :: cellsR q a), Free v := by
  intro v hv
  simp only [List.mem_cons] at hv
  rcases hv with rfl | rfl | rfl | hv
  · rw [← List.map_drop]; exact encB_free _ _
  · exact .int
  · exact .int
  · exact cellsR_free _ _ v hv
theorem iptr_fn_free (n : Nat) : Free (.iptr true [fnV n]) := .iptr (by intro v hv; simp at hv; subst hv; exact fnV_free _)
theorem flags_none {n : Nat} (h : ∀ j, j < 6 → codesL.getD j 0 ≠ n) : flagsI n = -1 := by
  have h0 := h 0 (by omega)
  have h1 := h 1 (by omega)
  have h2 := h 2 (by omega)
  have h3 := h 3 (by omega)
  have h4 := h 4 (by omega)
  have h5 := h 5 (by omega)
  simp [codesL] at h0 h1 h2 h3 h4 h5
  unfold flagsI
  rw [if_neg (by omega), if_neg (by omega), if_neg (by omega), if_neg (by omega), if_neg (by omega), if_neg (by omega)]
set_option maxRecDepth 100000 in
set_option maxHeartbeats 8000000 in
theorem one_ok (fr : Bool) (b : List UInt8) (hb : b.length ≤ 1000000) (last seen : Nat) (hlast : last < 256) (hseen : seen ≤ 1000000) (q : Bool) (hq : last < 2 → q = false) (a : Attrs) :
    CallV prog 109 [.ptr 0 0] [(0, some (.var true 147 (readerV fr b last seen q a)))] 1 (OneR fr b last seen q a) := by
  refine callV_of (fn := Go.Proofs.Tryz.f109) (body := _) tab_ok mixed rfl rfl (by decide) (by simp [Go.Proofs.Tryz.f109]) ?_
  (conv => whnf)
  intro _
  (conv => whnf)
  split
  · rename_i h
    have h : b.length < 3 := by simp at h; omega
    have e := headE_short (last := last) h
    (conv => whnf)
    exact Ends.oneE rfl (readerV_free _ _ _ _ _ _) e.symm (by rw [e]; decide)
  rename_i h
  have h : 3 ≤ b.length := by simp at h; omega
  obtain ⟨x0, x1, x2, r, hX⟩ : ∃ x0 x1 x2 r, b = x0 :: x1 :: x2 :: r := by
    rcases b with _ | ⟨x0, _ | ⟨x1, _ | ⟨x2, r⟩⟩⟩
    · simp at h
    · simp at h
    · simp at h
    · exact ⟨x0, x1, x2, r, rfl⟩
  have h0 := x0.toNat_lt
  have h1 := x1.toNat_lt
  have h2 := x2.toNat_lt
  have n0 : byteN b 0 = x0.toNat := by rw [hX]; rfl
  have n1 : byteN b 1 = x1.toNat := by rw [hX]; rfl
  have n2 : byteN b 2 = x2.toNat := by rw [hX]; rfl
  have w2 : IntKind.i64.wrap (x2.toNat : Int) = x2.toNat := wrap64 (by omega) (by omega)
  have eL : decide (0 < bits .and .u8 (x0.toNat : Int) 16) = lngB b := by rw [and16 x0.toNat h0, lngB, n0]
  (conv => whnf)
  refine ⟨rfl, [cB x0], ⟨by simp, by rw [hX]; rfl⟩, ?_⟩
  (conv => whnf)
  refine ⟨rfl, [cB x1], ⟨by simp, by rw [hX]; rfl⟩, ?_⟩
  (conv => whnf)
  refine ⟨rfl, [cB x2], ⟨by simp, by rw [hX]; rfl⟩, ?_⟩
  (conv => whnf)
  refine ⟨by kernel_rfl, ?_⟩
  (conv => whnf)
  rw [eL]
  cases hL : lngB b with
  | false =>
    have eN : numB b = x2.toNat := by simp [numB, hL, n2]
    have eA : atB b = 3 := by simp [atB, hL]
    have w3 : IntKind.i64.wrap (3 + IntKind.i64.wrap (x2.toNat : Int)) = (atB b + numB b : Nat) := by rw [w2, eN, eA, wrap64] <;> omega
    (conv => whnf)
    refine ⟨by kernel_rfl, ?_⟩
    (conv => whnf)
    split
    · rename_i h3
      have h3 : b.length < atB b + numB b := by rw [w3, List.length_map] at h3; simp at h3; omega
      have e : oneE b last = 290 := by simp [oneE, headE, hL, h3]
      (conv => whnf)
      exact Ends.oneE rfl (readerV_free _ _ _ _ _ _) e.symm (by rw [e]; decide)
    rename_i h3
    have h3 : atB b + numB b ≤ b.length := by rw [w3, List.length_map] at h3; simp at h3; omega
    have h4 : lngB b = true → 4 ≤ b.length := fun h => by rw [hL] at h; cases h
    have hAN : IntKind.i64.wrap ((atB b : Int) + (numB b : Int)) = (atB b + numB b : Nat) := by rw [wrap64] <;> omega
    have hd : decide ((255 : Int) < (numB b : Int)) = decide (255 < numB b) := decide_eq_decide.2 (by omega)
    have hse : IntKind.i64.wrap ((seen : Int) + 1) = (seen + 1 : Nat) := by rw [wrap64] <;> omega
    (conv => whnf)
    refine callV_pure attributes_ok trivial ?_
    (conv => whnf)
    refine callV_loop [(1, .ptr 1 0), (3, .ptr 2 0), (4, .ptr 3 0), (5, .ptr 4 0), (6, .ptr 5 0), (7, .ptr 6 0), (8, .ptr 7 0)] ⟨rfl, rfl, rfl, rfl, rfl, rfl, rfl, trivial⟩ fun asg' body' hasg hbody => ?_
    refine callV_of (fn := Go.Proofs.Tryz.f203) (body := _) tab_ok mixed rfl rfl (by decide) (by simp [Go.Proofs.Tryz.f203]) ?_
    (conv => whnf)
    intro _
    (conv => whnf)
    refine vcg_loop tab_ok mixed (fun k : {k : Nat // k ≤ 6 ∧ ∀ j, j < k → codesL.getD j 0 ≠ x1.toNat} => ⟨[(0, .yld 8), (1, .iptr true [.sl true 5 attrRows]), (5, .sl true 5 attrRows), (6, .int .i64 6), (7, cI k.1)], (8, some (.loop 141 [(1, .ptr 1 0), (3, .ptr 2 0), (4, .ptr 3 0), (5, .ptr 4 0), (6, .ptr 5 0), (7, .ptr 6 0), (8, .ptr 7 0)] [72] asg' body' .ready none)) :: oneH fr b last seen q a x0 x1 291, 9⟩) (fun k => 6 - k.1) ⟨0, by omega, by omega⟩ ?_ (fun k => ?_)
    · refine Wk.of id [] ⟨.yld rfl (by omega), .free attributesV_cap, .free attrV_free, .int_of rfl, .int_of rfl, trivial⟩ (LeH.of ⟨⟨by omega, .inl ⟨by simp, _, rfl, rfl, rfl, rfl, rfl, rfl, rfl, .ptr rfl (by omega), .ptr rfl (by omega), .ptr rfl (by omega), .ptr rfl (by omega), .ptr rfl (by omega), .ptr rfl (by omega), .ptr rfl (by omega), trivial⟩⟩,
        ⟨by omega, .inl ⟨by simp, _, rfl, LeB.free (blk := .var true 147 (readerV fr b last seen q a)) (readerV_free _ _ _ _ _ _)⟩⟩, ⟨by omega, .inl ⟨by simp, _, rfl, id, rfl, .ptr rfl (by omega), trivial⟩⟩, ⟨by omega, .inl ⟨by simp, _, rfl, id, rfl, .int_of rfl, trivial⟩⟩, ⟨by omega, .inl ⟨by simp, _, rfl, id, rfl, .int_of rfl, trivial⟩⟩,
        ⟨by omega, .inl ⟨by simp, _, rfl, id, rfl, .int_of (by rw [w2, eN]), trivial⟩⟩, ⟨by omega, .inl ⟨by simp, _, rfl, id, rfl, .int_of (by rw [eA]; rfl), trivial⟩⟩, ⟨by omega, .inl ⟨by simp, _, rfl, id, rfl, .bool_of hL.symm, trivial⟩⟩, ⟨by omega, .inl ⟨by simp, _, rfl, id, rfl, .int_of rfl, trivial⟩⟩, trivial⟩ (fun _ _ _ _ h => h) (fun _ _ => rfl) (by omega) (by simp))
    obtain ⟨k, hk, hne⟩ := k
    rcases k with _ | _ | _ | _ | _ | _ | _ | k
    case succ.succ.succ.succ.succ.succ.succ => omega
    case zero =>
      (conv => whnf)
      refine ⟨rfl, _, ⟨by simp, rfl⟩, ?_⟩
      (conv => whnf)
      subst hasg hbody
      refine roundV_of tab_ok mixed rfl (by simp) (show 8 < 10 by omega) ?_
      (conv => whnf)
      refine ⟨rfl, ?_⟩
      (conv => whnf)
      split
      · rename_i hc
        have hc : x1.toNat ≠ 1 := by simp at hc; omega
        (conv => whnf)
        refine ⟨rfl, ?_⟩
        (conv => whnf)
        refine ⟨⟨0 + 1, by omega, ?_⟩, Wk.of id [] ⟨.yld rfl (by omega), .free attributesV_cap, .free attrV_free, .int_of rfl, .int_of rfl, trivial⟩ (LeH.of ⟨⟨by omega, .inl ⟨by simp, _, rfl, rfl, rfl, rfl, rfl, rfl, rfl, .ptr rfl (by omega), .ptr rfl (by omega), .ptr rfl (by omega), .ptr rfl (by omega), .ptr rfl (by omega), .ptr rfl (by omega), .ptr rfl (by omega), trivial⟩⟩,
          ⟨by omega, .inl ⟨by simp, _, rfl, LeB.free (blk := .var true 147 (readerV fr b last seen q a)) (readerV_free _ _ _ _ _ _)⟩⟩, ⟨by omega, .inl ⟨by simp, _, rfl, id, rfl, .ptr rfl (by omega), trivial⟩⟩, ⟨by omega, .inl ⟨by simp, _, rfl, id, rfl, .free .int, trivial⟩⟩, ⟨by omega, .inl ⟨by simp, _, rfl, id, rfl, .free .int, trivial⟩⟩,
          ⟨by omega, .inl ⟨by simp, _, rfl, id, rfl, .free .int, trivial⟩⟩, ⟨by omega, .inl ⟨by simp, _, rfl, id, rfl, .free .int, trivial⟩⟩, ⟨by omega, .inl ⟨by simp, _, rfl, id, rfl, .free .bool, trivial⟩⟩, ⟨by omega, .inl ⟨by simp, _, rfl, id, rfl, .free .int, trivial⟩⟩, trivial⟩ (fun _ _ _ _ h => h) (fun _ _ => rfl) (by omega) (by simp)), by simp only; omega⟩
        intro j hj
        rcases Nat.lt_or_ge j 0 with h | h
        · exact hne j h
        · obtain rfl : j = 0 := by omega
          exact fun e => hc e.symm
      rename_i hc
      have hc : x1.toNat = 1 := by simp at hc; omega
      obtain rfl : x1 = 1 := UInt8.toNat_inj.1 hc
      have n1' : byteN b 1 = 1 := by rw [n1]; rfl
      (conv => whnf)
      have hF : flagsI (byteN b 1) = 64 := by rw [n1']; rfl
      have hH := head_is (last := last) h h4 h3 (by rw [hF]; decide)
      rw [hF] at hH
      cases hf : (bits BinOp.andNot IntKind.u8 (x0.toNat : Int) 16 != 64)
      case true =>
        have e : oneE b last = 292 := by
          have : headE b last = 292 := by
            rw [hH, if_pos]
            left
            rw [andNot16 _ h0] at hf
            rw [n0, show lngB b = (x0.toNat / 16 % 2 == 1) by rw [lngB, n0]]
            simpa using hf
          simp [oneE, this]
        (conv => whnf)
        refine ⟨rfl, ?_⟩
        (conv => whnf)
        refine ⟨_, _, _, Ends.here, ?_⟩
        (conv => whnf)
        refine ⟨rfl, ⟨by rw [hAN]; omega, by rw [hAN]; simp; omega⟩, ?_⟩
        (conv => whnf)
        refine ⟨by kernel_rfl, ?_⟩
        (conv => whnf)
        exact Ends.oneE rfl (rest_free _ _ _ _ _ _) e.symm (by rw [e]; decide)
      have hf : (byteN b 0 : Int) - (if lngB b then 16 else 0) = 64 := by
        rw [andNot16 _ h0] at hf
        rw [n0, show lngB b = (x0.toNat / 16 % 2 == 1) by rw [lngB, n0]]
        simpa using hf
      (conv => whnf)
      split
      · rename_i hg
        have e : oneE b last = 292 := by
          have : headE b last = 292 := by
            rw [hH, if_pos]
            right
            rw [hd] at hg
            simpa using hg
          simp [oneE, this]
        (conv => whnf)
        refine ⟨rfl, ?_⟩
        (conv => whnf)
        refine ⟨_, _, _, Ends.here, ?_⟩
        (conv => whnf)
        refine ⟨rfl, ⟨by rw [hAN]; omega, by rw [hAN]; simp; omega⟩, ?_⟩
        (conv => whnf)
        refine ⟨by kernel_rfl, ?_⟩
        (conv => whnf)
        exact Ends.oneE rfl (rest_free _ _ _ _ _ _) e.symm (by rw [e]; decide)
      rename_i hg
      have hg : lngB b = decide (255 < numB b) := by rw [hd] at hg; simpa using hg
      rw [if_neg (by rintro (h | h) <;> contradiction)] at hH
      (conv => whnf)
      refine ⟨by kernel_rfl, ?_⟩
      (conv => whnf)
      split
      · rename_i hr
        have e : oneE b last = 293 := by
          have : headE b last = 293 := by
            rw [hH, if_pos]
            rw [n1']
            simp at hr
            omega
          simp [oneE, this]
        (conv => whnf)
        refine ⟨rfl, ?_⟩
        (conv => whnf)
        refine ⟨_, _, _, Ends.here, ?_⟩
        (conv => whnf)
        refine ⟨rfl, ⟨by rw [hAN]; omega, by rw [hAN]; simp; omega⟩, ?_⟩
        (conv => whnf)
        refine ⟨by kernel_rfl, ?_⟩
        (conv => whnf)
        exact Ends.oneE rfl (rest_free _ _ _ _ _ _) e.symm (by rw [e]; decide)
      rename_i hr
      have hr : ¬ 1 ≤ last := by simp at hr; omega
      rw [if_neg (by rw [n1']; exact hr)] at hH
      (conv => whnf)
      refine ⟨rfl, ⟨by omega, by rw [hAN]; omega, by rw [hAN]; simp; omega, by rw [hAN]; simp; omega⟩, ?_⟩
      (conv => whnf)
      refine ⟨by kernel_rfl, ?_⟩
      (conv => whnf)
      have hsl : V.sl fr 1 (List.drop (atB b : Int).toNat (List.take (IntKind.i64.wrap ((atB b : Int) + (numB b : Int))).toNat (List.map (fun x => [V.int .u8 x.toNat]) b))) = encB fr (valB b) := by
        rw [hAN, Int.toNat_natCast, Int.toNat_natCast, ← List.map_take, ← List.map_drop, List.drop_take, Nat.add_sub_cancel_left]
        rfl
      have hsr : V.sl fr 1 (List.drop (IntKind.i64.wrap ((atB b : Int) + (numB b : Int))).toNat (List.map (fun x => [V.int .u8 x.toNat]) b)) = encB fr (restB b) := by
        rw [hAN, Int.toNat_natCast, ← List.map_drop]
        rfl
      have hvl : (valB b).length ≤ 1000000 := by simp [valB]; omega
      refine callV_read (b := 0) (read1_ok fr (valB b) q a _ _ _ (encB_free _ _) .int .int) rfl (encB_free _ _) .int .int ⟨.ptr rfl (by omega), .eq_of hsl (encB_free _ _), trivial⟩ fun c8 h8 hf8 hok => ?_
      obtain ⟨a0, a1, a2, a3, a4, a5, a6, a7, rfl⟩ := eight h8
      have ee : oneE b last = lowE 1 (valB b) := by
        rw [oneE, if_neg (by simp [hH]), n1']
      (conv => whnf)
      refine ⟨rfl, ?_⟩
      (conv => whnf)
      refine ⟨_, _, _, Ends.here, ?_⟩
      (conv => whnf)
      cases he : (lowE 1 (valB b) == 0) with
      | false =>
        have he' : lowE 1 (valB b) ≠ 0 := by simpa using he
        (conv => whnf)
        refine ⟨rfl, ⟨by rw [hAN]; omega, by rw [hAN]; simp; omega⟩, ?_⟩
        (conv => whnf)
        refine ⟨by kernel_rfl, ?_⟩
        (conv => whnf)
        exact Ends.oneE rfl (rest8_free hf8) ee.symm (by rw [ee]; exact he')
      | true =>
        have he' : lowE 1 (valB b) = 0 := by simpa using he
        have h8 := hok he'
        (conv => whnf)
        refine ⟨rfl, ⟨by rw [hAN]; omega, by rw [hAN]; simp; omega⟩, ?_⟩
        (conv => whnf)
        refine ⟨by kernel_rfl, ?_⟩
        (conv => whnf)
        refine Ends.oneK (cells' := readerV fr (restB b) 1 (seen + 1) _ (lowA 1 a (valB b))) rfl (readerV_free _ _ _ _ _ _) ⟨.eq_of hsr (encB_free _ _), .int_of rfl, .int_of hse, .of_eq h8 (cellsR_free _ _)⟩ ee.symm (fun _ => by rw [n1']; rfl)
    case succ.zero =>
      (conv => whnf)
      refine ⟨rfl, _, ⟨by simp, rfl⟩, ?_⟩
      (conv => whnf)
      subst hasg hbody
      refine roundV_of tab_ok mixed rfl (by simp) (show 8 < 10 by omega) ?_
      (conv => whnf)
      refine ⟨rfl, ?_⟩
      (conv => whnf)
      split
      · rename_i hc
        have hc : x1.toNat ≠ 2 := by simp at hc; omega
        (conv => whnf)
        refine ⟨rfl, ?_⟩
        (conv => whnf)
        refine ⟨⟨1 + 1, by omega, ?_⟩, Wk.of id [] ⟨.yld rfl (by omega), .free attributesV_cap, .free attrV_free, .int_of rfl, .int_of rfl, trivial⟩ (LeH.of ⟨⟨by omega, .inl ⟨by simp, _, rfl, rfl, rfl, rfl, rfl, rfl, rfl, .ptr rfl (by omega), .ptr rfl (by omega), .ptr rfl (by omega), .ptr rfl (by omega), .ptr rfl (by omega), .ptr rfl (by omega), .ptr rfl (by omega), trivial⟩⟩,
          ⟨by omega, .inl ⟨by simp, _, rfl, LeB.free (blk := .var true 147 (readerV fr b last seen q a)) (readerV_free _ _ _ _ _ _)⟩⟩, ⟨by omega, .inl ⟨by simp, _, rfl, id, rfl, .ptr rfl (by omega), trivial⟩⟩, ⟨by omega, .inl ⟨by simp, _, rfl, id, rfl, .free .int, trivial⟩⟩, ⟨by omega, .inl ⟨by simp, _, rfl, id, rfl, .free .int, trivial⟩⟩,
          ⟨by omega, .inl ⟨by simp, _, rfl, id, rfl, .free .int, trivial⟩⟩, ⟨by omega, .inl ⟨by simp, _, rfl, id, rfl, .free .int, trivial⟩⟩, ⟨by omega, .inl ⟨by simp, _, rfl, id, rfl, .free .bool, trivial⟩⟩, ⟨by omega, .inl ⟨by simp, _, rfl, id, rfl, .free .int, trivial⟩⟩, trivial⟩ (fun _ _ _ _ h => h) (fun _ _ => rfl) (by omega) (by simp)), by simp only; omega⟩
        intro j hj
        rcases Nat.lt_or_ge j 1 with h | h
        · exact hne j h
        · obtain rfl : j = 1 := by omega
          exact fun e => hc e.symm
      rename_i hc
      have hc : x1.toNat = 2 := by simp at hc; omega
      obtain rfl : x1 = 2 := UInt8.toNat_inj.1 hc
      have n1' : byteN b 1 = 2 := by rw [n1]; rfl
      (conv => whnf)
      have hF : flagsI (byteN b 1) = 64 := by rw [n1']; rfl
      have hH := head_is (last := last) h h4 h3 (by rw [hF]; decide)
      rw [hF] at hH
      cases hf : (bits BinOp.andNot IntKind.u8 (x0.toNat : Int) 16 != 64)
      case true =>
        have e : oneE b last = 292 := by
          have : headE b last = 292 := by
            rw [hH, if_pos]
            left
            rw [andNot16 _ h0] at hf
            rw [n0, show lngB b = (x0.toNat / 16 % 2 == 1) by rw [lngB, n0]]
            simpa using hf
          simp [oneE, this]
        (conv => whnf)
        refine ⟨rfl, ?_⟩
        (conv => whnf)
        refine ⟨_, _, _, Ends.here, ?_⟩
        (conv => whnf)
        refine ⟨rfl, ⟨by rw [hAN]; omega, by rw [hAN]; simp; omega⟩, ?_⟩
        (conv => whnf)
        refine ⟨by kernel_rfl, ?_⟩
        (conv => whnf)
        exact Ends.oneE rfl (rest_free _ _ _ _ _ _) e.symm (by rw [e]; decide)
      have hf : (byteN b 0 : Int) - (if lngB b then 16 else 0) = 64 := by
        rw [andNot16 _ h0] at hf
        rw [n0, show lngB b = (x0.toNat / 16 % 2 == 1) by rw [lngB, n0]]
        simpa using hf
      (conv => whnf)
      split
      · rename_i hg
        have e : oneE b last = 292 := by
          have : headE b last = 292 := by
            rw [hH, if_pos]
            right
            rw [hd] at hg
            simpa using hg
          simp [oneE, this]
        (conv => whnf)
        refine ⟨rfl, ?_⟩
        (conv => whnf)
        refine ⟨_, _, _, Ends.here, ?_⟩
        (conv => whnf)
        refine ⟨rfl, ⟨by rw [hAN]; omega, by rw [hAN]; simp; omega⟩, ?_⟩
        (conv => whnf)
        refine ⟨by kernel_rfl, ?_⟩
        (conv => whnf)
        exact Ends.oneE rfl (rest_free _ _ _ _ _ _) e.symm (by rw [e]; decide)
      rename_i hg
      have hg : lngB b = decide (255 < numB b) := by rw [hd] at hg; simpa using hg
      rw [if_neg (by rintro (h | h) <;> contradiction)] at hH
      (conv => whnf)
      refine ⟨by kernel_rfl, ?_⟩
      (conv => whnf)
      split
      · rename_i hr
        have e : oneE b last = 293 := by
          have : headE b last = 293 := by
            rw [hH, if_pos]
            rw [n1']
            simp at hr
            omega
          simp [oneE, this]
        (conv => whnf)
        refine ⟨rfl, ?_⟩
        (conv => whnf)
        refine ⟨_, _, _, Ends.here, ?_⟩
        (conv => whnf)
        refine ⟨rfl, ⟨by rw [hAN]; omega, by rw [hAN]; simp; omega⟩, ?_⟩
        (conv => whnf)
        refine ⟨by kernel_rfl, ?_⟩
        (conv => whnf)
        exact Ends.oneE rfl (rest_free _ _ _ _ _ _) e.symm (by rw [e]; decide)
      rename_i hr
      have hr : ¬ 2 ≤ last := by simp at hr; omega
      rw [if_neg (by rw [n1']; exact hr)] at hH
      (conv => whnf)
      refine ⟨rfl, ⟨by omega, by rw [hAN]; omega, by rw [hAN]; simp; omega, by rw [hAN]; simp; omega⟩, ?_⟩
      (conv => whnf)
      refine ⟨by kernel_rfl, ?_⟩
      (conv => whnf)
      obtain rfl := hq (by omega)
      have hsl : V.sl fr 1 (List.drop (atB b : Int).toNat (List.take (IntKind.i64.wrap ((atB b : Int) + (numB b : Int))).toNat (List.map (fun x => [V.int .u8 x.toNat]) b))) = encB fr (valB b) := by
        rw [hAN, Int.toNat_natCast, Int.toNat_natCast, ← List.map_take, ← List.map_drop, List.drop_take, Nat.add_sub_cancel_left]
        rfl
      have hsr : V.sl fr 1 (List.drop (IntKind.i64.wrap ((atB b : Int) + (numB b : Int))).toNat (List.map (fun x => [V.int .u8 x.toNat]) b)) = encB fr (restB b) := by
        rw [hAN, Int.toNat_natCast, ← List.map_drop]
        rfl
      have hvl : (valB b).length ≤ 1000000 := by simp [valB]; omega
      refine callV_read (b := 0) (readRoute_ok fr (valB b) hvl a _ _ _ (encB_free _ _) .int .int) rfl (encB_free _ _) .int .int ⟨.ptr rfl (by omega), .eq_of hsl (encB_free _ _), trivial⟩ fun c8 h8 hf8 hok => ?_
      obtain ⟨a0, a1, a2, a3, a4, a5, a6, a7, rfl⟩ := eight h8
      have ee : oneE b last = lowE 2 (valB b) := by
        rw [oneE, if_neg (by simp [hH]), n1']
      (conv => whnf)
      refine ⟨rfl, ?_⟩
      (conv => whnf)
      refine ⟨_, _, _, Ends.here, ?_⟩
      (conv => whnf)
      cases he : (lowE 2 (valB b) == 0) with
      | false =>
        have he' : lowE 2 (valB b) ≠ 0 := by simpa using he
        (conv => whnf)
        refine ⟨rfl, ⟨by rw [hAN]; omega, by rw [hAN]; simp; omega⟩, ?_⟩
        (conv => whnf)
        refine ⟨by kernel_rfl, ?_⟩
        (conv => whnf)
        exact Ends.oneE rfl (rest8_free hf8) ee.symm (by rw [ee]; exact he')
      | true =>
        have he' : lowE 2 (valB b) = 0 := by simpa using he
        have h8 := hok he'
        (conv => whnf)
        refine ⟨rfl, ⟨by rw [hAN]; omega, by rw [hAN]; simp; omega⟩, ?_⟩
        (conv => whnf)
        refine ⟨by kernel_rfl, ?_⟩
        (conv => whnf)
        refine Ends.oneK (cells' := readerV fr (restB b) 2 (seen + 1) _ (lowA 2 a (valB b))) rfl (readerV_free _ _ _ _ _ _) ⟨.eq_of hsr (encB_free _ _), .int_of rfl, .int_of hse, .of_eq h8 (cellsR_free _ _)⟩ ee.symm (fun _ => by rw [n1']; rfl)
    case succ.succ.zero =>
      (conv => whnf)
      refine ⟨rfl, _, ⟨by simp, rfl⟩, ?_⟩
      (conv => whnf)
      subst hasg hbody
      refine roundV_of tab_ok mixed rfl (by simp) (show 8 < 10 by omega) ?_
      (conv => whnf)
      refine ⟨rfl, ?_⟩
      (conv => whnf)
      split
      · rename_i hc
        have hc : x1.toNat ≠ 3 := by simp at hc; omega
        (conv => whnf)
        refine ⟨rfl, ?_⟩
        (conv => whnf)
        refine ⟨⟨2 + 1, by omega, ?_⟩, Wk.of id [] ⟨.yld rfl (by omega), .free attributesV_cap, .free attrV_free, .int_of rfl, .int_of rfl, trivial⟩ (LeH.of ⟨⟨by omega, .inl ⟨by simp, _, rfl, rfl, rfl, rfl, rfl, rfl, rfl, .ptr rfl (by omega), .ptr rfl (by omega), .ptr rfl (by omega), .ptr rfl (by omega), .ptr rfl (by omega), .ptr rfl (by omega), .ptr rfl (by omega), trivial⟩⟩,
          ⟨by omega, .inl ⟨by simp, _, rfl, LeB.free (blk := .var true 147 (readerV fr b last seen q a)) (readerV_free _ _ _ _ _ _)⟩⟩, ⟨by omega, .inl ⟨by simp, _, rfl, id, rfl, .ptr rfl (by omega), trivial⟩⟩, ⟨by omega, .inl ⟨by simp, _, rfl, id, rfl, .free .int, trivial⟩⟩, ⟨by omega, .inl ⟨by simp, _, rfl, id, rfl, .free .int, trivial⟩⟩,
          ⟨by omega, .inl ⟨by simp, _, rfl, id, rfl, .free .int, trivial⟩⟩, ⟨by omega, .inl ⟨by simp, _, rfl, id, rfl, .free .int, trivial⟩⟩, ⟨by omega, .inl ⟨by simp, _, rfl, id, rfl, .free .bool, trivial⟩⟩, ⟨by omega, .inl ⟨by simp, _, rfl, id, rfl, .free .int, trivial⟩⟩, trivial⟩ (fun _ _ _ _ h => h) (fun _ _ => rfl) (by omega) (by simp)), by simp only; omega⟩
        intro j hj
        rcases Nat.lt_or_ge j 2 with h | h
        · exact hne j h
        · obtain rfl : j = 2 := by omega
          exact fun e => hc e.symm
      rename_i hc
      have hc : x1.toNat = 3 := by simp at hc; omega
      obtain rfl : x1 = 3 := UInt8.toNat_inj.1 hc
      have n1' : byteN b 1 = 3 := by rw [n1]; rfl
      (conv => whnf)
      have hF : flagsI (byteN b 1) = 64 := by rw [n1']; rfl
      have hH := head_is (last := last) h h4 h3 (by rw [hF]; decide)
      rw [hF] at hH
      cases hf : (bits BinOp.andNot IntKind.u8 (x0.toNat : Int) 16 != 64)
      case true =>
        have e : oneE b last = 292 := by
          have : headE b last = 292 := by
            rw [hH, if_pos]
            left
            rw [andNot16 _ h0] at hf
            rw [n0, show lngB b = (x0.toNat / 16 % 2 == 1) by rw [lngB, n0]]
            simpa using hf
          simp [oneE, this]
        (conv => whnf)
        refine ⟨rfl, ?_⟩
        (conv => whnf)
        refine ⟨_, _, _, Ends.here, ?_⟩
        (conv => whnf)
        refine ⟨rfl, ⟨by rw [hAN]; omega, by rw [hAN]; simp; omega⟩, ?_⟩
        (conv => whnf)
        refine ⟨by kernel_rfl, ?_⟩
        (conv => whnf)
        exact Ends.oneE rfl (rest_free _ _ _ _ _ _) e.symm (by rw [e]; decide)
      have hf : (byteN b 0 : Int) - (if lngB b then 16 else 0) = 64 := by
        rw [andNot16 _ h0] at hf
        rw [n0, show lngB b = (x0.toNat / 16 % 2 == 1) by rw [lngB, n0]]
        simpa using hf
      (conv => whnf)
      split
      · rename_i hg
        have e : oneE b last = 292 := by
          have : headE b last = 292 := by
            rw [hH, if_pos]
            right
            rw [hd] at hg
            simpa using hg
          simp [oneE, this]
        (conv => whnf)
        refine ⟨rfl, ?_⟩
        (conv => whnf)
        refine ⟨_, _, _, Ends.here, ?_⟩
        (conv => whnf)
        refine ⟨rfl, ⟨by rw [hAN]; omega, by rw [hAN]; simp; omega⟩, ?_⟩
        (conv => whnf)
        refine ⟨by kernel_rfl, ?_⟩
        (conv => whnf)
        exact Ends.oneE rfl (rest_free _ _ _ _ _ _) e.symm (by rw [e]; decide)
      rename_i hg
      have hg : lngB b = decide (255 < numB b) := by rw [hd] at hg; simpa using hg
      rw [if_neg (by rintro (h | h) <;> contradiction)] at hH
      (conv => whnf)
      refine ⟨by kernel_rfl, ?_⟩
      (conv => whnf)
      split
      · rename_i hr
        have e : oneE b last = 293 := by
          have : headE b last = 293 := by
            rw [hH, if_pos]
            rw [n1']
            simp at hr
            omega
          simp [oneE, this]
        (conv => whnf)
        refine ⟨rfl, ?_⟩
        (conv => whnf)
        refine ⟨_, _, _, Ends.here, ?_⟩
        (conv => whnf)
        refine ⟨rfl, ⟨by rw [hAN]; omega, by rw [hAN]; simp; omega⟩, ?_⟩
        (conv => whnf)
        refine ⟨by kernel_rfl, ?_⟩
        (conv => whnf)
        exact Ends.oneE rfl (rest_free _ _ _ _ _ _) e.symm (by rw [e]; decide)
      rename_i hr
      have hr : ¬ 3 ≤ last := by simp at hr; omega
      rw [if_neg (by rw [n1']; exact hr)] at hH
      (conv => whnf)
      refine ⟨rfl, ⟨by omega, by rw [hAN]; omega, by rw [hAN]; simp; omega, by rw [hAN]; simp; omega⟩, ?_⟩
      (conv => whnf)
      refine ⟨by kernel_rfl, ?_⟩
      (conv => whnf)
      have hsl : V.sl fr 1 (List.drop (atB b : Int).toNat (List.take (IntKind.i64.wrap ((atB b : Int) + (numB b : Int))).toNat (List.map (fun x => [V.int .u8 x.toNat]) b))) = encB fr (valB b) := by
        rw [hAN, Int.toNat_natCast, Int.toNat_natCast, ← List.map_take, ← List.map_drop, List.drop_take, Nat.add_sub_cancel_left]
        rfl
      have hsr : V.sl fr 1 (List.drop (IntKind.i64.wrap ((atB b : Int) + (numB b : Int))).toNat (List.map (fun x => [V.int .u8 x.toNat]) b)) = encB fr (restB b) := by
        rw [hAN, Int.toNat_natCast, ← List.map_drop]
        rfl
      have hvl : (valB b).length ≤ 1000000 := by simp [valB]; omega
      refine callV_read (b := 0) (read3_ok fr (valB b) q a _ _ _ (encB_free _ _) .int .int) rfl (encB_free _ _) .int .int ⟨.ptr rfl (by omega), .eq_of hsl (encB_free _ _), .free (iptr_fn_free _), trivial⟩ fun c8 h8 hf8 hok => ?_
      obtain ⟨a0, a1, a2, a3, a4, a5, a6, a7, rfl⟩ := eight h8
      have ee : oneE b last = lowE 3 (valB b) := by
        rw [oneE, if_neg (by simp [hH]), n1']
      (conv => whnf)
      refine ⟨rfl, ?_⟩
      (conv => whnf)
      refine ⟨_, _, _, Ends.here, ?_⟩
      (conv => whnf)
      cases he : (lowE 3 (valB b) == 0) with
      | false =>
        have he' : lowE 3 (valB b) ≠ 0 := by simpa using he
        (conv => whnf)
        refine ⟨rfl, ⟨by rw [hAN]; omega, by rw [hAN]; simp; omega⟩, ?_⟩
        (conv => whnf)
        refine ⟨by kernel_rfl, ?_⟩
        (conv => whnf)
        exact Ends.oneE rfl (rest8_free hf8) ee.symm (by rw [ee]; exact he')
      | true =>
        have he' : lowE 3 (valB b) = 0 := by simpa using he
        have h8 := hok he'
        (conv => whnf)
        refine ⟨rfl, ⟨by rw [hAN]; omega, by rw [hAN]; simp; omega⟩, ?_⟩
        (conv => whnf)
        refine ⟨by kernel_rfl, ?_⟩
        (conv => whnf)
        refine Ends.oneK (cells' := readerV fr (restB b) 3 (seen + 1) _ (lowA 3 a (valB b))) rfl (readerV_free _ _ _ _ _ _) ⟨.eq_of hsr (encB_free _ _), .int_of rfl, .int_of hse, .of_eq h8 (cellsR_free _ _)⟩ ee.symm (fun _ => by rw [n1']; rfl)
    case succ.succ.succ.zero =>
      (conv => whnf)
      refine ⟨rfl, _, ⟨by simp, rfl⟩, ?_⟩
      (conv => whnf)
      subst hasg hbody
      refine roundV_of tab_ok mixed rfl (by simp) (show 8 < 10 by omega) ?_
      (conv => whnf)
      refine ⟨rfl, ?_⟩
      (conv => whnf)
      split
      · rename_i hc
        have hc : x1.toNat ≠ 4 := by simp at hc; omega
        (conv => whnf)
        refine ⟨rfl, ?_⟩
        (conv => whnf)
        refine ⟨⟨3 + 1, by omega, ?_⟩, Wk.of id [] ⟨.yld rfl (by omega), .free attributesV_cap, .free attrV_free, .int_of rfl, .int_of rfl, trivial⟩ (LeH.of ⟨⟨by omega, .inl ⟨by simp, _, rfl, rfl, rfl, rfl, rfl, rfl, rfl, .ptr rfl (by omega), .ptr rfl (by omega), .ptr rfl (by omega), .ptr rfl (by omega), .ptr rfl (by omega), .ptr rfl (by omega), .ptr rfl (by omega), trivial⟩⟩,
          ⟨by omega, .inl ⟨by simp, _, rfl, LeB.free (blk := .var true 147 (readerV fr b last seen q a)) (readerV_free _ _ _ _ _ _)⟩⟩, ⟨by omega, .inl ⟨by simp, _, rfl, id, rfl, .ptr rfl (by omega), trivial⟩⟩, ⟨by omega, .inl ⟨by simp, _, rfl, id, rfl, .free .int, trivial⟩⟩, ⟨by omega, .inl ⟨by simp, _, rfl, id, rfl, .free .int, trivial⟩⟩,
          ⟨by omega, .inl ⟨by simp, _, rfl, id, rfl, .free .int, trivial⟩⟩, ⟨by omega, .inl ⟨by simp, _, rfl, id, rfl, .free .int, trivial⟩⟩, ⟨by omega, .inl ⟨by simp, _, rfl, id, rfl, .free .bool, trivial⟩⟩, ⟨by omega, .inl ⟨by simp, _, rfl, id, rfl, .free .int, trivial⟩⟩, trivial⟩ (fun _ _ _ _ h => h) (fun _ _ => rfl) (by omega) (by simp)), by simp only; omega⟩
        intro j hj
        rcases Nat.lt_or_ge j 3 with h | h
        · exact hne j h
        · obtain rfl : j = 3 := by omega
          exact fun e => hc e.symm
      rename_i hc
      have hc : x1.toNat = 4 := by simp at hc; omega
      obtain rfl : x1 = 4 := UInt8.toNat_inj.1 hc
      have n1' : byteN b 1 = 4 := by rw [n1]; rfl
      (conv => whnf)
      have hF : flagsI (byteN b 1) = 128 := by rw [n1']; rfl
      have hH := head_is (last := last) h h4 h3 (by rw [hF]; decide)
      rw [hF] at hH
      cases hf : (bits BinOp.andNot IntKind.u8 (x0.toNat : Int) 16 != 128)
      case true =>
        have e : oneE b last = 292 := by
          have : headE b last = 292 := by
            rw [hH, if_pos]
            left
            rw [andNot16 _ h0] at hf
            rw [n0, show lngB b = (x0.toNat / 16 % 2 == 1) by rw [lngB, n0]]
            simpa using hf
          simp [oneE, this]
        (conv => whnf)
        refine ⟨rfl, ?_⟩
        (conv => whnf)
        refine ⟨_, _, _, Ends.here, ?_⟩
        (conv => whnf)
        refine ⟨rfl, ⟨by rw [hAN]; omega, by rw [hAN]; simp; omega⟩, ?_⟩
        (conv => whnf)
        refine ⟨by kernel_rfl, ?_⟩
        (conv => whnf)
        exact Ends.oneE rfl (rest_free _ _ _ _ _ _) e.symm (by rw [e]; decide)
      have hf : (byteN b 0 : Int) - (if lngB b then 16 else 0) = 128 := by
        rw [andNot16 _ h0] at hf
        rw [n0, show lngB b = (x0.toNat / 16 % 2 == 1) by rw [lngB, n0]]
        simpa using hf
      (conv => whnf)
      split
      · rename_i hg
        have e : oneE b last = 292 := by
          have : headE b last = 292 := by
            rw [hH, if_pos]
            right
            rw [hd] at hg
            simpa using hg
          simp [oneE, this]
        (conv => whnf)
        refine ⟨rfl, ?_⟩
        (conv => whnf)
        refine ⟨_, _, _, Ends.here, ?_⟩
        (conv => whnf)
        refine ⟨rfl, ⟨by rw [hAN]; omega, by rw [hAN]; simp; omega⟩, ?_⟩
        (conv => whnf)
        refine ⟨by kernel_rfl, ?_⟩
        (conv => whnf)
        exact Ends.oneE rfl (rest_free _ _ _ _ _ _) e.symm (by rw [e]; decide)
      rename_i hg
      have hg : lngB b = decide (255 < numB b) := by rw [hd] at hg; simpa using hg
      rw [if_neg (by rintro (h | h) <;> contradiction)] at hH
      (conv => whnf)
      refine ⟨by kernel_rfl, ?_⟩
      (conv => whnf)
      split
      · rename_i hr
        have e : oneE b last = 293 := by
          have : headE b last = 293 := by
            rw [hH, if_pos]
            rw [n1']
            simp at hr
            omega
          simp [oneE, this]
        (conv => whnf)
        refine ⟨rfl, ?_⟩
        (conv => whnf)
        refine ⟨_, _, _, Ends.here, ?_⟩
        (conv => whnf)
        refine ⟨rfl, ⟨by rw [hAN]; omega, by rw [hAN]; simp; omega⟩, ?_⟩
        (conv => whnf)
        refine ⟨by kernel_rfl, ?_⟩
        (conv => whnf)
        exact Ends.oneE rfl (rest_free _ _ _ _ _ _) e.symm (by rw [e]; decide)
      rename_i hr
      have hr : ¬ 4 ≤ last := by simp at hr; omega
      rw [if_neg (by rw [n1']; exact hr)] at hH
      (conv => whnf)
      refine ⟨rfl, ⟨by omega, by rw [hAN]; omega, by rw [hAN]; simp; omega, by rw [hAN]; simp; omega⟩, ?_⟩
      (conv => whnf)
      refine ⟨by kernel_rfl, ?_⟩
      (conv => whnf)
      have hsl : V.sl fr 1 (List.drop (atB b : Int).toNat (List.take (IntKind.i64.wrap ((atB b : Int) + (numB b : Int))).toNat (List.map (fun x => [V.int .u8 x.toNat]) b))) = encB fr (valB b) := by
        rw [hAN, Int.toNat_natCast, Int.toNat_natCast, ← List.map_take, ← List.map_drop, List.drop_take, Nat.add_sub_cancel_left]
        rfl
      have hsr : V.sl fr 1 (List.drop (IntKind.i64.wrap ((atB b : Int) + (numB b : Int))).toNat (List.map (fun x => [V.int .u8 x.toNat]) b)) = encB fr (restB b) := by
        rw [hAN, Int.toNat_natCast, ← List.map_drop]
        rfl
      have hvl : (valB b).length ≤ 1000000 := by simp [valB]; omega
      refine callV_read (b := 0) (read4_ok fr (valB b) q a _ _ _ (encB_free _ _) .int .int) rfl (encB_free _ _) .int .int ⟨.ptr rfl (by omega), .eq_of hsl (encB_free _ _), .free (iptr_fn_free _), trivial⟩ fun c8 h8 hf8 hok => ?_
      obtain ⟨a0, a1, a2, a3, a4, a5, a6, a7, rfl⟩ := eight h8
      have ee : oneE b last = lowE 4 (valB b) := by
        rw [oneE, if_neg (by simp [hH]), n1']
      (conv => whnf)
      refine ⟨rfl, ?_⟩
      (conv => whnf)
      refine ⟨_, _, _, Ends.here, ?_⟩
      (conv => whnf)
      cases he : (lowE 4 (valB b) == 0) with
      | false =>
        have he' : lowE 4 (valB b) ≠ 0 := by simpa using he
        (conv => whnf)
        refine ⟨rfl, ⟨by rw [hAN]; omega, by rw [hAN]; simp; omega⟩, ?_⟩
        (conv => whnf)
        refine ⟨by kernel_rfl, ?_⟩
        (conv => whnf)
        exact Ends.oneE rfl (rest8_free hf8) ee.symm (by rw [ee]; exact he')
      | true =>
        have he' : lowE 4 (valB b) = 0 := by simpa using he
        have h8 := hok he'
        (conv => whnf)
        refine ⟨rfl, ⟨by rw [hAN]; omega, by rw [hAN]; simp; omega⟩, ?_⟩
        (conv => whnf)
        refine ⟨by kernel_rfl, ?_⟩
        (conv => whnf)
        refine Ends.oneK (cells' := readerV fr (restB b) 4 seen _ (lowA 4 a (valB b))) rfl (readerV_free _ _ _ _ _ _) ⟨.eq_of hsr (encB_free _ _), .int_of rfl, .int_of rfl, .of_eq h8 (cellsR_free _ _)⟩ ee.symm (fun _ => by rw [n1']; rfl)
    case succ.succ.succ.succ.zero =>
      (conv => whnf)
      refine ⟨rfl, _, ⟨by simp, rfl⟩, ?_⟩
      (conv => whnf)
      subst hasg hbody
      refine roundV_of tab_ok mixed rfl (by simp) (show 8 < 10 by omega) ?_
      (conv => whnf)
      refine ⟨rfl, ?_⟩
      (conv => whnf)
      split
      · rename_i hc
        have hc : x1.toNat ≠ 5 := by simp at hc; omega
        (conv => whnf)
        refine ⟨rfl, ?_⟩
        (conv => whnf)
        refine ⟨⟨4 + 1, by omega, ?_⟩, Wk.of id [] ⟨.yld rfl (by omega), .free attributesV_cap, .free attrV_free, .int_of rfl, .int_of rfl, trivial⟩ (LeH.of ⟨⟨by omega, .inl ⟨by simp, _, rfl, rfl, rfl, rfl, rfl, rfl, rfl, .ptr rfl (by omega), .ptr rfl (by omega), .ptr rfl (by omega), .ptr rfl (by omega), .ptr rfl (by omega), .ptr rfl (by omega), .ptr rfl (by omega), trivial⟩⟩,
          ⟨by omega, .inl ⟨by simp, _, rfl, LeB.free (blk := .var true 147 (readerV fr b last seen q a)) (readerV_free _ _ _ _ _ _)⟩⟩, ⟨by omega, .inl ⟨by simp, _, rfl, id, rfl, .ptr rfl (by omega), trivial⟩⟩, ⟨by omega, .inl ⟨by simp, _, rfl, id, rfl, .free .int, trivial⟩⟩, ⟨by omega, .inl ⟨by simp, _, rfl, id, rfl, .free .int, trivial⟩⟩,
          ⟨by omega, .inl ⟨by simp, _, rfl, id, rfl, .free .int, trivial⟩⟩, ⟨by omega, .inl ⟨by simp, _, rfl, id, rfl, .free .int, trivial⟩⟩, ⟨by omega, .inl ⟨by simp, _, rfl, id, rfl, .free .bool, trivial⟩⟩, ⟨by omega, .inl ⟨by simp, _, rfl, id, rfl, .free .int, trivial⟩⟩, trivial⟩ (fun _ _ _ _ h => h) (fun _ _ => rfl) (by omega) (by simp)), by simp only; omega⟩
        intro j hj
        rcases Nat.lt_or_ge j 4 with h | h
        · exact hne j h
        · obtain rfl : j = 4 := by omega
          exact fun e => hc e.symm
      rename_i hc
      have hc : x1.toNat = 5 := by simp at hc; omega
      obtain rfl : x1 = 5 := UInt8.toNat_inj.1 hc
      have n1' : byteN b 1 = 5 := by rw [n1]; rfl
      (conv => whnf)
      have hF : flagsI (byteN b 1) = 64 := by rw [n1']; rfl
      have hH := head_is (last := last) h h4 h3 (by rw [hF]; decide)
      rw [hF] at hH
      cases hf : (bits BinOp.andNot IntKind.u8 (x0.toNat : Int) 16 != 64)
      case true =>
        have e : oneE b last = 292 := by
          have : headE b last = 292 := by
            rw [hH, if_pos]
            left
            rw [andNot16 _ h0] at hf
            rw [n0, show lngB b = (x0.toNat / 16 % 2 == 1) by rw [lngB, n0]]
            simpa using hf
          simp [oneE, this]
        (conv => whnf)
        refine ⟨rfl, ?_⟩
        (conv => whnf)
        refine ⟨_, _, _, Ends.here, ?_⟩
        (conv => whnf)
        refine ⟨rfl, ⟨by rw [hAN]; omega, by rw [hAN]; simp; omega⟩, ?_⟩
        (conv => whnf)
        refine ⟨by kernel_rfl, ?_⟩
        (conv => whnf)
        exact Ends.oneE rfl (rest_free _ _ _ _ _ _) e.symm (by rw [e]; decide)
      have hf : (byteN b 0 : Int) - (if lngB b then 16 else 0) = 64 := by
        rw [andNot16 _ h0] at hf
        rw [n0, show lngB b = (x0.toNat / 16 % 2 == 1) by rw [lngB, n0]]
        simpa using hf
      (conv => whnf)
      split
      · rename_i hg
        have e : oneE b last = 292 := by
          have : headE b last = 292 := by
            rw [hH, if_pos]
            right
            rw [hd] at hg
            simpa using hg
          simp [oneE, this]
        (conv => whnf)
        refine ⟨rfl, ?_⟩
        (conv => whnf)
        refine ⟨_, _, _, Ends.here, ?_⟩
        (conv => whnf)
        refine ⟨rfl, ⟨by rw [hAN]; omega, by rw [hAN]; simp; omega⟩, ?_⟩
        (conv => whnf)
        refine ⟨by kernel_rfl, ?_⟩
        (conv => whnf)
        exact Ends.oneE rfl (rest_free _ _ _ _ _ _) e.symm (by rw [e]; decide)
      rename_i hg
      have hg : lngB b = decide (255 < numB b) := by rw [hd] at hg; simpa using hg
      rw [if_neg (by rintro (h | h) <;> contradiction)] at hH
      (conv => whnf)
      refine ⟨by kernel_rfl, ?_⟩
      (conv => whnf)
      split
      · rename_i hr
        have e : oneE b last = 293 := by
          have : headE b last = 293 := by
            rw [hH, if_pos]
            rw [n1']
            simp at hr
            omega
          simp [oneE, this]
        (conv => whnf)
        refine ⟨rfl, ?_⟩
        (conv => whnf)
        refine ⟨_, _, _, Ends.here, ?_⟩
        (conv => whnf)
        refine ⟨rfl, ⟨by rw [hAN]; omega, by rw [hAN]; simp; omega⟩, ?_⟩
        (conv => whnf)
        refine ⟨by kernel_rfl, ?_⟩
        (conv => whnf)
        exact Ends.oneE rfl (rest_free _ _ _ _ _ _) e.symm (by rw [e]; decide)
      rename_i hr
      have hr : ¬ 5 ≤ last := by simp at hr; omega
      rw [if_neg (by rw [n1']; exact hr)] at hH
      (conv => whnf)
      refine ⟨rfl, ⟨by omega, by rw [hAN]; omega, by rw [hAN]; simp; omega, by rw [hAN]; simp; omega⟩, ?_⟩
      (conv => whnf)
      refine ⟨by kernel_rfl, ?_⟩
      (conv => whnf)
      have hsl : V.sl fr 1 (List.drop (atB b : Int).toNat (List.take (IntKind.i64.wrap ((atB b : Int) + (numB b : Int))).toNat (List.map (fun x => [V.int .u8 x.toNat]) b))) = encB fr (valB b) := by
        rw [hAN, Int.toNat_natCast, Int.toNat_natCast, ← List.map_take, ← List.map_drop, List.drop_take, Nat.add_sub_cancel_left]
        rfl
      have hsr : V.sl fr 1 (List.drop (IntKind.i64.wrap ((atB b : Int) + (numB b : Int))).toNat (List.map (fun x => [V.int .u8 x.toNat]) b)) = encB fr (restB b) := by
        rw [hAN, Int.toNat_natCast, ← List.map_drop]
        rfl
      have hvl : (valB b).length ≤ 1000000 := by simp [valB]; omega
      refine callV_read (b := 0) (read5_ok fr (valB b) q a _ _ _ (encB_free _ _) .int .int) rfl (encB_free _ _) .int .int ⟨.ptr rfl (by omega), .eq_of hsl (encB_free _ _), .free (iptr_fn_free _), trivial⟩ fun c8 h8 hf8 hok => ?_
      obtain ⟨a0, a1, a2, a3, a4, a5, a6, a7, rfl⟩ := eight h8
      have ee : oneE b last = lowE 5 (valB b) := by
        rw [oneE, if_neg (by simp [hH]), n1']
      (conv => whnf)
      refine ⟨rfl, ?_⟩
      (conv => whnf)
      refine ⟨_, _, _, Ends.here, ?_⟩
      (conv => whnf)
      cases he : (lowE 5 (valB b) == 0) with
      | false =>
        have he' : lowE 5 (valB b) ≠ 0 := by simpa using he
        (conv => whnf)
        refine ⟨rfl, ⟨by rw [hAN]; omega, by rw [hAN]; simp; omega⟩, ?_⟩
        (conv => whnf)
        refine ⟨by kernel_rfl, ?_⟩
        (conv => whnf)
        exact Ends.oneE rfl (rest8_free hf8) ee.symm (by rw [ee]; exact he')
      | true =>
        have he' : lowE 5 (valB b) = 0 := by simpa using he
        have h8 := hok he'
        (conv => whnf)
        refine ⟨rfl, ⟨by rw [hAN]; omega, by rw [hAN]; simp; omega⟩, ?_⟩
        (conv => whnf)
        refine ⟨by kernel_rfl, ?_⟩
        (conv => whnf)
        refine Ends.oneK (cells' := readerV fr (restB b) 5 seen _ (lowA 5 a (valB b))) rfl (readerV_free _ _ _ _ _ _) ⟨.eq_of hsr (encB_free _ _), .int_of rfl, .int_of rfl, .of_eq h8 (cellsR_free _ _)⟩ ee.symm (fun _ => by rw [n1']; rfl)
    case succ.succ.succ.succ.succ.zero =>
      (conv => whnf)
      refine ⟨rfl, _, ⟨by simp, rfl⟩, ?_⟩
      (conv => whnf)
      subst hasg hbody
      refine roundV_of tab_ok mixed rfl (by simp) (show 8 < 10 by omega) ?_
      (conv => whnf)
      refine ⟨rfl, ?_⟩
      (conv => whnf)
      split
      · rename_i hc
        have hc : x1.toNat ≠ 8 := by simp at hc; omega
        (conv => whnf)
        refine ⟨rfl, ?_⟩
        (conv => whnf)
        refine ⟨⟨5 + 1, by omega, ?_⟩, Wk.of id [] ⟨.yld rfl (by omega), .free attributesV_cap, .free attrV_free, .int_of rfl, .int_of rfl, trivial⟩ (LeH.of ⟨⟨by omega, .inl ⟨by simp, _, rfl, rfl, rfl, rfl, rfl, rfl, rfl, .ptr rfl (by omega), .ptr rfl (by omega), .ptr rfl (by omega), .ptr rfl (by omega), .ptr rfl (by omega), .ptr rfl (by omega), .ptr rfl (by omega), trivial⟩⟩,
          ⟨by omega, .inl ⟨by simp, _, rfl, LeB.free (blk := .var true 147 (readerV fr b last seen q a)) (readerV_free _ _ _ _ _ _)⟩⟩, ⟨by omega, .inl ⟨by simp, _, rfl, id, rfl, .ptr rfl (by omega), trivial⟩⟩, ⟨by omega, .inl ⟨by simp, _, rfl, id, rfl, .free .int, trivial⟩⟩, ⟨by omega, .inl ⟨by simp, _, rfl, id, rfl, .free .int, trivial⟩⟩,
          ⟨by omega, .inl ⟨by simp, _, rfl, id, rfl, .free .int, trivial⟩⟩, ⟨by omega, .inl ⟨by simp, _, rfl, id, rfl, .free .int, trivial⟩⟩, ⟨by omega, .inl ⟨by simp, _, rfl, id, rfl, .free .bool, trivial⟩⟩, ⟨by omega, .inl ⟨by simp, _, rfl, id, rfl, .free .int, trivial⟩⟩, trivial⟩ (fun _ _ _ _ h => h) (fun _ _ => rfl) (by omega) (by simp)), by simp only; omega⟩
        intro j hj
        rcases Nat.lt_or_ge j 5 with h | h
        · exact hne j h
        · obtain rfl : j = 5 := by omega
          exact fun e => hc e.symm
      rename_i hc
      have hc : x1.toNat = 8 := by simp at hc; omega
      obtain rfl : x1 = 8 := UInt8.toNat_inj.1 hc
      have n1' : byteN b 1 = 8 := by rw [n1]; rfl
      (conv => whnf)
      have hF : flagsI (byteN b 1) = 192 := by rw [n1']; rfl
      have hH := head_is (last := last) h h4 h3 (by rw [hF]; decide)
      rw [hF] at hH
      cases hf : (bits BinOp.andNot IntKind.u8 (x0.toNat : Int) 16 != 192)
      case true =>
        have e : oneE b last = 292 := by
          have : headE b last = 292 := by
            rw [hH, if_pos]
            left
            rw [andNot16 _ h0] at hf
            rw [n0, show lngB b = (x0.toNat / 16 % 2 == 1) by rw [lngB, n0]]
            simpa using hf
          simp [oneE, this]
        (conv => whnf)
        refine ⟨rfl, ?_⟩
        (conv => whnf)
        refine ⟨_, _, _, Ends.here, ?_⟩
        (conv => whnf)
        refine ⟨rfl, ⟨by rw [hAN]; omega, by rw [hAN]; simp; omega⟩, ?_⟩
        (conv => whnf)
        refine ⟨by kernel_rfl, ?_⟩
        (conv => whnf)
        exact Ends.oneE rfl (rest_free _ _ _ _ _ _) e.symm (by rw [e]; decide)
      have hf : (byteN b 0 : Int) - (if lngB b then 16 else 0) = 192 := by
        rw [andNot16 _ h0] at hf
        rw [n0, show lngB b = (x0.toNat / 16 % 2 == 1) by rw [lngB, n0]]
        simpa using hf
      (conv => whnf)
      split
      · rename_i hg
        have e : oneE b last = 292 := by
          have : headE b last = 292 := by
            rw [hH, if_pos]
            right
            rw [hd] at hg
            simpa using hg
          simp [oneE, this]
        (conv => whnf)
        refine ⟨rfl, ?_⟩
        (conv => whnf)
        refine ⟨_, _, _, Ends.here, ?_⟩
        (conv => whnf)
        refine ⟨rfl, ⟨by rw [hAN]; omega, by rw [hAN]; simp; omega⟩, ?_⟩
        (conv => whnf)
        refine ⟨by kernel_rfl, ?_⟩
        (conv => whnf)
        exact Ends.oneE rfl (rest_free _ _ _ _ _ _) e.symm (by rw [e]; decide)
      rename_i hg
      have hg : lngB b = decide (255 < numB b) := by rw [hd] at hg; simpa using hg
      rw [if_neg (by rintro (h | h) <;> contradiction)] at hH
      (conv => whnf)
      refine ⟨by kernel_rfl, ?_⟩
      (conv => whnf)
      split
      · rename_i hr
        have e : oneE b last = 293 := by
          have : headE b last = 293 := by
            rw [hH, if_pos]
            rw [n1']
            simp at hr
            omega
          simp [oneE, this]
        (conv => whnf)
        refine ⟨rfl, ?_⟩
        (conv => whnf)
        refine ⟨_, _, _, Ends.here, ?_⟩
        (conv => whnf)
        refine ⟨rfl, ⟨by rw [hAN]; omega, by rw [hAN]; simp; omega⟩, ?_⟩
        (conv => whnf)
        refine ⟨by kernel_rfl, ?_⟩
        (conv => whnf)
        exact Ends.oneE rfl (rest_free _ _ _ _ _ _) e.symm (by rw [e]; decide)
      rename_i hr
      have hr : ¬ 8 ≤ last := by simp at hr; omega
      rw [if_neg (by rw [n1']; exact hr)] at hH
      (conv => whnf)
      refine ⟨rfl, ⟨by omega, by rw [hAN]; omega, by rw [hAN]; simp; omega, by rw [hAN]; simp; omega⟩, ?_⟩
      (conv => whnf)
      refine ⟨by kernel_rfl, ?_⟩
      (conv => whnf)
      have hsl : V.sl fr 1 (List.drop (atB b : Int).toNat (List.take (IntKind.i64.wrap ((atB b : Int) + (numB b : Int))).toNat (List.map (fun x => [V.int .u8 x.toNat]) b))) = encB fr (valB b) := by
        rw [hAN, Int.toNat_natCast, Int.toNat_natCast, ← List.map_take, ← List.map_drop, List.drop_take, Nat.add_sub_cancel_left]
        rfl
      have hsr : V.sl fr 1 (List.drop (IntKind.i64.wrap ((atB b : Int) + (numB b : Int))).toNat (List.map (fun x => [V.int .u8 x.toNat]) b)) = encB fr (restB b) := by
        rw [hAN, Int.toNat_natCast, ← List.map_drop]
        rfl
      have hvl : (valB b).length ≤ 1000000 := by simp [valB]; omega
      refine callV_read (b := 0) (read8_ok fr (valB b) hvl q a _ _ _ (encB_free _ _) .int .int) rfl (encB_free _ _) .int .int ⟨.ptr rfl (by omega), .eq_of hsl (encB_free _ _), trivial⟩ fun c8 h8 hf8 hok => ?_
      obtain ⟨a0, a1, a2, a3, a4, a5, a6, a7, rfl⟩ := eight h8
      have ee : oneE b last = lowE 8 (valB b) := by
        rw [oneE, if_neg (by simp [hH]), n1']
      (conv => whnf)
      refine ⟨rfl, ?_⟩
      (conv => whnf)
      refine ⟨_, _, _, Ends.here, ?_⟩
      (conv => whnf)
      cases he : (lowE 8 (valB b) == 0) with
      | false =>
        have he' : lowE 8 (valB b) ≠ 0 := by simpa using he
        (conv => whnf)
        refine ⟨rfl, ⟨by rw [hAN]; omega, by rw [hAN]; simp; omega⟩, ?_⟩
        (conv => whnf)
        refine ⟨by kernel_rfl, ?_⟩
        (conv => whnf)
        exact Ends.oneE rfl (rest8_free hf8) ee.symm (by rw [ee]; exact he')
      | true =>
        have he' : lowE 8 (valB b) = 0 := by simpa using he
        have h8 := hok he'
        (conv => whnf)
        refine ⟨rfl, ⟨by rw [hAN]; omega, by rw [hAN]; simp; omega⟩, ?_⟩
        (conv => whnf)
        refine ⟨by kernel_rfl, ?_⟩
        (conv => whnf)
        refine Ends.oneK (cells' := readerV fr (restB b) 8 seen _ (lowA 8 a (valB b))) rfl (readerV_free _ _ _ _ _ _) ⟨.eq_of hsr (encB_free _ _), .int_of rfl, .int_of rfl, .of_eq h8 (cellsR_free _ _)⟩ ee.symm (fun _ => by rw [n1']; rfl)
    case succ.succ.succ.succ.succ.succ.zero =>
      have hF := flags_none hne
      have e : oneE b last = 291 := by
        have : headE b last = 291 := by
          unfold headE
          rw [if_neg (by omega), if_neg (by rintro ⟨h1, h2⟩; have := h4 h1; omega), if_neg (by omega), if_pos (by rw [n1, hF]; decide)]
        simp [oneE, this]
      (conv => whnf)
      refine ⟨_, _, _, Ends.here, ?_⟩
      (conv => whnf)
      refine ⟨rfl, ⟨by rw [hAN]; omega, by rw [hAN]; simp; omega⟩, ?_⟩
      (conv => whnf)
      refine ⟨by kernel_rfl, ?_⟩
      (conv => whnf)
      exact Ends.oneE rfl (rest_free _ _ _ _ _ _) e.symm (by rw [e]; decide)
  | true =>
    (conv => whnf)
    intro _
    (conv => whnf)
    split
    · rename_i h3
      have h3 : b.length < 4 := by rw [List.length_map] at h3; simp at h3; omega
      have e : oneE b last = 290 := by
        have : headE b last = 290 := by
          unfold headE
          rw [if_neg (by omega), if_pos ⟨hL, h3⟩]
        simp [oneE, this]
      (conv => whnf)
      exact Ends.oneE rfl (readerV_free _ _ _ _ _ _) e.symm (by rw [e]; decide)
    rename_i h4'
    have h4' : 4 ≤ b.length := by rw [List.length_map] at h4'; simp at h4'; omega
    obtain ⟨x3, r3, rfl⟩ : ∃ x3 r3, r = x3 :: r3 := by
      rcases r with _ | ⟨x3, r3⟩
      · rw [hX] at h4'; simp at h4'
      · exact ⟨x3, r3, rfl⟩
    have n3 : byteN b 3 = x3.toNat := by rw [hX]; rfl
    have hx3 := x3.toNat_lt
    have eN : numB b = 256 * x2.toNat + x3.toNat := by simp [numB, hL, n2, n3]
    have eA : atB b = 4 := by simp [atB, hL]
    have eO := or_len x2 x3
    (conv => whnf)
    refine ⟨by decide, ?_⟩
    (conv => whnf)
    refine ⟨rfl, [cB x3], ⟨by simp, by rw [hX]; rfl⟩, ?_⟩
    (conv => whnf)
    refine ⟨by kernel_rfl, ?_⟩
    (conv => whnf)
    refine ⟨by kernel_rfl, ?_⟩
    (conv => whnf)
    have w3 : IntKind.i64.wrap (4 + bits .or .i64 (IntKind.i64.wrap (IntKind.i64.wrap (x2.toNat : Int) * 2 ^ (min (Int.toNat 8) IntKind.i64.bits))) (IntKind.i64.wrap (x3.toNat : Int))) = (atB b + numB b : Nat) := by rw [eO, eN, eA, wrap64] <;> omega
    split
    · rename_i h3
      have h3 : b.length < atB b + numB b := by rw [w3, List.length_map] at h3; simp at h3; omega
      have e : oneE b last = 290 := by
        have : headE b last = 290 := by
          unfold headE
          rw [if_neg (by omega), if_neg (by rintro ⟨_, h2⟩; omega), if_pos h3]
        simp [oneE, this]
      (conv => whnf)
      exact Ends.oneE rfl (readerV_free _ _ _ _ _ _) e.symm (by rw [e]; decide)
    rename_i h3
    have h3 : atB b + numB b ≤ b.length := by rw [w3, List.length_map] at h3; simp at h3; omega
    have h4 : lngB b = true → 4 ≤ b.length := fun _ => h4'
    have hAN : IntKind.i64.wrap ((atB b : Int) + (numB b : Int)) = (atB b + numB b : Nat) := by rw [wrap64] <;> omega
    have hd : decide ((255 : Int) < (numB b : Int)) = decide (255 < numB b) := decide_eq_decide.2 (by omega)
    have hse : IntKind.i64.wrap ((seen : Int) + 1) = (seen + 1 : Nat) := by rw [wrap64] <;> omega
    (conv => whnf)
    refine callV_pure attributes_ok trivial ?_
    (conv => whnf)
    refine callV_loop [(1, .ptr 1 0), (3, .ptr 2 0), (4, .ptr 3 0), (5, .ptr 4 0), (6, .ptr 5 0), (7, .ptr 6 0), (8, .ptr 7 0)] ⟨rfl, rfl, rfl, rfl, rfl, rfl, rfl, trivial⟩ fun asg' body' hasg hbody => ?_
    refine callV_of (fn := Go.Proofs.Tryz.f203) (body := _) tab_ok mixed rfl rfl (by decide) (by simp [Go.Proofs.Tryz.f203]) ?_
    (conv => whnf)
    intro _
    (conv => whnf)
    refine vcg_loop tab_ok mixed (fun k : {k : Nat // k ≤ 6 ∧ ∀ j, j < k → codesL.getD j 0 ≠ x1.toNat} => ⟨[(0, .yld 8), (1, .iptr true [.sl true 5 attrRows]), (5, .sl true 5 attrRows), (6, .int .i64 6), (7, cI k.1)], (8, some (.loop 141 [(1, .ptr 1 0), (3, .ptr 2 0), (4, .ptr 3 0), (5, .ptr 4 0), (6, .ptr 5 0), (7, .ptr 6 0), (8, .ptr 7 0)] [72] asg' body' .ready none)) :: oneH fr b last seen q a x0 x1 291, 9⟩) (fun k => 6 - k.1) ⟨0, by omega, by omega⟩ ?_ (fun k => ?_)
    · refine Wk.of id [] ⟨.yld rfl (by omega), .free attributesV_cap, .free attrV_free, .int_of rfl, .int_of rfl, trivial⟩ (LeH.of ⟨⟨by omega, .inl ⟨by simp, _, rfl, rfl, rfl, rfl, rfl, rfl, rfl, .ptr rfl (by omega), .ptr rfl (by omega), .ptr rfl (by omega), .ptr rfl (by omega), .ptr rfl (by omega), .ptr rfl (by omega), .ptr rfl (by omega), trivial⟩⟩,
        ⟨by omega, .inl ⟨by simp, _, rfl, LeB.free (blk := .var true 147 (readerV fr b last seen q a)) (readerV_free _ _ _ _ _ _)⟩⟩, ⟨by omega, .inl ⟨by simp, _, rfl, id, rfl, .ptr rfl (by omega), trivial⟩⟩, ⟨by omega, .inl ⟨by simp, _, rfl, id, rfl, .int_of rfl, trivial⟩⟩, ⟨by omega, .inl ⟨by simp, _, rfl, id, rfl, .int_of rfl, trivial⟩⟩,
        ⟨by omega, .inl ⟨by simp, _, rfl, id, rfl, .int_of (by rw [eO, eN]), trivial⟩⟩, ⟨by omega, .inl ⟨by simp, _, rfl, id, rfl, .int_of (by rw [eA]; rfl), trivial⟩⟩, ⟨by omega, .inl ⟨by simp, _, rfl, id, rfl, .bool_of hL.symm, trivial⟩⟩, ⟨by omega, .inl ⟨by simp, _, rfl, id, rfl, .int_of rfl, trivial⟩⟩, trivial⟩ (fun _ _ _ _ h => h) (fun _ _ => rfl) (by omega) (by simp))
    obtain ⟨k, hk, hne⟩ := k
    rcases k with _ | _ | _ | _ | _ | _ | _ | k
    case succ.succ.succ.succ.succ.succ.succ => omega
    case zero =>
      (conv => whnf)
      refine ⟨rfl, _, ⟨by simp, rfl⟩, ?_⟩
      (conv => whnf)
      subst hasg hbody
      refine roundV_of tab_ok mixed rfl (by simp) (show 8 < 10 by omega) ?_
      (conv => whnf)
      refine ⟨rfl, ?_⟩
      (conv => whnf)
      split
      · rename_i hc
        have hc : x1.toNat ≠ 1 := by simp at hc; omega
        (conv => whnf)
        refine ⟨rfl, ?_⟩
        (conv => whnf)
        refine ⟨⟨0 + 1, by omega, ?_⟩, Wk.of id [] ⟨.yld rfl (by omega), .free attributesV_cap, .free attrV_free, .int_of rfl, .int_of rfl, trivial⟩ (LeH.of ⟨⟨by omega, .inl ⟨by simp, _, rfl, rfl, rfl, rfl, rfl, rfl, rfl, .ptr rfl (by omega), .ptr rfl (by omega), .ptr rfl (by omega), .ptr rfl (by omega), .ptr rfl (by omega), .ptr rfl (by omega), .ptr rfl (by omega), trivial⟩⟩,
          ⟨by omega, .inl ⟨by simp, _, rfl, LeB.free (blk := .var true 147 (readerV fr b last seen q a)) (readerV_free _ _ _ _ _ _)⟩⟩, ⟨by omega, .inl ⟨by simp, _, rfl, id, rfl, .ptr rfl (by omega), trivial⟩⟩, ⟨by omega, .inl ⟨by simp, _, rfl, id, rfl, .free .int, trivial⟩⟩, ⟨by omega, .inl ⟨by simp, _, rfl, id, rfl, .free .int, trivial⟩⟩,
          ⟨by omega, .inl ⟨by simp, _, rfl, id, rfl, .free .int, trivial⟩⟩, ⟨by omega, .inl ⟨by simp, _, rfl, id, rfl, .free .int, trivial⟩⟩, ⟨by omega, .inl ⟨by simp, _, rfl, id, rfl, .free .bool, trivial⟩⟩, ⟨by omega, .inl ⟨by simp, _, rfl, id, rfl, .free .int, trivial⟩⟩, trivial⟩ (fun _ _ _ _ h => h) (fun _ _ => rfl) (by omega) (by simp)), by simp only; omega⟩
        intro j hj
        rcases Nat.lt_or_ge j 0 with h | h
        · exact hne j h
        · obtain rfl : j = 0 := by omega
          exact fun e => hc e.symm
      rename_i hc
      have hc : x1.toNat = 1 := by simp at hc; omega
      obtain rfl : x1 = 1 := UInt8.toNat_inj.1 hc
      have n1' : byteN b 1 = 1 := by rw [n1]; rfl
      (conv => whnf)
      have hF : flagsI (byteN b 1) = 64 := by rw [n1']; rfl
      have hH := head_is (last := last) h h4 h3 (by rw [hF]; decide)
      rw [hF] at hH
      cases hf : (bits BinOp.andNot IntKind.u8 (x0.toNat : Int) 16 != 64)
      case true =>
        have e : oneE b last = 292 := by
          have : headE b last = 292 := by
            rw [hH, if_pos]
            left
            rw [andNot16 _ h0] at hf
            rw [n0, show lngB b = (x0.toNat / 16 % 2 == 1) by rw [lngB, n0]]
            simpa using hf
          simp [oneE, this]
        (conv => whnf)
        refine ⟨rfl, ?_⟩
        (conv => whnf)
        refine ⟨_, _, _, Ends.here, ?_⟩
        (conv => whnf)
        refine ⟨rfl, ⟨by rw [hAN]; omega, by rw [hAN]; simp; omega⟩, ?_⟩
        (conv => whnf)
        refine ⟨by kernel_rfl, ?_⟩
        (conv => whnf)
        exact Ends.oneE rfl (rest_free _ _ _ _ _ _) e.symm (by rw [e]; decide)
      have hf : (byteN b 0 : Int) - (if lngB b then 16 else 0) = 64 := by
        rw [andNot16 _ h0] at hf
        rw [n0, show lngB b = (x0.toNat / 16 % 2 == 1) by rw [lngB, n0]]
        simpa using hf
      (conv => whnf)
      split
      · rename_i hg
        have e : oneE b last = 292 := by
          have : headE b last = 292 := by
            rw [hH, if_pos]
            right
            rw [hd] at hg
            simpa using hg
          simp [oneE, this]
        (conv => whnf)
        refine ⟨rfl, ?_⟩
        (conv => whnf)
        refine ⟨_, _, _, Ends.here, ?_⟩
        (conv => whnf)
        refine ⟨rfl, ⟨by rw [hAN]; omega, by rw [hAN]; simp; omega⟩, ?_⟩
        (conv => whnf)
        refine ⟨by kernel_rfl, ?_⟩
        (conv => whnf)
        exact Ends.oneE rfl (rest_free _ _ _ _ _ _) e.symm (by rw [e]; decide)
      rename_i hg
      have hg : lngB b = decide (255 < numB b) := by rw [hd] at hg; simpa using hg
      rw [if_neg (by rintro (h | h) <;> contradiction)] at hH
      (conv => whnf)
      refine ⟨by kernel_rfl, ?_⟩
      (conv => whnf)
      split
      · rename_i hr
        have e : oneE b last = 293 := by
          have : headE b last = 293 := by
            rw [hH, if_pos]
            rw [n1']
            simp at hr
            omega
          simp [oneE, this]
        (conv => whnf)
        refine ⟨rfl, ?_⟩
        (conv => whnf)
        refine ⟨_, _, _, Ends.here, ?_⟩
        (conv => whnf)
        refine ⟨rfl, ⟨by rw [hAN]; omega, by rw [hAN]; simp; omega⟩, ?_⟩
        (conv => whnf)
        refine ⟨by kernel_rfl, ?_⟩
        (conv => whnf)
        exact Ends.oneE rfl (rest_free _ _ _ _ _ _) e.symm (by rw [e]; decide)
      rename_i hr
      have hr : ¬ 1 ≤ last := by simp at hr; omega
      rw [if_neg (by rw [n1']; exact hr)] at hH
      (conv => whnf)
      refine ⟨rfl, ⟨by omega, by rw [hAN]; omega, by rw [hAN]; simp; omega, by rw [hAN]; simp; omega⟩, ?_⟩
      (conv => whnf)
      refine ⟨by kernel_rfl, ?_⟩
      (conv => whnf)
      have hsl : V.sl fr 1 (List.drop (atB b : Int).toNat (List.take (IntKind.i64.wrap ((atB b : Int) + (numB b : Int))).toNat (List.map (fun x => [V.int .u8 x.toNat]) b))) = encB fr (valB b) := by
        rw [hAN, Int.toNat_natCast, Int.toNat_natCast, ← List.map_take, ← List.map_drop, List.drop_take, Nat.add_sub_cancel_left]
        rfl
      have hsr : V.sl fr 1 (List.drop (IntKind.i64.wrap ((atB b : Int) + (numB b : Int))).toNat (List.map (fun x => [V.int .u8 x.toNat]) b)) = encB fr (restB b) := by
        rw [hAN, Int.toNat_natCast, ← List.map_drop]
        rfl
      have hvl : (valB b).length ≤ 1000000 := by simp [valB]; omega
      refine callV_read (b := 0) (read1_ok fr (valB b) q a _ _ _ (encB_free _ _) .int .int) rfl (encB_free _ _) .int .int ⟨.ptr rfl (by omega), .eq_of hsl (encB_free _ _), trivial⟩ fun c8 h8 hf8 hok => ?_
      obtain ⟨a0, a1, a2, a3, a4, a5, a6, a7, rfl⟩ := eight h8
      have ee : oneE b last = lowE 1 (valB b) := by
        rw [oneE, if_neg (by simp [hH]), n1']
      (conv => whnf)
      refine ⟨rfl, ?_⟩
      (conv => whnf)
      refine ⟨_, _, _, Ends.here, ?_⟩
      (conv => whnf)
      cases he : (lowE 1 (valB b) == 0) with
      | false =>
        have he' : lowE 1 (valB b) ≠ 0 := by simpa using he
        (conv => whnf)
        refine ⟨rfl, ⟨by rw [hAN]; omega, by rw [hAN]; simp; omega⟩, ?_⟩
        (conv => whnf)
        refine ⟨by kernel_rfl, ?_⟩
        (conv => whnf)
        exact Ends.oneE rfl (rest8_free hf8) ee.symm (by rw [ee]; exact he')
      | true =>
        have he' : lowE 1 (valB b) = 0 := by simpa using he
        have h8 := hok he'
        (conv => whnf)
        refine ⟨rfl, ⟨by rw [hAN]; omega, by rw [hAN]; simp; omega⟩, ?_⟩
        (conv => whnf)
        refine ⟨by kernel_rfl, ?_⟩
        (conv => whnf)
        refine Ends.oneK (cells' := readerV fr (restB b) 1 (seen + 1) _ (lowA 1 a (valB b))) rfl (readerV_free _ _ _ _ _ _) ⟨.eq_of hsr (encB_free _ _), .int_of rfl, .int_of hse, .of_eq h8 (cellsR_free _ _)⟩ ee.symm (fun _ => by rw [n1']; rfl)
    case succ.zero =>
      (conv => whnf)
      refine ⟨rfl, _, ⟨by simp, rfl⟩, ?_⟩
      (conv => whnf)
      subst hasg hbody
      refine roundV_of tab_ok mixed rfl (by simp) (show 8 < 10 by omega) ?_
      (conv => whnf)
      refine ⟨rfl, ?_⟩
      (conv => whnf)
      split
      · rename_i hc
        have hc : x1.toNat ≠ 2 := by simp at hc; omega
        (conv => whnf)
        refine ⟨rfl, ?_⟩
        (conv => whnf)
        refine ⟨⟨1 + 1, by omega, ?_⟩, Wk.of id [] ⟨.yld rfl (by omega), .free attributesV_cap, .free attrV_free, .int_of rfl, .int_of rfl, trivial⟩ (LeH.of ⟨⟨by omega, .inl ⟨by simp, _, rfl, rfl, rfl, rfl, rfl, rfl, rfl, .ptr rfl (by omega), .ptr rfl (by omega), .ptr rfl (by omega), .ptr rfl (by omega), .ptr rfl (by omega), .ptr rfl (by omega), .ptr rfl (by omega), trivial⟩⟩,
          ⟨by omega, .inl ⟨by simp, _, rfl, LeB.free (blk := .var true 147 (readerV fr b last seen q a)) (readerV_free _ _ _ _ _ _)⟩⟩, ⟨by omega, .inl ⟨by simp, _, rfl, id, rfl, .ptr rfl (by omega), trivial⟩⟩, ⟨by omega, .inl ⟨by simp, _, rfl, id, rfl, .free .int, trivial⟩⟩, ⟨by omega, .inl ⟨by simp, _, rfl, id, rfl, .free .int, trivial⟩⟩,
          ⟨by omega, .inl ⟨by simp, _, rfl, id, rfl, .free .int, trivial⟩⟩, ⟨by omega, .inl ⟨by simp, _, rfl, id, rfl, .free .int, trivial⟩⟩, ⟨by omega, .inl ⟨by simp, _, rfl, id, rfl, .free .bool, trivial⟩⟩, ⟨by omega, .inl ⟨by simp, _, rfl, id, rfl, .free .int, trivial⟩⟩, trivial⟩ (fun _ _ _ _ h => h) (fun _ _ => rfl) (by omega) (by simp)), by simp only; omega⟩
        intro j hj
        rcases Nat.lt_or_ge j 1 with h | h
        · exact hne j h
        · obtain rfl : j = 1 := by omega
          exact fun e => hc e.symm
      rename_i hc
      have hc : x1.toNat = 2 := by simp at hc; omega
      obtain rfl : x1 = 2 := UInt8.toNat_inj.1 hc
      have n1' : byteN b 1 = 2 := by rw [n1]; rfl
      (conv => whnf)
      have hF : flagsI (byteN b 1) = 64 := by rw [n1']; rfl
      have hH := head_is (last := last) h h4 h3 (by rw [hF]; decide)
      rw [hF] at hH
      cases hf : (bits BinOp.andNot IntKind.u8 (x0.toNat : Int) 16 != 64)
      case true =>
        have e : oneE b last = 292 := by
          have : headE b last = 292 := by
            rw [hH, if_pos]
            left
            rw [andNot16 _ h0] at hf
            rw [n0, show lngB b = (x0.toNat / 16 % 2 == 1) by rw [lngB, n0]]
            simpa using hf
          simp [oneE, this]
        (conv => whnf)
        refine ⟨rfl, ?_⟩
        (conv => whnf)
        refine ⟨_, _, _, Ends.here, ?_⟩
        (conv => whnf)
        refine ⟨rfl, ⟨by rw [hAN]; omega, by rw [hAN]; simp; omega⟩, ?_⟩
        (conv => whnf)
        refine ⟨by kernel_rfl, ?_⟩
        (conv => whnf)
        exact Ends.oneE rfl (rest_free _ _ _ _ _ _) e.symm (by rw [e]; decide)
      have hf : (byteN b 0 : Int) - (if lngB b then 16 else 0) = 64 := by
        rw [andNot16 _ h0] at hf
        rw [n0, show lngB b = (x0.toNat / 16 % 2 == 1) by rw [lngB, n0]]
        simpa using hf
      (conv => whnf)
      split
      · rename_i hg
        have e : oneE b last = 292 := by
          have : headE b last = 292 := by
            rw [hH, if_pos]
            right
            rw [hd] at hg
            simpa using hg
          simp [oneE, this]
        (conv => whnf)
        refine ⟨rfl, ?_⟩
        (conv => whnf)
        refine ⟨_, _, _, Ends.here, ?_⟩
        (conv => whnf)
        refine ⟨rfl, ⟨by rw [hAN]; omega, by rw [hAN]; simp; omega⟩, ?_⟩
        (conv => whnf)
        refine ⟨by kernel_rfl, ?_⟩
        (conv => whnf)
        exact Ends.oneE rfl (rest_free _ _ _ _ _ _) e.symm (by rw [e]; decide)
      rename_i hg
      have hg : lngB b = decide (255 < numB b) := by rw [hd] at hg; simpa using hg
      rw [if_neg (by rintro (h | h) <;> contradiction)] at hH
      (conv => whnf)
      refine ⟨by kernel_rfl, ?_⟩
      (conv => whnf)
      split
      · rename_i hr
        have e : oneE b last = 293 := by
          have : headE b last = 293 := by
            rw [hH, if_pos]
            rw [n1']
            simp at hr
            omega
          simp [oneE, this]
        (conv => whnf)
        refine ⟨rfl, ?_⟩
        (conv => whnf)
        refine ⟨_, _, _, Ends.here, ?_⟩
        (conv => whnf)
        refine ⟨rfl, ⟨by rw [hAN]; omega, by rw [hAN]; simp; omega⟩, ?_⟩
        (conv => whnf)
        refine ⟨by kernel_rfl, ?_⟩
        (conv => whnf)
        exact Ends.oneE rfl (rest_free _ _ _ _ _ _) e.symm (by rw [e]; decide)
      rename_i hr
      have hr : ¬ 2 ≤ last := by simp at hr; omega
      rw [if_neg (by rw [n1']; exact hr)] at hH
      (conv => whnf)
      refine ⟨rfl, ⟨by omega, by rw [hAN]; omega, by rw [hAN]; simp; omega, by rw [hAN]; simp; omega⟩, ?_⟩
      (conv => whnf)
      refine ⟨by kernel_rfl, ?_⟩
      (conv => whnf)
      obtain rfl := hq (by omega)
      have hsl : V.sl fr 1 (List.drop (atB b : Int).toNat (List.take (IntKind.i64.wrap ((atB b : Int) + (numB b : Int))).toNat (List.map (fun x => [V.int .u8 x.toNat]) b))) = encB fr (valB b) := by
        rw [hAN, Int.toNat_natCast, Int.toNat_natCast, ← List.map_take, ← List.map_drop, List.drop_take, Nat.add_sub_cancel_left]
        rfl
      have hsr : V.sl fr 1 (List.drop (IntKind.i64.wrap ((atB b : Int) + (numB b : Int))).toNat (List.map (fun x => [V.int .u8 x.toNat]) b)) = encB fr (restB b) := by
        rw [hAN, Int.toNat_natCast, ← List.map_drop]
        rfl
      have hvl : (valB b).length ≤ 1000000 := by simp [valB]; omega
      refine callV_read (b := 0) (readRoute_ok fr (valB b) hvl a _ _ _ (encB_free _ _) .int .int) rfl (encB_free _ _) .int .int ⟨.ptr rfl (by omega), .eq_of hsl (encB_free _ _), trivial⟩ fun c8 h8 hf8 hok => ?_
      obtain ⟨a0, a1, a2, a3, a4, a5, a6, a7, rfl⟩ := eight h8
      have ee : oneE b last = lowE 2 (valB b) := by
        rw [oneE, if_neg (by simp [hH]), n1']
      (conv => whnf)
      refine ⟨rfl, ?_⟩
      (conv => whnf)
      refine ⟨_, _, _, Ends.here, ?_⟩
      (conv => whnf)
      cases he : (lowE 2 (valB b) == 0) with
      | false =>
        have he' : lowE 2 (valB b) ≠ 0 := by simpa using he
        (conv => whnf)
        refine ⟨rfl, ⟨by rw [hAN]; omega, by rw [hAN]; simp; omega⟩, ?_⟩
        (conv => whnf)
        refine ⟨by kernel_rfl, ?_⟩
        (conv => whnf)
        exact Ends.oneE rfl (rest8_free hf8) ee.symm (by rw [ee]; exact he')
      | true =>
        have he' : lowE 2 (valB b) = 0 := by simpa using he
        have h8 := hok he'
        (conv => whnf)
        refine ⟨rfl, ⟨by rw [hAN]; omega, by rw [hAN]; simp; omega⟩, ?_⟩
        (conv => whnf)
        refine ⟨by kernel_rfl, ?_⟩
        (conv => whnf)
        refine Ends.oneK (cells' := readerV fr (restB b) 2 (seen + 1) _ (lowA 2 a (valB b))) rfl (readerV_free _ _ _ _ _ _) ⟨.eq_of hsr (encB_free _ _), .int_of rfl, .int_of hse, .of_eq h8 (cellsR_free _ _)⟩ ee.symm (fun _ => by rw [n1']; rfl)
    case succ.succ.zero =>
      (conv => whnf)
      refine ⟨rfl, _, ⟨by simp, rfl⟩, ?_⟩
      (conv => whnf)
      subst hasg hbody
      refine roundV_of tab_ok mixed rfl (by simp) (show 8 < 10 by omega) ?_
      (conv => whnf)
      refine ⟨rfl, ?_⟩
      (conv => whnf)
      split
      · rename_i hc
        have hc : x1.toNat ≠ 3 := by simp at hc; omega
        (conv => whnf)
        refine ⟨rfl, ?_⟩
        (conv => whnf)
        refine ⟨⟨2 + 1, by omega, ?_⟩, Wk.of id [] ⟨.yld rfl (by omega), .free attributesV_cap, .free attrV_free, .int_of rfl, .int_of rfl, trivial⟩ (LeH.of ⟨⟨by omega, .inl ⟨by simp, _, rfl, rfl, rfl, rfl, rfl, rfl, rfl, .ptr rfl (by omega), .ptr rfl (by omega), .ptr rfl (by omega), .ptr rfl (by omega), .ptr rfl (by omega), .ptr rfl (by omega), .ptr rfl (by omega), trivial⟩⟩,
          ⟨by omega, .inl ⟨by simp, _, rfl, LeB.free (blk := .var true 147 (readerV fr b last seen q a)) (readerV_free _ _ _ _ _ _)⟩⟩, ⟨by omega, .inl ⟨by simp, _, rfl, id, rfl, .ptr rfl (by omega), trivial⟩⟩, ⟨by omega, .inl ⟨by simp, _, rfl, id, rfl, .free .int, trivial⟩⟩, ⟨by omega, .inl ⟨by simp, _, rfl, id, rfl, .free .int, trivial⟩⟩,
          ⟨by omega, .inl ⟨by simp, _, rfl, id, rfl, .free .int, trivial⟩⟩, ⟨by omega, .inl ⟨by simp, _, rfl, id, rfl, .free .int, trivial⟩⟩, ⟨by omega, .inl ⟨by simp, _, rfl, id, rfl, .free .bool, trivial⟩⟩, ⟨by omega, .inl ⟨by simp, _, rfl, id, rfl, .free .int, trivial⟩⟩, trivial⟩ (fun _ _ _ _ h => h) (fun _ _ => rfl) (by omega) (by simp)), by simp only; omega⟩
        intro j hj
        rcases Nat.lt_or_ge j 2 with h | h
        · exact hne j h
        · obtain rfl : j = 2 := by omega
          exact fun e => hc e.symm
      rename_i hc
      have hc : x1.toNat = 3 := by simp at hc; omega
      obtain rfl : x1 = 3 := UInt8.toNat_inj.1 hc
      have n1' : byteN b 1 = 3 := by rw [n1]; rfl
      (conv => whnf)
      have hF : flagsI (byteN b 1) = 64 := by rw [n1']; rfl
      have hH := head_is (last := last) h h4 h3 (by rw [hF]; decide)
      rw [hF] at hH
      cases hf : (bits BinOp.andNot IntKind.u8 (x0.toNat : Int) 16 != 64)
      case true =>
        have e : oneE b last = 292 := by
          have : headE b last = 292 := by
            rw [hH, if_pos]
            left
            rw [andNot16 _ h0] at hf
            rw [n0, show lngB b = (x0.toNat / 16 % 2 == 1) by rw [lngB, n0]]
            simpa using hf
          simp [oneE, this]
        (conv => whnf)
        refine ⟨rfl, ?_⟩
        (conv => whnf)
        refine ⟨_, _, _, Ends.here, ?_⟩
        (conv => whnf)
        refine ⟨rfl, ⟨by rw [hAN]; omega, by rw [hAN]; simp; omega⟩, ?_⟩
        (conv => whnf)
        refine ⟨by kernel_rfl, ?_⟩
        (conv => whnf)
        exact Ends.oneE rfl (rest_free _ _ _ _ _ _) e.symm (by rw [e]; decide)
      have hf : (byteN b 0 : Int) - (if lngB b then 16 else 0) = 64 := by
        rw [andNot16 _ h0] at hf
        rw [n0, show lngB b = (x0.toNat / 16 % 2 == 1) by rw [lngB, n0]]
        simpa using hf
      (conv => whnf)
      split
      · rename_i hg
        have e : oneE b last = 292 := by
          have : headE b last = 292 := by
            rw [hH, if_pos]
            right
            rw [hd] at hg
            simpa using hg
          simp [oneE, this]
        (conv => whnf)
        refine ⟨rfl, ?_⟩
        (conv => whnf)
        refine ⟨_, _, _, Ends.here, ?_⟩
        (conv => whnf)
        refine ⟨rfl, ⟨by rw [hAN]; omega, by rw [hAN]; simp; omega⟩, ?_⟩
        (conv => whnf)
        refine ⟨by kernel_rfl, ?_⟩
        (conv => whnf)
        exact Ends.oneE rfl (rest_free _ _ _ _ _ _) e.symm (by rw [e]; decide)
      rename_i hg
      have hg : lngB b = decide (255 < numB b) := by rw [hd] at hg; simpa using hg
      rw [if_neg (by rintro (h | h) <;> contradiction)] at hH
      (conv => whnf)
      refine ⟨by kernel_rfl, ?_⟩
      (conv => whnf)
      split
      · rename_i hr
        have e : oneE b last = 293 := by
          have : headE b last = 293 := by
            rw [hH, if_pos]
            rw [n1']
            simp at hr
            omega
          simp [oneE, this]
        (conv => whnf)
        refine ⟨rfl, ?_⟩
        (conv => whnf)
        refine ⟨_, _, _, Ends.here, ?_⟩
        (conv => whnf)
        refine ⟨rfl, ⟨by rw [hAN]; omega, by rw [hAN]; simp; omega⟩, ?_⟩
        (conv => whnf)
        refine ⟨by kernel_rfl, ?_⟩
        (conv => whnf)
        exact Ends.oneE rfl (rest_free _ _ _ _ _ _) e.symm (by rw [e]; decide)
      rename_i hr
      have hr : ¬ 3 ≤ last := by simp at hr; omega
      rw [if_neg (by rw [n1']; exact hr)] at hH
      (conv => whnf)
      refine ⟨rfl, ⟨by omega, by rw [hAN]; omega, by rw [hAN]; simp; omega, by rw [hAN]; simp; omega⟩, ?_⟩
      (conv => whnf)
      refine ⟨by kernel_rfl, ?_⟩
      (conv => whnf)
      have hsl : V.sl fr 1 (List.drop (atB b : Int).toNat (List.take (IntKind.i64.wrap ((atB b : Int) + (numB b : Int))).toNat (List.map (fun x => [V.int .u8 x.toNat]) b))) = encB fr (valB b) := by
        rw [hAN, Int.toNat_natCast, Int.toNat_natCast, ← List.map_take, ← List.map_drop, List.drop_take, Nat.add_sub_cancel_left]
        rfl
      have hsr : V.sl fr 1 (List.drop (IntKind.i64.wrap ((atB b : Int) + (numB b : Int))).toNat (List.map (fun x => [V.int .u8 x.toNat]) b)) = encB fr (restB b) := by
        rw [hAN, Int.toNat_natCast, ← List.map_drop]
        rfl
      have hvl : (valB b).length ≤ 1000000 := by simp [valB]; omega
      refine callV_read (b := 0) (read3_ok fr (valB b) q a _ _ _ (encB_free _ _) .int .int) rfl (encB_free _ _) .int .int ⟨.ptr rfl (by omega), .eq_of hsl (encB_free _ _), .free (iptr_fn_free _), trivial⟩ fun c8 h8 hf8 hok => ?_
      obtain ⟨a0, a1, a2, a3, a4, a5, a6, a7, rfl⟩ := eight h8
      have ee : oneE b last = lowE 3 (valB b) := by
        rw [oneE, if_neg (by simp [hH]), n1']
      (conv => whnf)
      refine ⟨rfl, ?_⟩
      (conv => whnf)
      refine ⟨_, _, _, Ends.here, ?_⟩
      (conv => whnf)
      cases he : (lowE 3 (valB b) == 0) with
      | false =>
        have he' : lowE 3 (valB b) ≠ 0 := by simpa using he
        (conv => whnf)
        refine ⟨rfl, ⟨by rw [hAN]; omega, by rw [hAN]; simp; omega⟩, ?_⟩
        (conv => whnf)
        refine ⟨by kernel_rfl, ?_⟩
        (conv => whnf)
        exact Ends.oneE rfl (rest8_free hf8) ee.symm (by rw [ee]; exact he')
      | true =>
        have he' : lowE 3 (valB b) = 0 := by simpa using he
        have h8 := hok he'
        (conv => whnf)
        refine ⟨rfl, ⟨by rw [hAN]; omega, by rw [hAN]; simp; omega⟩, ?_⟩
        (conv => whnf)
        refine ⟨by kernel_rfl, ?_⟩
        (conv => whnf)
        refine Ends.oneK (cells' := readerV fr (restB b) 3 (seen + 1) _ (lowA 3 a (valB b))) rfl (readerV_free _ _ _ _ _ _) ⟨.eq_of hsr (encB_free _ _), .int_of rfl, .int_of hse, .of_eq h8 (cellsR_free _ _)⟩ ee.symm (fun _ => by rw [n1']; rfl)
    case succ.succ.succ.zero =>
      (conv => whnf)
      refine ⟨rfl, _, ⟨by simp, rfl⟩, ?_⟩
      (conv => whnf)
      subst hasg hbody
      refine roundV_of tab_ok mixed rfl (by simp) (show 8 < 10 by omega) ?_
      (conv => whnf)
      refine ⟨rfl, ?_⟩
      (conv => whnf)
      split
      · rename_i hc
        have hc : x1.toNat ≠ 4 := by simp at hc; omega
        (conv => whnf)
        refine ⟨rfl, ?_⟩
        (conv => whnf)
        refine ⟨⟨3 + 1, by omega, ?_⟩, Wk.of id [] ⟨.yld rfl (by omega), .free attributesV_cap, .free attrV_free, .int_of rfl, .int_of rfl, trivial⟩ (LeH.of ⟨⟨by omega, .inl ⟨by simp, _, rfl, rfl, rfl, rfl, rfl, rfl, rfl, .ptr rfl (by omega), .ptr rfl (by omega), .ptr rfl (by omega), .ptr rfl (by omega), .ptr rfl (by omega), .ptr rfl (by omega), .ptr rfl (by omega), trivial⟩⟩,
          ⟨by omega, .inl ⟨by simp, _, rfl, LeB.free (blk := .var true 147 (readerV fr b last seen q a)) (readerV_free _ _ _ _ _ _)⟩⟩, ⟨by omega, .inl ⟨by simp, _, rfl, id, rfl, .ptr rfl (by omega), trivial⟩⟩, ⟨by omega, .inl ⟨by simp, _, rfl, id, rfl, .free .int, trivial⟩⟩, ⟨by omega, .inl ⟨by simp, _, rfl, id, rfl, .free .int, trivial⟩⟩,
          ⟨by omega, .inl ⟨by simp, _, rfl, id, rfl, .free .int, trivial⟩⟩, ⟨by omega, .inl ⟨by simp, _, rfl, id, rfl, .free .int, trivial⟩⟩, ⟨by omega, .inl ⟨by simp, _, rfl, id, rfl, .free .bool, trivial⟩⟩, ⟨by omega, .inl ⟨by simp, _, rfl, id, rfl, .free .int, trivial⟩⟩, trivial⟩ (fun _ _ _ _ h => h) (fun _ _ => rfl) (by omega) (by simp)), by simp only; omega⟩
        intro j hj
        rcases Nat.lt_or_ge j 3 with h | h
        · exact hne j h
        · obtain rfl : j = 3 := by omega
          exact fun e => hc e.symm
      rename_i hc
      have hc : x1.toNat = 4 := by simp at hc; omega
      obtain rfl : x1 = 4 := UInt8.toNat_inj.1 hc
      have n1' : byteN b 1 = 4 := by rw [n1]; rfl
      (conv => whnf)
      have hF : flagsI (byteN b 1) = 128 := by rw [n1']; rfl
      have hH := head_is (last := last) h h4 h3 (by rw [hF]; decide)
      rw [hF] at hH
      cases hf : (bits BinOp.andNot IntKind.u8 (x0.toNat : Int) 16 != 128)
      case true =>
        have e : oneE b last = 292 := by
          have : headE b last = 292 := by
            rw [hH, if_pos]
            left
            rw [andNot16 _ h0] at hf
            rw [n0, show lngB b = (x0.toNat / 16 % 2 == 1) by rw [lngB, n0]]
            simpa using hf
          simp [oneE, this]
        (conv => whnf)
        refine ⟨rfl, ?_⟩
        (conv => whnf)
        refine ⟨_, _, _, Ends.here, ?_⟩
        (conv => whnf)
        refine ⟨rfl, ⟨by rw [hAN]; omega, by rw [hAN]; simp; omega⟩, ?_⟩
        (conv => whnf)
        refine ⟨by kernel_rfl, ?_⟩
        (conv => whnf)
        exact Ends.oneE rfl (rest_free _ _ _ _ _ _) e.symm (by rw [e]; decide)
      have hf : (byteN b 0 : Int) - (if lngB b then 16 else 0) = 128 := by
        rw [andNot16 _ h0] at hf
        rw [n0, show lngB b = (x0.toNat / 16 % 2 == 1) by rw [lngB, n0]]
        simpa using hf
      (conv => whnf)
      split
      · rename_i hg
        have e : oneE b last = 292 := by
          have : headE b last = 292 := by
            rw [hH, if_pos]
            right
            rw [hd] at hg
            simpa using hg
          simp [oneE, this]
        (conv => whnf)
        refine ⟨rfl, ?_⟩
        (conv => whnf)
        refine ⟨_, _, _, Ends.here, ?_⟩
        (conv => whnf)
        refine ⟨rfl, ⟨by rw [hAN]; omega, by rw [hAN]; simp; omega⟩, ?_⟩
        (conv => whnf)
        refine ⟨by kernel_rfl, ?_⟩
        (conv => whnf)
        exact Ends.oneE rfl (rest_free _ _ _ _ _ _) e.symm (by rw [e]; decide)
      rename_i hg
      have hg : lngB b = decide (255 < numB b) := by rw [hd] at hg; simpa using hg
      rw [if_neg (by rintro (h | h) <;> contradiction)] at hH
      (conv => whnf)
      refine ⟨by kernel_rfl, ?_⟩
      (conv => whnf)
      split
      · rename_i hr
        have e : oneE b last = 293 := by
          have : headE b last = 293 := by
            rw [hH, if_pos]
            rw [n1']
            simp at hr
            omega
          simp [oneE, this]
        (conv => whnf)
        refine ⟨rfl, ?_⟩
        (conv => whnf)
        refine ⟨_, _, _, Ends.here, ?_⟩
        (conv => whnf)
        refine ⟨rfl, ⟨by rw [hAN]; omega, by rw [hAN]; simp; omega⟩, ?_⟩
        (conv => whnf)
        refine ⟨by kernel_rfl, ?_⟩
        (conv => whnf)
        exact Ends.oneE rfl (rest_free _ _ _ _ _ _) e.symm (by rw [e]; decide)
      rename_i hr
      have hr : ¬ 4 ≤ last := by simp at hr; omega
      rw [if_neg (by rw [n1']; exact hr)] at hH
      (conv => whnf)
      refine ⟨rfl, ⟨by omega, by rw [hAN]; omega, by rw [hAN]; simp; omega, by rw [hAN]; simp; omega⟩, ?_⟩
      (conv => whnf)
      refine ⟨by kernel_rfl, ?_⟩
      (conv => whnf)
      have hsl : V.sl fr 1 (List.drop (atB b : Int).toNat (List.take (IntKind.i64.wrap ((atB b : Int) + (numB b : Int))).toNat (List.map (fun x => [V.int .u8 x.toNat]) b))) = encB fr (valB b) := by
        rw [hAN, Int.toNat_natCast, Int.toNat_natCast, ← List.map_take, ← List.map_drop, List.drop_take, Nat.add_sub_cancel_left]
        rfl
      have hsr : V.sl fr 1 (List.drop (IntKind.i64.wrap ((atB b : Int) + (numB b : Int))).toNat (List.map (fun x => [V.int .u8 x.toNat]) b)) = encB fr (restB b) := by
        rw [hAN, Int.toNat_natCast, ← List.map_drop]
        rfl
      have hvl : (valB b).length ≤ 1000000 := by simp [valB]; omega
      refine callV_read (b := 0) (read4_ok fr (valB b) q a _ _ _ (encB_free _ _) .int .int) rfl (encB_free _ _) .int .int ⟨.ptr rfl (by omega), .eq_of hsl (encB_free _ _), .free (iptr_fn_free _), trivial⟩ fun c8 h8 hf8 hok => ?_
      obtain ⟨a0, a1, a2, a3, a4, a5, a6, a7, rfl⟩ := eight h8
      have ee : oneE b last = lowE 4 (valB b) := by
        rw [oneE, if_neg (by simp [hH]), n1']
      (conv => whnf)
      refine ⟨rfl, ?_⟩
      (conv => whnf)
      refine ⟨_, _, _, Ends.here, ?_⟩
      (conv => whnf)
      cases he : (lowE 4 (valB b) == 0) with
      | false =>
        have he' : lowE 4 (valB b) ≠ 0 := by simpa using he
        (conv => whnf)
        refine ⟨rfl, ⟨by rw [hAN]; omega, by rw [hAN]; simp; omega⟩, ?_⟩
        (conv => whnf)
        refine ⟨by kernel_rfl, ?_⟩
        (conv => whnf)
        exact Ends.oneE rfl (rest8_free hf8) ee.symm (by rw [ee]; exact he')
      | true =>
        have he' : lowE 4 (valB b) = 0 := by simpa using he
        have h8 := hok he'
        (conv => whnf)
        refine ⟨rfl, ⟨by rw [hAN]; omega, by rw [hAN]; simp; omega⟩, ?_⟩
        (conv => whnf)
        refine ⟨by kernel_rfl, ?_⟩
        (conv => whnf)
        refine Ends.oneK (cells' := readerV fr (restB b) 4 seen _ (lowA 4 a (valB b))) rfl (readerV_free _ _ _ _ _ _) ⟨.eq_of hsr (encB_free _ _), .int_of rfl, .int_of rfl, .of_eq h8 (cellsR_free _ _)⟩ ee.symm (fun _ => by rw [n1']; rfl)
    case succ.succ.succ.succ.zero =>
      (conv => whnf)
      refine ⟨rfl, _, ⟨by simp, rfl⟩, ?_⟩
      (conv => whnf)
      subst hasg hbody
      refine roundV_of tab_ok mixed rfl (by simp) (show 8 < 10 by omega) ?_
      (conv => whnf)
      refine ⟨rfl, ?_⟩
      (conv => whnf)
      split
      · rename_i hc
        have hc : x1.toNat ≠ 5 := by simp at hc; omega
        (conv => whnf)
        refine ⟨rfl, ?_⟩
        (conv => whnf)
        refine ⟨⟨4 + 1, by omega, ?_⟩, Wk.of id [] ⟨.yld rfl (by omega), .free attributesV_cap, .free attrV_free, .int_of rfl, .int_of rfl, trivial⟩ (LeH.of ⟨⟨by omega, .inl ⟨by simp, _, rfl, rfl, rfl, rfl, rfl, rfl, rfl, .ptr rfl (by omega), .ptr rfl (by omega), .ptr rfl (by omega), .ptr rfl (by omega), .ptr rfl (by omega), .ptr rfl (by omega), .ptr rfl (by omega), trivial⟩⟩,
          ⟨by omega, .inl ⟨by simp, _, rfl, LeB.free (blk := .var true 147 (readerV fr b last seen q a)) (readerV_free _ _ _ _ _ _)⟩⟩, ⟨by omega, .inl ⟨by simp, _, rfl, id, rfl, .ptr rfl (by omega), trivial⟩⟩, ⟨by omega, .inl ⟨by simp, _, rfl, id, rfl, .free .int, trivial⟩⟩, ⟨by omega, .inl ⟨by simp, _, rfl, id, rfl, .free .int, trivial⟩⟩,
          ⟨by omega, .inl ⟨by simp, _, rfl, id, rfl, .free .int, trivial⟩⟩, ⟨by omega, .inl ⟨by simp, _, rfl, id, rfl, .free .int, trivial⟩⟩, ⟨by omega, .inl ⟨by simp, _, rfl, id, rfl, .free .bool, trivial⟩⟩, ⟨by omega, .inl ⟨by simp, _, rfl, id, rfl, .free .int, trivial⟩⟩, trivial⟩ (fun _ _ _ _ h => h) (fun _ _ => rfl) (by omega) (by simp)), by simp only; omega⟩
        intro j hj
        rcases Nat.lt_or_ge j 4 with h | h
        · exact hne j h
        · obtain rfl : j = 4 := by omega
          exact fun e => hc e.symm
      rename_i hc
      have hc : x1.toNat = 5 := by simp at hc; omega
      obtain rfl : x1 = 5 := UInt8.toNat_inj.1 hc
      have n1' : byteN b 1 = 5 := by rw [n1]; rfl
      (conv => whnf)
      have hF : flagsI (byteN b 1) = 64 := by rw [n1']; rfl
      have hH := head_is (last := last) h h4 h3 (by rw [hF]; decide)
      rw [hF] at hH
      cases hf : (bits BinOp.andNot IntKind.u8 (x0.toNat : Int) 16 != 64)
      case true =>
        have e : oneE b last = 292 := by
          have : headE b last = 292 := by
            rw [hH, if_pos]
            left
            rw [andNot16 _ h0] at hf
            rw [n0, show lngB b = (x0.toNat / 16 % 2 == 1) by rw [lngB, n0]]
            simpa using hf
          simp [oneE, this]
        (conv => whnf)
        refine ⟨rfl, ?_⟩
        (conv => whnf)
        refine ⟨_, _, _, Ends.here, ?_⟩
        (conv => whnf)
        refine ⟨rfl, ⟨by rw [hAN]; omega, by rw [hAN]; simp; omega⟩, ?_⟩
        (conv => whnf)
        refine ⟨by kernel_rfl, ?_⟩
        (conv => whnf)
        exact Ends.oneE rfl (rest_free _ _ _ _ _ _) e.symm (by rw [e]; decide)
      have hf : (byteN b 0 : Int) - (if lngB b then 16 else 0) = 64 := by
        rw [andNot16 _ h0] at hf
        rw [n0, show lngB b = (x0.toNat / 16 % 2 == 1) by rw [lngB, n0]]
        simpa using hf
      (conv => whnf)
      split
      · rename_i hg
        have e : oneE b last = 292 := by
          have : headE b last = 292 := by
            rw [hH, if_pos]
            right
            rw [hd] at hg
            simpa using hg
          simp [oneE, this]
        (conv => whnf)
        refine ⟨rfl, ?_⟩
        (conv => whnf)
        refine ⟨_, _, _, Ends.here, ?_⟩
        (conv => whnf)
        refine ⟨rfl, ⟨by rw [hAN]; omega, by rw [hAN]; simp; omega⟩, ?_⟩
        (conv => whnf)
        refine ⟨by kernel_rfl, ?_⟩
        (conv => whnf)
        exact Ends.oneE rfl (rest_free _ _ _ _ _ _) e.symm (by rw [e]; decide)
      rename_i hg
      have hg : lngB b = decide (255 < numB b) := by rw [hd] at hg; simpa using hg
      rw [if_neg (by rintro (h | h) <;> contradiction)] at hH
      (conv => whnf)
      refine ⟨by kernel_rfl, ?_⟩
      (conv => whnf)
      split
      · rename_i hr
        have e : oneE b last = 293 := by
          have : headE b last = 293 := by
            rw [hH, if_pos]
            rw [n1']
            simp at hr
            omega
          simp [oneE, this]
        (conv => whnf)
        refine ⟨rfl, ?_⟩
        (conv => whnf)
        refine ⟨_, _, _, Ends.here, ?_⟩
        (conv => whnf)
        refine ⟨rfl, ⟨by rw [hAN]; omega, by rw [hAN]; simp; omega⟩, ?_⟩
        (conv => whnf)
        refine ⟨by kernel_rfl, ?_⟩
        (conv => whnf)
        exact Ends.oneE rfl (rest_free _ _ _ _ _ _) e.symm (by rw [e]; decide)
      rename_i hr
      have hr : ¬ 5 ≤ last := by simp at hr; omega
      rw [if_neg (by rw [n1']; exact hr)] at hH
      (conv => whnf)
      refine ⟨rfl, ⟨by omega, by rw [hAN]; omega, by rw [hAN]; simp; omega, by rw [hAN]; simp; omega⟩, ?_⟩
      (conv => whnf)
      refine ⟨by kernel_rfl, ?_⟩
      (conv => whnf)
      have hsl : V.sl fr 1 (List.drop (atB b : Int).toNat (List.take (IntKind.i64.wrap ((atB b : Int) + (numB b : Int))).toNat (List.map (fun x => [V.int .u8 x.toNat]) b))) = encB fr (valB b) := by
        rw [hAN, Int.toNat_natCast, Int.toNat_natCast, ← List.map_take, ← List.map_drop, List.drop_take, Nat.add_sub_cancel_left]
        rfl
      have hsr : V.sl fr 1 (List.drop (IntKind.i64.wrap ((atB b : Int) + (numB b : Int))).toNat (List.map (fun x => [V.int .u8 x.toNat]) b)) = encB fr (restB b) := by
        rw [hAN, Int.toNat_natCast, ← List.map_drop]
        rfl
      have hvl : (valB b).length ≤ 1000000 := by simp [valB]; omega
      refine callV_read (b := 0) (read5_ok fr (valB b) q a _ _ _ (encB_free _ _) .int .int) rfl (encB_free _ _) .int .int ⟨.ptr rfl (by omega), .eq_of hsl (encB_free _ _), .free (iptr_fn_free _), trivial⟩ fun c8 h8 hf8 hok => ?_
      obtain ⟨a0, a1, a2, a3, a4, a5, a6, a7, rfl⟩ := eight h8
      have ee : oneE b last = lowE 5 (valB b) := by
        rw [oneE, if_neg (by simp [hH]), n1']
      (conv => whnf)
      refine ⟨rfl, ?_⟩
      (conv => whnf)
      refine ⟨_, _, _, Ends.here, ?_⟩
      (conv => whnf)
      cases he : (lowE 5 (valB b) == 0) with
      | false =>
        have he' : lowE 5 (valB b) ≠ 0 := by simpa using he
        (conv => whnf)
        refine ⟨rfl, ⟨by rw [hAN]; omega, by rw [hAN]; simp; omega⟩, ?_⟩
        (conv => whnf)
        refine ⟨by kernel_rfl, ?_⟩
        (conv => whnf)
        exact Ends.oneE rfl (rest8_free hf8) ee.symm (by rw [ee]; exact he')
      | true =>
        have he' : lowE 5 (valB b) = 0 := by simpa using he
        have h8 := hok he'
        (conv => whnf)
        refine ⟨rfl, ⟨by rw [hAN]; omega, by rw [hAN]; simp; omega⟩, ?_⟩
        (conv => whnf)
        refine ⟨by kernel_rfl, ?_⟩
        (conv => whnf)
        refine Ends.oneK (cells' := readerV fr (restB b) 5 seen _ (lowA 5 a (valB b))) rfl (readerV_free _ _ _ _ _ _) ⟨.eq_of hsr (encB_free _ _), .int_of rfl, .int_of rfl, .of_eq h8 (cellsR_free _ _)⟩ ee.symm (fun _ => by rw [n1']; rfl)
    case succ.succ.succ.succ.succ.zero =>
      (conv => whnf)
      refine ⟨rfl, _, ⟨by simp, rfl⟩, ?_⟩
      (conv => whnf)
      subst hasg hbody
      refine roundV_of tab_ok mixed rfl (by simp) (show 8 < 10 by omega) ?_
      (conv => whnf)
      refine ⟨rfl, ?_⟩
      (conv => whnf)
      split
      · rename_i hc
        have hc : x1.toNat ≠ 8 := by simp at hc; omega
        (conv => whnf)
        refine ⟨rfl, ?_⟩
        (conv => whnf)
        refine ⟨⟨5 + 1, by omega, ?_⟩, Wk.of id [] ⟨.yld rfl (by omega), .free attributesV_cap, .free attrV_free, .int_of rfl, .int_of rfl, trivial⟩ (LeH.of ⟨⟨by omega, .inl ⟨by simp, _, rfl, rfl, rfl, rfl, rfl, rfl, rfl, .ptr rfl (by omega), .ptr rfl (by omega), .ptr rfl (by omega), .ptr rfl (by omega), .ptr rfl (by omega), .ptr rfl (by omega), .ptr rfl (by omega), trivial⟩⟩,
          ⟨by omega, .inl ⟨by simp, _, rfl, LeB.free (blk := .var true 147 (readerV fr b last seen q a)) (readerV_free _ _ _ _ _ _)⟩⟩, ⟨by omega, .inl ⟨by simp, _, rfl, id, rfl, .ptr rfl (by omega), trivial⟩⟩, ⟨by omega, .inl ⟨by simp, _, rfl, id, rfl, .free .int, trivial⟩⟩, ⟨by omega, .inl ⟨by simp, _, rfl, id, rfl, .free .int, trivial⟩⟩,
          ⟨by omega, .inl ⟨by simp, _, rfl, id, rfl, .free .int, trivial⟩⟩, ⟨by omega, .inl ⟨by simp, _, rfl, id, rfl, .free .int, trivial⟩⟩, ⟨by omega, .inl ⟨by simp, _, rfl, id, rfl, .free .bool, trivial⟩⟩, ⟨by omega, .inl ⟨by simp, _, rfl, id, rfl, .free .int, trivial⟩⟩, trivial⟩ (fun _ _ _ _ h => h) (fun _ _ => rfl) (by omega) (by simp)), by simp only; omega⟩
        intro j hj
        rcases Nat.lt_or_ge j 5 with h | h
        · exact hne j h
        · obtain rfl : j = 5 := by omega
          exact fun e => hc e.symm
      rename_i hc
      have hc : x1.toNat = 8 := by simp at hc; omega
      obtain rfl : x1 = 8 := UInt8.toNat_inj.1 hc
      have n1' : byteN b 1 = 8 := by rw [n1]; rfl
      (conv => whnf)
      have hF : flagsI (byteN b 1) = 192 := by rw [n1']; rfl
      have hH := head_is (last := last) h h4 h3 (by rw [hF]; decide)
      rw [hF] at hH
      cases hf : (bits BinOp.andNot IntKind.u8 (x0.toNat : Int) 16 != 192)
      case true =>
        have e : oneE b last = 292 := by
          have : headE b last = 292 := by
            rw [hH, if_pos]
            left
            rw [andNot16 _ h0] at hf
            rw [n0, show lngB b = (x0.toNat / 16 % 2 == 1) by rw [lngB, n0]]
            simpa using hf
          simp [oneE, this]
        (conv => whnf)
        refine ⟨rfl, ?_⟩
        (conv => whnf)
        refine ⟨_, _, _, Ends.here, ?_⟩
        (conv => whnf)
        refine ⟨rfl, ⟨by rw [hAN]; omega, by rw [hAN]; simp; omega⟩, ?_⟩
        (conv => whnf)
        refine ⟨by kernel_rfl, ?_⟩
        (conv => whnf)
        exact Ends.oneE rfl (rest_free _ _ _ _ _ _) e.symm (by rw [e]; decide)
      have hf : (byteN b 0 : Int) - (if lngB b then 16 else 0) = 192 := by
        rw [andNot16 _ h0] at hf
        rw [n0, show lngB b = (x0.toNat / 16 % 2 == 1) by rw [lngB, n0]]
        simpa using hf
      (conv => whnf)
      split
      · rename_i hg
        have e : oneE b last = 292 := by
          have : headE b last = 292 := by
            rw [hH, if_pos]
            right
            rw [hd] at hg
            simpa using hg
          simp [oneE, this]
        (conv => whnf)
        refine ⟨rfl, ?_⟩
        (conv => whnf)
        refine ⟨_, _, _, Ends.here, ?_⟩
        (conv => whnf)
        refine ⟨rfl, ⟨by rw [hAN]; omega, by rw [hAN]; simp; omega⟩, ?_⟩
        (conv => whnf)
        refine ⟨by kernel_rfl, ?_⟩
        (conv => whnf)
        exact Ends.oneE rfl (rest_free _ _ _ _ _ _) e.symm (by rw [e]; decide)
      rename_i hg
      have hg : lngB b = decide (255 < numB b) := by rw [hd] at hg; simpa using hg
      rw [if_neg (by rintro (h | h) <;> contradiction)] at hH
      (conv => whnf)
      refine ⟨by kernel_rfl, ?_⟩
      (conv => whnf)
      split
      · rename_i hr
        have e : oneE b last = 293 := by
          have : headE b last = 293 := by
            rw [hH, if_pos]
            rw [n1']
            simp at hr
            omega
          simp [oneE, this]
        (conv => whnf)
        refine ⟨rfl, ?_⟩
        (conv => whnf)
        refine ⟨_, _, _, Ends.here, ?_⟩
        (conv => whnf)
        refine ⟨rfl, ⟨by rw [hAN]; omega, by rw [hAN]; simp; omega⟩, ?_⟩
        (conv => whnf)
        refine ⟨by kernel_rfl, ?_⟩
        (conv => whnf)
        exact Ends.oneE rfl (rest_free _ _ _ _ _ _) e.symm (by rw [e]; decide)
      rename_i hr
      have hr : ¬ 8 ≤ last := by simp at hr; omega
      rw [if_neg (by rw [n1']; exact hr)] at hH
      (conv => whnf)
      refine ⟨rfl, ⟨by omega, by rw [hAN]; omega, by rw [hAN]; simp; omega, by rw [hAN]; simp; omega⟩, ?_⟩
      (conv => whnf)
      refine ⟨by kernel_rfl, ?_⟩
      (conv => whnf)
      have hsl : V.sl fr 1 (List.drop (atB b : Int).toNat (List.take (IntKind.i64.wrap ((atB b : Int) + (numB b : Int))).toNat (List.map (fun x => [V.int .u8 x.toNat]) b))) = encB fr (valB b) := by
        rw [hAN, Int.toNat_natCast, Int.toNat_natCast, ← List.map_take, ← List.map_drop, List.drop_take, Nat.add_sub_cancel_left]
        rfl
      have hsr : V.sl fr 1 (List.drop (IntKind.i64.wrap ((atB b : Int) + (numB b : Int))).toNat (List.map (fun x => [V.int .u8 x.toNat]) b)) = encB fr (restB b) := by
        rw [hAN, Int.toNat_natCast, ← List.map_drop]
        rfl
      have hvl : (valB b).length ≤ 1000000 := by simp [valB]; omega
      refine callV_read (b := 0) (read8_ok fr (valB b) hvl q a _ _ _ (encB_free _ _) .int .int) rfl (encB_free _ _) .int .int ⟨.ptr rfl (by omega), .eq_of hsl (encB_free _ _), trivial⟩ fun c8 h8 hf8 hok => ?_
      obtain ⟨a0, a1, a2, a3, a4, a5, a6, a7, rfl⟩ := eight h8
      have ee : oneE b last = lowE 8 (valB b) := by
        rw [oneE, if_neg (by simp [hH]), n1']
      (conv => whnf)
      refine ⟨rfl, ?_⟩
      (conv => whnf)
      refine ⟨_, _, _, Ends.here, ?_⟩
      (conv => whnf)
      cases he : (lowE 8 (valB b) == 0) with
      | false =>
        have he' : lowE 8 (valB b) ≠ 0 := by simpa using he
        (conv => whnf)
        refine ⟨rfl, ⟨by rw [hAN]; omega, by rw [hAN]; simp; omega⟩, ?_⟩
        (conv => whnf)
        refine ⟨by kernel_rfl, ?_⟩
        (conv => whnf)
        exact Ends.oneE rfl (rest8_free hf8) ee.symm (by rw [ee]; exact he')
      | true =>
        have he' : lowE 8 (valB b) = 0 := by simpa using he
        have h8 := hok he'
        (conv => whnf)
        refine ⟨rfl, ⟨by rw [hAN]; omega, by rw [hAN]; simp; omega⟩, ?_⟩
        (conv => whnf)
        refine ⟨by kernel_rfl, ?_⟩
        (conv => whnf)
        refine Ends.oneK (cells' := readerV fr (restB b) 8 seen _ (lowA 8 a (valB b))) rfl (readerV_free _ _ _ _ _ _) ⟨.eq_of hsr (encB_free _ _), .int_of rfl, .int_of rfl, .of_eq h8 (cellsR_free _ _)⟩ ee.symm (fun _ => by rw [n1']; rfl)
    case succ.succ.succ.succ.succ.succ.zero =>
      have hF := flags_none hne
      have e : oneE b last = 291 := by
        have : headE b last = 291 := by
          unfold headE
          rw [if_neg (by omega), if_neg (by rintro ⟨h1, h2⟩; have := h4 h1; omega), if_neg (by omega), if_pos (by rw [n1, hF]; decide)]
        simp [oneE, this]
      (conv => whnf)
      refine ⟨_, _, _, Ends.here, ?_⟩
      (conv => whnf)
      refine ⟨rfl, ⟨by rw [hAN]; omega, by rw [hAN]; simp; omega⟩, ?_⟩
      (conv => whnf)
      refine ⟨by kernel_rfl, ?_⟩
      (conv => whnf)
      exact Ends.oneE rfl (rest_free _ _ _ _ _ _) e.symm (by rw [e]; decide)
end Go.Proofs.YtehhligadnlijaaGreatDoor
set_option linter.unusedVariables false
set_option linter.unusedSimpArgs false
namespace Go.Proofs.YtehhligadnlijaaGreatDoor
open Go.RowKit
open Go.Proofs.Tryz (prog)
attribute [local irreducible] CallV RoundV
theorem callV_one {f : FuncId} {args : List V} {fr : Bool} {b : List UInt8} {last seen : Nat} {q : Bool} {a : Attrs} {h : Heap} {nx i : Nat} {K : V → Heap → Nat → Prop}
    (hc : CallV prog f [.ptr 0 0] [(0, some (.var true 147 (readerV fr b last seen q a)))] 1 (OneR fr b last seen q a)) (hb : hget h i = some (.var true 147 (readerV fr b last seen q a))) (ha : LeL h nx (fun _ => i) 1 [] args [.ptr 0 0])
    (hK : ∀ cells' : List V, (∀ x ∈ cells', Free x) → (oneE b last = 0 → cells' = readerV fr (restB b) (byteN b 1) (if byteN b 1 ≤ 3 then seen + 1 else seen) (q || byteN b 1 == 2) (lowA (byteN b 1) a (valB b))) →
      K (.int .i64 (oneE b last)) ((i, some (.var true 147 cells')) :: h) nx) : CallV prog f args h nx K := by
  refine callV_ptr (R := fun v' cells' => v' = .int .i64 (oneE b last) ∧ (∀ x ∈ cells', Free x) ∧ (oneE b last = 0 → cells' = readerV fr (restB b) (byteN b 1) (if byteN b 1 ≤ 3 then seen + 1 else seen) (q || byteN b 1 == 2) (lowA (byteN b 1) a (valB b)))) (hc.mono ?_) hb (readerV_free _ _ _ _ _ _) ha ?_
  · rintro v' h' nx' ⟨cells', rfl, hf, hok, rfl, rfl⟩
    exact ⟨_, ⟨rfl, hf, hok⟩, rfl, rfl⟩
  · rintro v' cells' ⟨rfl, hf, hok⟩
    exact ⟨.int, hf, hK cells' hf hok⟩
structure At (b : List UInt8) where
  rest : List UInt8
  last : Nat
  seen : Nat
  q : Bool
  a : Attrs
  law : parseA b 0 0 noA = parseA rest last seen a
  lim : last < 256
  cnt : seen + rest.length ≤ b.length
  nop : last < 2 → q = false
  nil : q = false → a.path = []
theorem oneE_zero {b : List UInt8} {last : Nat} (h : oneE b last = 0) : headE b last = 0 ∧ lowE (byteN b 1) (valB b) = 0 := by
  unfold oneE at h
  split at h
  · rename_i h1; exact absurd h h1
  · rename_i h1; exact ⟨by simpa using h1, h⟩
theorem parseA_err {b : List UInt8} {last seen : Nat} {a : Attrs} (hb : b ≠ []) (h : oneE b last ≠ 0) : parseA b last seen a = (noA, oneE b last) := by
  by_cases h1 : headE b last = 0
  · have : oneE b last = lowE (byteN b 1) (valB b) := by simp [oneE, h1]
    rw [this] at h ⊢
    exact parseA_low hb h1 h
  · have : oneE b last = headE b last := by simp [oneE, h1]
    rw [this]
    exact parseA_head hb h1
def At.next {b : List UInt8} (k : At b) (hb : k.rest ≠ []) (h : oneE k.rest k.last = 0) : At b where
  rest := restB k.rest
  last := byteN k.rest 1
  seen := if byteN k.rest 1 ≤ 3 then k.seen + 1 else k.seen
  q := k.q || byteN k.rest 1 == 2
  a := lowA (byteN k.rest 1) k.a (valB k.rest)
  law := k.law.trans (parseA_go hb (oneE_zero h).1 (oneE_zero h).2)
  lim := byteN_lt _ _
  cnt := by
    have := restB_lt hb
    have := k.cnt
    split <;> omega
  nop := fun hl => by
    have h1 : ¬ byteN k.rest 1 ≤ k.last := by
      have := (oneE_zero h).1
      unfold headE at this
      intro hle
      rw [if_pos hle] at this
      revert this
      repeat' split
      all_goals decide
    have h2 : k.q = false := k.nop (by omega)
    have h3 : (byteN k.rest 1 == 2) = false := by simp; omega
    rw [h2, h3]; rfl
  nil := fun hq => by
    have h1 : k.q = false := by cases hk : k.q with | false => rfl | true => rw [hk] at hq; cases hq
    have h2 : byteN k.rest 1 ≠ 2 := by intro e; rw [h1, e] at hq; cases hq
    have h3 := k.nil h1
    unfold lowA
    repeat' split
    all_goals first | exact h3 | contradiction
set_option maxRecDepth 100000 in
theorem parse_ok (fr : Bool) (b : List UInt8) (hb : b.length ≤ 1000000) : PCon prog 67 [encB fr b] (parseE true (parseA b 0 0 noA).1 (parseA b 0 0 noA).2) := by
  refine callV_of (fn := Go.Proofs.Tryz.f67) (body := _) tab_ok mixed rfl rfl (by decide) (by simp [Go.Proofs.Tryz.f67]) ?_
  (conv => whnf)
  refine vcg_loop tab_ok mixed (fun k : At b => ⟨[(2, .ptr 0 0), (4, .ptr 1 0)], [(0, some (.var true 45 zeroA)), (1, some (.var true 147 (readerV fr k.rest k.last k.seen k.q k.a)))], 2⟩) (fun k => k.rest.length) ⟨b, 0, 0, false, noA, rfl, by omega, by omega, fun _ => rfl, fun _ => rfl⟩ (Wk.of id [] ⟨.ptr rfl (by omega), .ptr rfl (by omega), trivial⟩ (LeH.of ⟨⟨by omega, .inl ⟨by simp, _, rfl, id, rfl, ?_⟩⟩, ⟨by omega, .inl ⟨by simp, _, rfl, id, rfl, ?_⟩⟩, trivial⟩ (fun _ _ _ _ h => h) (fun _ _ => rfl) (by omega) (by simp))) (fun k => ?_)
  · exact LeL.free zeroA_free
  · exact ⟨.free (encB_free _ _), .int_of rfl, .int_of rfl, .free .int, .free .snil, .free .int, .free .bool, .free .int, .free .bool, .free .int, .snil_sl, trivial⟩
  (conv => whnf)
  intro _
  (conv => whnf)
  split
  · rename_i hc
    have hne : k.rest ≠ [] := by intro e; rw [e] at hc; simp at hc
    (conv => whnf)
    refine callV_one (i := 1) (one_ok fr k.rest (by have := k.cnt; omega) k.last k.seen k.lim (by have := k.cnt; omega) k.q k.nop k.a) rfl ⟨.ptr rfl (by omega), trivial⟩ fun cells' hf hok => ?_
    (conv => whnf)
    cases he : (oneE k.rest k.last != 0) with
    | true =>
      have he' : oneE k.rest k.last ≠ 0 := by simpa using he
      have hp : parseA b 0 0 noA = (noA, oneE k.rest k.last) := k.law.trans (parseA_err hne he')
      (conv => whnf)
      rw [hp]
      exact Ends.pure [] (.tupL ⟨.noA, .int_of rfl, trivial⟩) (by simp)
    | false =>
      have he' : oneE k.rest k.last = 0 := by simpa using he
      (conv => whnf)
      refine ⟨k.next hne he', Wk.of id [] ⟨.ptr rfl (by omega), .ptr rfl (by omega), trivial⟩ (LeH.of ⟨⟨by omega, .inl ⟨by simp, _, rfl, id, rfl, LeL.free zeroA_free⟩⟩, ⟨by omega, .inl ⟨by simp, _, rfl, id, rfl, .of_eq (hok he') (readerV_free _ _ _ _ _ _)⟩⟩, trivial⟩ (fun _ _ _ _ h => h) (fun _ _ => rfl) (by omega) (by simp)), restB_lt hne⟩
  · rename_i hc
    have hnil : k.rest = [] := by simp at hc; exact hc
    have hl : parseA b 0 0 noA = if k.seen = 3 then (k.a, 0) else (noA, 299) := by rw [k.law, hnil, parseA_nil]
    (conv => whnf)
    cases h3 : ((k.seen : Int) != 3) with
    | true =>
      have h3' : k.seen ≠ 3 := by simp at h3; omega
      rw [if_neg h3'] at hl
      (conv => whnf)
      rw [hl]
      exact Ends.pure [] (.tupL ⟨.noA, .int_of rfl, trivial⟩) (by simp)
    | false =>
      have h3' : k.seen = 3 := by simp at h3; omega
      rw [if_pos h3'] at hl
      cases hq : k.q with
      | true =>
        (conv => whnf)
        rw [hl]
        exact Ends.pure [] (.tupL ⟨.eq_of rfl (encA_free true k.a), .int_of rfl, trivial⟩) (by simp)
      | false =>
        have hp := k.nil hq
        (conv => whnf)
        rw [hl]
        refine Ends.pure [] (.tupL ⟨.aggL ⟨.free .int, ?_, .free .int, .free .bool, .free .int, .free .bool, .free .int, .free (encW_free _ _), trivial⟩, .int_of rfl, trivial⟩) (by simp)
        show LeV _ _ _ _ _ .snil (encLegs true k.a.path)
        rw [hp]
        exact .snil_sl
end Go.Proofs.YtehhligadnlijaaGreatDoor
set_option linter.unusedVariables false
set_option linter.unusedSimpArgs false
namespace Go.Proofs.YtehhligadnlijaaGreatDoor
open Go.RowKit
open Go.Proofs.Tryz (prog)
attribute [local irreducible] CallV RoundV
theorem rawA_len {a : Attrs} (hf : fewA a = true) : (rawA a).length ≤ 20000 := by
  obtain ⟨hp, hpl, htl⟩ := fewA_out hf
  have hpb := pathB_len hp
  have al : ∀ {f c : UInt8} {v : List UInt8}, (attrB f c v).length ≤ 4 + v.length := fun {f c v} => by unfold attrB; split <;> simp <;> omega
  have h1 := al (f := 64) (c := 1) (v := [a.origin])
  have h2 := al (f := 64) (c := 2) (v := pathB a.path)
  have h3 := al (f := 64) (c := 3) (v := fourB a.next)
  have h4 : (if a.hasMed then attrB 128 4 (fourB a.med) else []).length ≤ 8 := by
    split
    · exact al
    · simp
  have h5 : (if a.hasPref then attrB 64 5 (fourB a.pref) else []).length ≤ 8 := by
    split
    · exact al
    · simp
  have h6 : (if 0 < a.tags.length then attrB 192 8 (allB a.tags) else []).length ≤ 244 := by
    split
    · have := al (f := 192) (c := 8) (v := allB a.tags)
      rw [allB_len] at this
      omega
    · simp
  have e3 : (fourB a.next).length = 4 := rfl
  have e1 : ([a.origin] : List UInt8).length = 1 := rfl
  simp only [rawA, rawO, List.length_append]
  omega
end Go.Proofs.YtehhligadnlijaaGreatDoor
set_option linter.unusedVariables false
set_option linter.unusedSimpArgs false
namespace Go.Proofs.YtehhligadnlijaaGreatDoor
open Go.RowKit
open Go.Proofs.Tryz (prog)
attribute [local irreducible] CallV RoundV
def Go (tn : Nat) (many : Int) (n : Nat) : Prop := tn = 0 → n = 0 ∨ (n : Int) < many
end Go.Proofs.YtehhligadnlijaaGreatDoor
set_option linter.unusedVariables false
set_option linter.unusedSimpArgs false
namespace Go.Proofs.YtehhligadnlijaaGreatDoor
open Go.RowKit
open Go.Proofs.Tryz (prog)
attribute [local irreducible] CallV RoundV
theorem w_eq {x y : UInt32} : ((x.toNat : Int) == (y.toNat : Int)) = (x == y) := by
  have := u32_neq (x := x) (y := y)
  simpa [bne] using this
theorem b_eq {x y : UInt8} : ((x.toNat : Int) == (y.toNat : Int)) = (x == y) := by
  have := u8_neq (x := x) (y := y)
  simpa [bne] using this
theorem take_step {α : Type} {l m : List α} {i : Nat} (h1 : i < l.length) (h2 : i < m.length) (hr : l.take i = m.take i) (he : l[i] = m[i]) : l.take (i + 1) = m.take (i + 1) := by
  rw [List.take_succ_eq_append_getElem h1, List.take_succ_eq_append_getElem h2, hr, he]
set_option maxRecDepth 100000 in
theorem equal_ok (fr fr' : Bool) (a b : List UInt32) : PCon prog 100 [encW fr a, encW fr' b] (.bool (decide (a = b))) := by
  refine callV_of (fn := Go.Proofs.Tryz.f100) (body := _) tab_ok mixed rfl rfl (by decide) (by simp [Go.Proofs.Tryz.f100]) ?_
  (conv => whnf)
  intro ha
  have ha : a.length ≤ maxLen := by simpa [gd] using ha
  (conv => whnf)
  intro hb
  (conv => whnf)
  split
  · rename_i hne
    (conv => whnf)
    refine Ends.pure [] (.bool_of ?_) (by simp)
    symm
    rw [decide_eq_false_iff_not]
    rintro rfl
    simp at hne
  · rename_i hne
    have hlen : a.length = b.length := by simp at hne; omega
    (conv => whnf)
    intro _
    (conv => whnf)
    refine vcg_loop tab_ok mixed (fun i : {i : Nat // i ≤ a.length ∧ a.take i = b.take i} => ⟨[(0, encW fr a), (1, encW fr' b), (12, cI a.length), (13, .int .i64 i.1)], [], 0⟩) (fun i => a.length - i.1) ⟨0, by omega, rfl⟩ (Wk.of id [] ⟨.free (encW_free _ _), .free (encW_free _ _), .int_of (by simp), .int_of rfl, trivial⟩ (LeH.nil (Nat.le_refl _) (fun b h => by omega) (by simp))) (fun i => ?_)
    obtain ⟨i, hi, hr⟩ := i
    (conv => whnf)
    split
    · rename_i hc
      have hc : i < a.length := by simpa using hc
      (conv => whnf)
      refine ⟨rfl, _, ⟨by first | omega | (simp only; omega), idxW hc⟩, ?_⟩
      (conv => whnf)
      refine ⟨rfl, _, ⟨by first | omega | (simp only; omega), idxW (show i < b.length by omega)⟩, ?_⟩
      (conv => whnf)
      refine ⟨by kernel_rfl, ?_⟩
      (conv => whnf)
      split
      · rename_i h1
        (conv => whnf)
        refine Ends.pure [] (.bool_of ?_) (by simp)
        symm
        rw [decide_eq_false_iff_not]
        rintro rfl
        simp at h1
      · rename_i h1
        have h1 : a[i] = b[i] := by
          simp at h1
          exact UInt32.toNat_inj.1 (by omega)
        (conv => whnf)
        exact ⟨⟨i + 1, by omega, take_step hc (by omega) hr h1⟩, Wk.of id [] ⟨.free (encW_free _ _), .free (encW_free _ _), .int_of rfl, .int_of (wrap64_succ hc ha), trivial⟩ (LeH.nil (Nat.le_refl _) (fun b h => by omega) (by simp)), by simp only; omega⟩
    · rename_i hc
      have hc : i = a.length := by simp at hc; omega
      subst hc
      rw [List.take_length, hlen, List.take_length] at hr
      (conv => whnf)
      refine Ends.pure [] (.bool_of ?_) (by simp)
      simp [hr]
set_option maxRecDepth 100000 in
theorem same1_ok (fr fr' : Bool) (p q : Leg) : PCon prog 99 [.agg (encLeg fr p), .agg (encLeg fr' q)] (.bool (decide (p = q))) := by
  obtain ⟨ps, pn⟩ := p
  obtain ⟨qs, qn⟩ := q
  refine callV_of (fn := Go.Proofs.Tryz.f99) (body := _) tab_ok mixed rfl rfl (by decide) (by simp [Go.Proofs.Tryz.f99]) ?_
  (conv => whnf)
  split
  · rename_i h
    have h : ps = qs := by simpa using h
    (conv => whnf)
    refine callV_pure (equal_ok fr fr' pn qn) ⟨.free (encW_free _ _), .free (encW_free _ _), trivial⟩ ?_
    (conv => whnf)
    refine Ends.pure [] (.bool_of ?_) (by simp)
    simp [h]
  · rename_i h
    have h : ps ≠ qs := by simpa using h
    (conv => whnf)
    refine Ends.pure [] (.bool_of ?_) (by simp)
    simp [h]
set_option maxRecDepth 100000 in
theorem equalFunc_ok (fr fr' : Bool) (a b : List Leg) : PCon prog 101 [encLegs fr a, encLegs fr' b, .fn (.func 99) [] []] (.bool (decide (a = b))) := by
  refine callV_of (fn := Go.Proofs.Tryz.f101) (body := _) tab_ok mixed rfl rfl (by decide) (by simp [Go.Proofs.Tryz.f101]) ?_
  (conv => whnf)
  intro ha
  have ha : a.length ≤ maxLen := by simpa [gd] using ha
  (conv => whnf)
  intro hb
  (conv => whnf)
  split
  · rename_i hne
    (conv => whnf)
    refine Ends.pure [] (.bool_of ?_) (by simp)
    symm
    rw [decide_eq_false_iff_not]
    rintro rfl
    simp at hne
  · rename_i hne
    have hlen : a.length = b.length := by simp at hne; omega
    (conv => whnf)
    intro _
    (conv => whnf)
    refine vcg_loop tab_ok mixed (fun i : {i : Nat // i ≤ a.length ∧ a.take i = b.take i} => ⟨[(1, encLegs fr' b), (2, .fn (.func 99) [] []), (15, encLegs fr a), (16, cI a.length), (17, .int .i64 i.1)], [], 0⟩) (fun i => a.length - i.1) ⟨0, by omega, rfl⟩ (Wk.of id [] ⟨.free (encLegs_free _ _), .free (.fn (by simp) (by simp)), .free (encLegs_free _ _), .int_of (by simp), .int_of rfl, trivial⟩ (LeH.nil (Nat.le_refl _) (fun b h => by omega) (by simp))) (fun i => ?_)
    obtain ⟨i, hi, hr⟩ := i
    (conv => whnf)
    split
    · rename_i hc
      have hc : i < a.length := by simpa using hc
      have hc' : i < b.length := by omega
      (conv => whnf)
      refine ⟨rfl, _, ⟨by first | omega | (simp only; omega), idxL hc⟩, ?_⟩
      (conv => whnf)
      refine ⟨rfl, _, ⟨by first | omega | (simp only; omega), idxL hc'⟩, ?_⟩
      (conv => whnf)
      refine callV_pure (same1_ok fr fr' a[i] b[i]) ⟨.free (.agg (encLeg_free _ _)), .free (.agg (encLeg_free _ _)), trivial⟩ ?_
      (conv => whnf)
      split
      · rename_i h1
        (conv => whnf)
        refine Ends.pure [] (.bool_of ?_) (by simp)
        symm
        rw [decide_eq_false_iff_not]
        rintro rfl
        simp at h1
      · rename_i h1
        have h1 : a[i] = b[i] := by simpa using h1
        (conv => whnf)
        exact ⟨⟨i + 1, by omega, take_step hc hc' hr h1⟩, Wk.of id [] ⟨.free (encLegs_free _ _), .free (.fn (by simp) (by simp)), .free (encLegs_free _ _), .int_of rfl, .int_of (wrap64_succ hc ha), trivial⟩ (LeH.nil (Nat.le_refl _) (fun b h => by omega) (by simp)), by simp only; omega⟩
    · rename_i hc
      have hc : i = a.length := by simp at hc; omega
      subst hc
      rw [List.take_length, hlen, List.take_length] at hr
      (conv => whnf)
      refine Ends.pure [] (.bool_of ?_) (by simp)
      simp [hr]
set_option maxRecDepth 100000 in
set_option maxHeartbeats 4000000 in
theorem same_ok (fr fr' : Bool) (a b : Attrs) : PCon prog 58 [encA fr a, encA fr' b] (.bool (sameA a b)) := by
  refine callV_of (fn := Go.Proofs.Tryz.f58) (body := _) tab_ok mixed rfl rfl (by decide) (by simp [Go.Proofs.Tryz.f58]) ?_
  have fin : ∀ {s : St} {r : Bool}, sameA a b = r → ∃ v1 h' nx', Ends 0 s (.bool r) v1 h' nx' ∧ (v1 = .bool (sameA a b) ∧ h' = [] ∧ nx' = 0) := fun h => Ends.pure [] (.bool_of h.symm) (by simp)
  (conv => whnf)
  repeat' first
    | refine fin ?_
    | (split <;> (conv => whnf))
    | (refine callV_pure (equalFunc_ok fr fr' a.path b.path) ⟨.free (encLegs_free _ _), .free (encLegs_free _ _), .free (.fn (by simp) (by simp)), trivial⟩ ?_; (conv => whnf))
    | (refine callV_pure (equal_ok fr fr' a.tags b.tags) ⟨.free (encW_free _ _), .free (encW_free _ _), trivial⟩ ?_; (conv => whnf))
  any_goals (clear fin; simp only [sameA, decide_eq_false_iff_not]; rintro rfl; simp_all; done)
  clear fin
  simp only [w_eq, b_eq, beq_iff_eq, decide_eq_true_eq] at *
  obtain ⟨o1, p1, n1, h1, m1, g1, q1, t1⟩ := a
  obtain ⟨o2, p2, n2, h2, m2, g2, q2, t2⟩ := b
  simp_all [sameA]
end Go.Proofs.YtehhligadnlijaaGreatDoor
set_option linter.unusedVariables false
set_option linter.unusedSimpArgs false
namespace Go.Proofs.YtehhligadnlijaaGreatDoor
open Go.RowKit
instance {fr p} : FreeLI (encLeg fr p) := ⟨⟨encLeg_free fr p⟩⟩
instance {fr} {l : List Leg} : FreeRI (l.map (encLeg fr)) := ⟨⟨rowsLegs_free fr l⟩⟩
instance {fr l} : FreeI (encLegs fr l) := ⟨⟨encLegs_free fr l⟩⟩
instance {fr a} : FreeLI (cellsA fr a) := ⟨⟨cellsA_free fr a⟩⟩
instance {fr a} : FreeI (encA fr a) := ⟨⟨encA_free fr a⟩⟩
instance : FreeLI zeroA := ⟨⟨zeroA_free⟩⟩
end Go.Proofs.YtehhligadnlijaaGreatDoor
set_option linter.unusedVariables false
set_option linter.unusedSimpArgs false
namespace Go.Proofs.YtehhligadnlijaaGreatDoor
open Go.RowKit Go.ChangeShapes Go.WideShapes
open Go.Proofs.Tryz (prog)
theorem rep_words : RepOk prog 43 (fun l : List UInt32 => [encW false l]) :=
  rep_slice (cells := fun x : UInt32 => [.int .u32 x.toNat]) Go.Proofs.Tryz.underlying43 (by kernel_rfl) (by decide) (fun _ => rfl) (rep_u32 Go.Proofs.Tryz.underlying22)
theorem vrs_join {G : Gh} {w : World} {vs : List V} {us : List Value} {v : V} {k n : Nat} (h : vrs G w vs (us.take n)) (hv : vrs G w [v] ((us.drop k).take 1)) (hk : k = n) (hn : n < us.length) : vrs G w (vs ++ [v]) (us.take (n + 1)) := by
  subst hk
  rw [List.take_succ_eq_append_getElem hn]
  refine h.append ?_
  rw [List.drop_eq_getElem_cons hn, List.take_succ_cons, List.take_zero] at hv
  exact hv
theorem one_join {us : List Value} {k n : Nat} (h : ∀ u ∈ us.take n, u.oneCell' = true) (hv : ∀ u ∈ (us.drop k).take 1, u.oneCell' = true) (hk : k = n) (hn : n < us.length) : ∀ u ∈ us.take (n + 1), u.oneCell' = true := by
  subst hk
  rw [List.take_succ_eq_append_getElem hn]
  intro u hu
  rcases List.mem_append.1 hu with hu | hu
  · exact h u hu
  · refine hv u ?_
    rw [List.drop_eq_getElem_cons hn, List.take_succ_cons, List.take_zero]
    exact hu
theorem vrs_take0 {G : Gh} {w : World} {us : List Value} : vrs G w [] (us.take 0) := by simp [vrs]
theorem field_at {H : Type} {enc : TypeId × Value → H} {w : World} {sp : Nat → Bool} {t : TypeId} {fs : Array Field} {fuel : Nat} {cs : List Value} {x : DataW H × List MemPlace} (ht : prog.underlying t = some (.struct fs)) (h : DataW.trod enc prog w 0 sp true fuel t cs = some x)
    (i : Nat) {f : Field} (hf : fs[i]? = some f) {α : Type} {cells : α → List V} (he : RepOk prog f.type cells) (ho : f.offset = i) (hz : prog.cellsOf f.type = 1) : ∃ a, vrs (G0 w) w (cells a) ((cs.drop i).take 1) ∧ ∀ u ∈ (cs.drop i).take 1, u.oneCell' = true := by
  have := field_of ht h hf he
  rw [ho, hz] at this
  exact this
theorem rep_leg : RepOk prog 92 (encLeg false) := fun enc w sp fuel cs x h => by
  have ht := Go.Proofs.Tryz.underlying92
  obtain ⟨xs, n, _, _, hlen, _, _⟩ := DataW.trod_struct ht h
  have hl : cs.length = 2 := hlen.trans (by kernel_rfl)
  obtain ⟨b, h0, o0⟩ := field_at ht h 0 rfl (rep_bool Go.Proofs.Tryz.underlying4) rfl (by kernel_rfl)
  obtain ⟨l, h1, o1⟩ := field_at ht h 1 rfl rep_words rfl (by kernel_rfl)
  have j1 := vrs_join (vrs_join vrs_take0 h0 rfl (by omega)) h1 rfl (by omega)
  have k1 := one_join (one_join (by simp) o0 rfl (by omega)) o1 rfl (by omega)
  rw [List.take_of_length_le (by omega)] at j1 k1
  exact ⟨⟨b, l⟩, j1, k1⟩
theorem rep_legs : RepOk prog 42 (fun l : List Leg => [encLegs false l]) :=
  rep_slice (cells := encLeg false) Go.Proofs.Tryz.underlying42 (by kernel_rfl) (by decide) (fun _ => rfl) rep_leg
theorem rep_attrs : RepOk prog 45 (cellsA false) := fun enc w sp fuel cs x h => by
  have ht := Go.Proofs.Tryz.underlying45
  obtain ⟨xs, n, _, _, hlen, _, _⟩ := DataW.trod_struct ht h
  have hl : cs.length = 8 := hlen.trans (by kernel_rfl)
  obtain ⟨a0, h0, o0⟩ := field_at ht h 0 rfl (rep_u8 Go.Proofs.Tryz.underlying5) rfl (by kernel_rfl)
  obtain ⟨a1, h1, o1⟩ := field_at ht h 1 rfl rep_legs rfl (by kernel_rfl)
  obtain ⟨a2, h2, o2⟩ := field_at ht h 2 rfl (rep_u32 Go.Proofs.Tryz.underlying22) rfl (by kernel_rfl)
  obtain ⟨a3, h3, o3⟩ := field_at ht h 3 rfl (rep_bool Go.Proofs.Tryz.underlying4) rfl (by kernel_rfl)
  obtain ⟨a4, h4, o4⟩ := field_at ht h 4 rfl (rep_u32 Go.Proofs.Tryz.underlying22) rfl (by kernel_rfl)
  obtain ⟨a5, h5, o5⟩ := field_at ht h 5 rfl (rep_bool Go.Proofs.Tryz.underlying4) rfl (by kernel_rfl)
  obtain ⟨a6, h6, o6⟩ := field_at ht h 6 rfl (rep_u32 Go.Proofs.Tryz.underlying22) rfl (by kernel_rfl)
  obtain ⟨a7, h7, o7⟩ := field_at ht h 7 rfl rep_words rfl (by kernel_rfl)
  have j := vrs_join (vrs_join (vrs_join (vrs_join (vrs_join (vrs_join (vrs_join (vrs_join vrs_take0 h0 rfl (by omega)) h1 rfl (by omega)) h2 rfl (by omega)) h3 rfl (by omega)) h4 rfl (by omega)) h5 rfl (by omega)) h6 rfl (by omega)) h7 rfl (by omega)
  have k := one_join (one_join (one_join (one_join (one_join (one_join (one_join (one_join (by simp) o0 rfl (by omega)) o1 rfl (by omega)) o2 rfl (by omega)) o3 rfl (by omega)) o4 rfl (by omega)) o5 rfl (by omega)) o6 rfl (by omega)) o7 rfl (by omega)
  rw [List.take_of_length_le (by omega)] at j k
  exact ⟨⟨a0, a1, a2, a3, a4, a5, a6, a7⟩, j, k⟩
theorem laidOut : laidOutB prog = true := by kernel_rfl
theorem own : ownKnob prog.godebug = none := by kernel_rfl
end Go.Proofs.YtehhligadnlijaaGreatDoor
set_option linter.unusedVariables false
set_option linter.unusedSimpArgs false
namespace Go.Proofs.YtehhligadnlijaaGreatDoor
open Go.RowKit
open Go.Proofs.Tryz (prog)
structure Prefix where
  addr : UInt32
  len : UInt8
deriving DecidableEq
def cellsP (p : Prefix) : List V := [cW p.addr, cB p.len]
def encP (p : Prefix) : V := .agg (cellsP p)
theorem cellsP_free (p : Prefix) : ∀ v ∈ cellsP p, Free v := by
  intro v hv
  simp only [cellsP, List.mem_cons, List.not_mem_nil, or_false] at hv
  rcases hv with rfl | rfl <;> exact .int
theorem encP_free (p : Prefix) : Free (encP p) := .agg (cellsP_free p)
instance {p} : FreeLI (cellsP p) := ⟨⟨cellsP_free p⟩⟩
instance {p} : FreeI (encP p) := ⟨⟨encP_free p⟩⟩
def hostN (p : Prefix) : Nat := 32 - p.len.toNat
def prefOk (p : Prefix) : Bool := decide ((p.len.toNat : Int) ≤ 32) && decide (p.addr.toNat % 2 ^ hostN p = 0)
def coversP (p q : Prefix) : Bool := prefOk p && prefOk q && decide ((p.len.toNat : Int) ≤ (q.len.toNat : Int)) && decide (q.addr.toNat / 2 ^ hostN p = p.addr.toNat / 2 ^ hostN p)
def maskN (k : Nat) : Nat := 2 ^ 32 - 2 ^ k
theorem mask_shift {k : Nat} (h : k ≤ 32) : maskN k = (2 ^ (32 - k) - 1) <<< k := by
  rw [maskN, Nat.shiftLeft_eq, Nat.sub_mul, ← Nat.pow_add, Nat.one_mul]
  congr 2
  omega
theorem and_mask {x k : Nat} (hx : x < 2 ^ 32) (h : k ≤ 32) : x &&& maskN k = x / 2 ^ k * 2 ^ k := by
  rw [mask_shift h, ← Nat.shiftLeft_eq, ← Nat.shiftRight_eq_div_pow]
  apply Nat.eq_of_testBit_eq
  intro i
  simp only [Nat.testBit_and, Nat.testBit_shiftLeft, Nat.testBit_two_pow_sub_one, Nat.testBit_shiftRight]
  by_cases hk : k ≤ i
  · rw [show k + (i - k) = i by omega]
    by_cases hi : i < 32
    · simp [hk, show i - k < 32 - k by omega]
    · have : x.testBit i = false := Nat.testBit_lt_two_pow (Nat.lt_of_lt_of_le hx (Nat.pow_le_pow_right (by decide) (by omega)))
      simp [this]
  · simp [hk]
theorem mask_lt (k : Nat) : maskN k < 2 ^ 32 := Nat.sub_lt (by decide) (Nat.two_pow_pos k)
theorem bits_and_mask (x : UInt32) {k : Nat} (h : k ≤ 32) : bits .and .u32 (x.toNat : Int) ((maskN k : Nat) : Int) = ((x.toNat / 2 ^ k * 2 ^ k : Nat) : Int) := by
  rw [(bits_nat .u32 32 (by decide) (fun n h0 h1 => by rw [wrap32]; omega) x.toNat (maskN k) x.toNat_lt (mask_lt k)).1, and_mask x.toNat_lt h]
theorem bits_andNot_mask (x : UInt32) {k : Nat} (h : k ≤ 32) : bits .andNot .u32 (x.toNat : Int) ((maskN k : Nat) : Int) = ((x.toNat % 2 ^ k : Nat) : Int) := by
  have hx : x.toNat % 2 ^ IntKind.u32.bits = x.toNat := Nat.mod_eq_of_lt x.toNat_lt
  have hm : maskN k % 2 ^ IntKind.u32.bits = maskN k := Nat.mod_eq_of_lt (mask_lt k)
  have hk : 2 ^ k ≤ 2 ^ 32 := Nat.pow_le_pow_right (by decide) h
  have hn : 2 ^ IntKind.u32.bits - 1 - maskN k = 2 ^ k - 1 := by
    have : 2 ^ IntKind.u32.bits = 2 ^ 32 := rfl
    have hp := Nat.two_pow_pos k
    rw [this, maskN]; omega
  have hlt : x.toNat % 2 ^ k ≤ x.toNat := Nat.mod_le _ _
  have hx2 := x.toNat_lt
  simp only [bits, BitVec.ofInt_natCast, BitVec.toNat_and, BitVec.toNat_not, BitVec.toNat_ofNat, hx, hm, hn]
  rw [Nat.and_two_pow_sub_one_eq_mod, wrap32]
  omega
theorem host_le (p : Prefix) : hostN p ≤ 32 := by unfold hostN; omega
end Go.Proofs.YtehhligadnlijaaGreatDoor
set_option linter.unusedVariables false
set_option linter.unusedSimpArgs false
namespace Go.Proofs.YtehhligadnlijaaGreatDoor
open Go.RowKit Go.ChangeShapes Go.WideShapes
open Go.Proofs.Tryz (prog)
theorem rep_prefix : RepOk prog 24 cellsP := fun enc w sp fuel cs x h => by
  have ht := Go.Proofs.Tryz.underlying24
  obtain ⟨xs, n, _, _, hlen, _, _⟩ := DataW.trod_struct ht h
  have hl : cs.length = 2 := hlen.trans (by kernel_rfl)
  obtain ⟨b, h0, o0⟩ := field_at ht h 0 rfl (rep_u32 Go.Proofs.Tryz.underlying22) rfl (by kernel_rfl)
  obtain ⟨l, h1, o1⟩ := field_at ht h 1 rfl (rep_u8 Go.Proofs.Tryz.underlying5) rfl (by kernel_rfl)
  have j1 := vrs_join (vrs_join vrs_take0 h0 rfl (by omega)) h1 rfl (by omega)
  have k1 := one_join (one_join (by simp) o0 rfl (by omega)) o1 rfl (by omega)
  rw [List.take_of_length_le (by omega)] at j1 k1
  exact ⟨⟨b, l⟩, j1, k1⟩
theorem arg_prefix : ArgOk prog 24 encP := arg_struct Go.Proofs.Tryz.underlying24 rep_prefix
theorem read_prefix : prog.readableRec 24 = true ∧ 24 < prog.types.size := ⟨by kernel_rfl, of_decide_eq_true (by kernel_rfl)⟩
end Go.Proofs.YtehhligadnlijaaGreatDoor
set_option linter.unusedVariables false
set_option linter.unusedSimpArgs false
namespace Go.Proofs.YtehhligadnlijaaGreatDoor
open Go.RowKit
open Go.Proofs.Tryz (prog)
attribute [local irreducible] CallV RoundV
theorem mask_val {n : Nat} (h : n < 256) : IntKind.u32.wrap (IntKind.u64.wrap (4294967296 - IntKind.u64.wrap (1 * 2 ^ (min (IntKind.u8.wrap (32 - (if (32 : Int) < n then 32 else (n : Int)))).toNat IntKind.u64.bits)))) = ((maskN (32 - n) : Nat) : Int) := by
  have key : ∀ m : Nat, m ≤ 32 → IntKind.u32.wrap (IntKind.u64.wrap (4294967296 - IntKind.u64.wrap (1 * 2 ^ (min (IntKind.u8.wrap (32 - (m : Int))).toNat IntKind.u64.bits)))) = ((maskN (32 - m) : Nat) : Int) := by
    intro m hm
    have hm' : m = 0 ∨ m = 1 ∨ m = 2 ∨ m = 3 ∨ m = 4 ∨ m = 5 ∨ m = 6 ∨ m = 7 ∨ m = 8 ∨ m = 9 ∨ m = 10 ∨ m = 11 ∨ m = 12 ∨ m = 13 ∨ m = 14 ∨ m = 15 ∨ m = 16 ∨ m = 17 ∨ m = 18 ∨ m = 19 ∨ m = 20 ∨ m = 21 ∨ m = 22 ∨ m = 23 ∨ m = 24 ∨ m = 25 ∨ m = 26 ∨ m = 27 ∨ m = 28 ∨ m = 29 ∨ m = 30 ∨ m = 31 ∨ m = 32 := by omega
    rcases hm' with rfl | rfl | rfl | rfl | rfl | rfl | rfl | rfl | rfl | rfl | rfl | rfl | rfl | rfl | rfl | rfl | rfl | rfl | rfl | rfl | rfl | rfl | rfl | rfl | rfl | rfl | rfl | rfl | rfl | rfl | rfl | rfl | rfl <;> decide
  split
  · rename_i hn
    have hn : 32 < n := by omega
    rw [show 32 - n = 32 - 32 by omega]
    exact key 32 (Nat.le_refl _)
  · exact key n (by omega)
set_option maxRecDepth 100000 in
theorem mask_ok (x : UInt8) : PCon prog 38 [cB x] (.int .u32 (maskN (32 - x.toNat) : Nat)) := by
  refine callV_of (fn := Go.Proofs.Tryz.f38) (body := _) tab_ok mixed rfl rfl (by decide) (by simp [Go.Proofs.Tryz.f38]) ?_
  (conv => whnf)
  refine ⟨by rw [wrap8]; omega, ?_⟩
  (conv => whnf)
  exact (Ends.pure [] (by first | exact .int_of (mask_val x.toNat_lt) | exact .ptr rfl (by omega) | exact .osl_of rfl (by omega) rfl | exact .fr rfl | exact LeL.fr rfl | exact .yld rfl (by omega) | exact .eptr rfl (by omega) | exact .osl0 | exact .snil_sl | exact .to_any | exact LeV.nineA | exact LeV.noA | (refine .tupL ?_; repeat' (first | exact True.intro | exact .int_of (mask_val x.toNat_lt) | exact .ptr rfl (by omega) | exact .osl_of rfl (by omega) rfl | exact .fr rfl | exact LeL.fr rfl | exact .yld rfl (by omega) | exact .eptr rfl (by omega) | exact .osl0 | exact .snil_sl | exact .to_any | exact LeV.nineA | exact LeV.noA | refine .aggL ?_ | refine ⟨?_, ?_⟩)) | (refine .aggL ?_; repeat' (first | exact True.intro | exact .int_of (mask_val x.toNat_lt) | exact .ptr rfl (by omega) | exact .osl_of rfl (by omega) rfl | exact .fr rfl | exact LeL.fr rfl | exact .yld rfl (by omega) | exact .eptr rfl (by omega) | exact .osl0 | exact .snil_sl | exact .to_any | exact LeV.nineA | exact LeV.noA | refine ⟨?_, ?_⟩))) (by simp))
set_option maxRecDepth 100000 in
theorem uRight_ok (p : Prefix) : PCon prog 12 [encP p] (.bool (prefOk p)) := by
  refine callV_of (fn := Go.Proofs.Tryz.f12) (body := _) tab_ok mixed rfl rfl (by decide) (by simp [Go.Proofs.Tryz.f12]) ?_
  (conv => whnf)
  cases h : decide ((p.len.toNat : Int) ≤ 32) with
  | false =>
    (conv => whnf)
    refine ⟨by kernel_rfl, ?_⟩
    (conv => whnf)
    exact (Ends.pure [] (by first | exact .bool_of (by simp [prefOk, h]) | exact .ptr rfl (by omega) | exact .osl_of rfl (by omega) rfl | exact .fr rfl | exact LeL.fr rfl | exact .yld rfl (by omega) | exact .eptr rfl (by omega) | exact .osl0 | exact .snil_sl | exact .to_any | exact LeV.nineA | exact LeV.noA | (refine .tupL ?_; repeat' (first | exact True.intro | exact .bool_of (by simp [prefOk, h]) | exact .ptr rfl (by omega) | exact .osl_of rfl (by omega) rfl | exact .fr rfl | exact LeL.fr rfl | exact .yld rfl (by omega) | exact .eptr rfl (by omega) | exact .osl0 | exact .snil_sl | exact .to_any | exact LeV.nineA | exact LeV.noA | refine .aggL ?_ | refine ⟨?_, ?_⟩)) | (refine .aggL ?_; repeat' (first | exact True.intro | exact .bool_of (by simp [prefOk, h]) | exact .ptr rfl (by omega) | exact .osl_of rfl (by omega) rfl | exact .fr rfl | exact LeL.fr rfl | exact .yld rfl (by omega) | exact .eptr rfl (by omega) | exact .osl0 | exact .snil_sl | exact .to_any | exact LeV.nineA | exact LeV.noA | refine ⟨?_, ?_⟩))) (by simp))
  | true =>
    (conv => whnf)
    refine ⟨_, [], fun h nx _ => pureV_pure (mask_ok p.len) ⟨.free .int, trivial⟩, by simp, ?_⟩
    (conv => whnf)
    refine ⟨by kernel_rfl, ?_⟩
    (conv => whnf)
    refine (Ends.pure [] (by first | exact .bool_of (by rw [prefOk, h, show 32 - p.len.toNat = hostN p from rfl, bits_andNot_mask _ (host_le p), Bool.true_and]; rw [Bool.eq_iff_iff]; simp only [beq_iff_eq, decide_eq_true_eq]; omega) | exact .ptr rfl (by omega) | exact .osl_of rfl (by omega) rfl | exact .fr rfl | exact LeL.fr rfl | exact .yld rfl (by omega) | exact .eptr rfl (by omega) | exact .osl0 | exact .snil_sl | exact .to_any | exact LeV.nineA | exact LeV.noA | (refine .tupL ?_; repeat' (first | exact True.intro | exact .bool_of (by rw [prefOk, h, show 32 - p.len.toNat = hostN p from rfl, bits_andNot_mask _ (host_le p), Bool.true_and]; rw [Bool.eq_iff_iff]; simp only [beq_iff_eq, decide_eq_true_eq]; omega) | exact .ptr rfl (by omega) | exact .osl_of rfl (by omega) rfl | exact .fr rfl | exact LeL.fr rfl | exact .yld rfl (by omega) | exact .eptr rfl (by omega) | exact .osl0 | exact .snil_sl | exact .to_any | exact LeV.nineA | exact LeV.noA | refine .aggL ?_ | refine ⟨?_, ?_⟩)) | (refine .aggL ?_; repeat' (first | exact True.intro | exact .bool_of (by rw [prefOk, h, show 32 - p.len.toNat = hostN p from rfl, bits_andNot_mask _ (host_le p), Bool.true_and]; rw [Bool.eq_iff_iff]; simp only [beq_iff_eq, decide_eq_true_eq]; omega) | exact .ptr rfl (by omega) | exact .osl_of rfl (by omega) rfl | exact .fr rfl | exact LeL.fr rfl | exact .yld rfl (by omega) | exact .eptr rfl (by omega) | exact .osl0 | exact .snil_sl | exact .to_any | exact LeV.nineA | exact LeV.noA | refine ⟨?_, ?_⟩))) (by simp))
theorem cover_eq {p q : Prefix} (h : prefOk p = true) : decide (q.addr.toNat / 2 ^ hostN p = p.addr.toNat / 2 ^ hostN p) = (((q.addr.toNat / 2 ^ hostN p * 2 ^ hostN p : Nat) : Int) == (p.addr.toNat : Int)) := by
  simp only [prefOk, Bool.and_eq_true, decide_eq_true_eq] at h
  have hd := Nat.div_add_mod p.addr.toNat (2 ^ hostN p)
  rw [h.2, Nat.add_zero, Nat.mul_comm] at hd
  rw [Bool.eq_iff_iff]
  simp only [decide_eq_true_eq, beq_iff_eq]
  constructor
  · intro e; rw [e, hd]
  · intro e
    have e : q.addr.toNat / 2 ^ hostN p * 2 ^ hostN p = p.addr.toNat := by omega
    rw [← hd] at e
    exact Nat.mul_right_cancel (Nat.two_pow_pos _) e
set_option maxRecDepth 100000 in
theorem uCovers_ok (p q : Prefix) : PCon prog 14 [encP p, encP q] (.bool (coversP p q)) := by
  refine callV_of (fn := Go.Proofs.Tryz.f14) (body := _) tab_ok mixed rfl rfl (by decide) (by simp [Go.Proofs.Tryz.f14]) ?_
  (conv => whnf)
  refine ⟨_, [], fun h nx _ => pureV_pure (uRight_ok p) ⟨.free (encP_free _), trivial⟩, by simp, ?_⟩
  cases h1 : prefOk p with
  | false =>
    (conv => whnf)
    refine ⟨by kernel_rfl, ?_⟩
    (conv => whnf)
    exact (Ends.pure [] (by first | exact .bool_of (by simp [coversP, h1]) | exact .ptr rfl (by omega) | exact .osl_of rfl (by omega) rfl | exact .fr rfl | exact LeL.fr rfl | exact .yld rfl (by omega) | exact .eptr rfl (by omega) | exact .osl0 | exact .snil_sl | exact .to_any | exact LeV.nineA | exact LeV.noA | (refine .tupL ?_; repeat' (first | exact True.intro | exact .bool_of (by simp [coversP, h1]) | exact .ptr rfl (by omega) | exact .osl_of rfl (by omega) rfl | exact .fr rfl | exact LeL.fr rfl | exact .yld rfl (by omega) | exact .eptr rfl (by omega) | exact .osl0 | exact .snil_sl | exact .to_any | exact LeV.nineA | exact LeV.noA | refine .aggL ?_ | refine ⟨?_, ?_⟩)) | (refine .aggL ?_; repeat' (first | exact True.intro | exact .bool_of (by simp [coversP, h1]) | exact .ptr rfl (by omega) | exact .osl_of rfl (by omega) rfl | exact .fr rfl | exact LeL.fr rfl | exact .yld rfl (by omega) | exact .eptr rfl (by omega) | exact .osl0 | exact .snil_sl | exact .to_any | exact LeV.nineA | exact LeV.noA | refine ⟨?_, ?_⟩))) (by simp))
  | true =>
  (conv => whnf)
  refine ⟨_, [], fun h nx _ => pureV_pure (uRight_ok q) ⟨.free (encP_free _), trivial⟩, by simp, ?_⟩
  cases h2 : prefOk q with
  | false =>
    (conv => whnf)
    refine ⟨by kernel_rfl, ?_⟩
    (conv => whnf)
    exact (Ends.pure [] (by first | exact .bool_of (by simp [coversP, h1, h2]) | exact .ptr rfl (by omega) | exact .osl_of rfl (by omega) rfl | exact .fr rfl | exact LeL.fr rfl | exact .yld rfl (by omega) | exact .eptr rfl (by omega) | exact .osl0 | exact .snil_sl | exact .to_any | exact LeV.nineA | exact LeV.noA | (refine .tupL ?_; repeat' (first | exact True.intro | exact .bool_of (by simp [coversP, h1, h2]) | exact .ptr rfl (by omega) | exact .osl_of rfl (by omega) rfl | exact .fr rfl | exact LeL.fr rfl | exact .yld rfl (by omega) | exact .eptr rfl (by omega) | exact .osl0 | exact .snil_sl | exact .to_any | exact LeV.nineA | exact LeV.noA | refine .aggL ?_ | refine ⟨?_, ?_⟩)) | (refine .aggL ?_; repeat' (first | exact True.intro | exact .bool_of (by simp [coversP, h1, h2]) | exact .ptr rfl (by omega) | exact .osl_of rfl (by omega) rfl | exact .fr rfl | exact LeL.fr rfl | exact .yld rfl (by omega) | exact .eptr rfl (by omega) | exact .osl0 | exact .snil_sl | exact .to_any | exact LeV.nineA | exact LeV.noA | refine ⟨?_, ?_⟩))) (by simp))
  | true =>
  (conv => whnf)
  cases h3 : decide ((p.len.toNat : Int) ≤ (q.len.toNat : Int)) with
  | false =>
    (conv => whnf)
    refine ⟨by kernel_rfl, ?_⟩
    (conv => whnf)
    exact (Ends.pure [] (by first | exact .bool_of (by simp only [coversP, h1, h2, h3]; rfl) | exact .ptr rfl (by omega) | exact .osl_of rfl (by omega) rfl | exact .fr rfl | exact LeL.fr rfl | exact .yld rfl (by omega) | exact .eptr rfl (by omega) | exact .osl0 | exact .snil_sl | exact .to_any | exact LeV.nineA | exact LeV.noA | (refine .tupL ?_; repeat' (first | exact True.intro | exact .bool_of (by simp only [coversP, h1, h2, h3]; rfl) | exact .ptr rfl (by omega) | exact .osl_of rfl (by omega) rfl | exact .fr rfl | exact LeL.fr rfl | exact .yld rfl (by omega) | exact .eptr rfl (by omega) | exact .osl0 | exact .snil_sl | exact .to_any | exact LeV.nineA | exact LeV.noA | refine .aggL ?_ | refine ⟨?_, ?_⟩)) | (refine .aggL ?_; repeat' (first | exact True.intro | exact .bool_of (by simp only [coversP, h1, h2, h3]; rfl) | exact .ptr rfl (by omega) | exact .osl_of rfl (by omega) rfl | exact .fr rfl | exact LeL.fr rfl | exact .yld rfl (by omega) | exact .eptr rfl (by omega) | exact .osl0 | exact .snil_sl | exact .to_any | exact LeV.nineA | exact LeV.noA | refine ⟨?_, ?_⟩))) (by simp))
  | true =>
  (conv => whnf)
  refine ⟨_, [], fun h nx _ => pureV_pure (mask_ok p.len) ⟨.free .int, trivial⟩, by simp, ?_⟩
  (conv => whnf)
  refine ⟨by kernel_rfl, ?_⟩
  (conv => whnf)
  exact (Ends.pure [] (by first | exact .bool_of (by rw [coversP, h1, h2, h3, show 32 - p.len.toNat = hostN p from rfl, bits_and_mask _ (host_le p), cover_eq h1]; rfl) | exact .ptr rfl (by omega) | exact .osl_of rfl (by omega) rfl | exact .fr rfl | exact LeL.fr rfl | exact .yld rfl (by omega) | exact .eptr rfl (by omega) | exact .osl0 | exact .snil_sl | exact .to_any | exact LeV.nineA | exact LeV.noA | (refine .tupL ?_; repeat' (first | exact True.intro | exact .bool_of (by rw [coversP, h1, h2, h3, show 32 - p.len.toNat = hostN p from rfl, bits_and_mask _ (host_le p), cover_eq h1]; rfl) | exact .ptr rfl (by omega) | exact .osl_of rfl (by omega) rfl | exact .fr rfl | exact LeL.fr rfl | exact .yld rfl (by omega) | exact .eptr rfl (by omega) | exact .osl0 | exact .snil_sl | exact .to_any | exact LeV.nineA | exact LeV.noA | refine .aggL ?_ | refine ⟨?_, ?_⟩)) | (refine .aggL ?_; repeat' (first | exact True.intro | exact .bool_of (by rw [coversP, h1, h2, h3, show 32 - p.len.toNat = hostN p from rfl, bits_and_mask _ (host_le p), cover_eq h1]; rfl) | exact .ptr rfl (by omega) | exact .osl_of rfl (by omega) rfl | exact .fr rfl | exact LeL.fr rfl | exact .yld rfl (by omega) | exact .eptr rfl (by omega) | exact .osl0 | exact .snil_sl | exact .to_any | exact LeV.nineA | exact LeV.noA | refine ⟨?_, ?_⟩))) (by simp))
def bitN (x : UInt32) (k : Nat) : Nat := x.toNat / 2 ^ k % 2
theorem tmod2 (d : Nat) : Int.tmod (d : Int) 2 = ((d % 2 : Nat) : Int) := by
  rw [Int.tmod_eq_emod_of_nonneg (by omega)]
  omega
theorem half_pow (x : UInt32) (k : Nat) : IntKind.u32.wrap (Int.tdiv ((x.toNat / 2 ^ k : Nat) : Int) 2) = ((x.toNat / 2 ^ (k + 1) : Nat) : Int) := by
  have hx := x.toNat_lt
  have h1 : x.toNat / 2 ^ k ≤ x.toNat := Nat.div_le_self _ _
  rw [Nat.pow_succ, ← Nat.div_div_eq_div_mul]
  generalize x.toNat / 2 ^ k = d at *
  rw [Int.tdiv_eq_ediv_of_nonneg (by omega), wrap32]
  omega
set_option maxRecDepth 100000 in
theorem bit_ok (x : UInt32) (i : Nat) (hi : i < 32) : PCon prog 39 [cW x, cI i] (.int .u32 (bitN x (31 - i) : Nat)) := by
  refine callV_of (fn := Go.Proofs.Tryz.f39) (body := _) tab_ok mixed rfl rfl (by decide) (by simp [Go.Proofs.Tryz.f39]) ?_
  (conv => whnf)
  refine vcg_loop tab_ok mixed (fun k : {k : Nat // k ≤ 31 - i} => ⟨[(0, .int .u32 (x.toNat / 2 ^ k.1 : Nat)), (1, cI i), (5, cI k.1)], [], 0⟩) (fun k => 31 - i - k.1) ⟨0, by omega⟩ (Wk.i (by repeat' (first | exact True.intro | exact id | exact rfl | decide | exact Nat.le_of_ble_eq_true rfl | exact .int_of (by simp) | exact .ptr rfl (by omega) | exact .osl_of rfl (by omega) rfl | exact .fr rfl | exact LeL.fr rfl | exact .yld rfl (by omega) | exact .eptr rfl (by omega) | exact .osl0 | exact .snil_sl | exact .to_any | exact LeV.nineA | exact LeV.noA | exact LeB.fr rfl id id | exact LeB.fr (by simp; done) id id | refine Or.inl ⟨by simp, _, rfl, ?_⟩ | exact Or.inr ⟨by simp, _, _, _, _, rfl⟩ | refine ⟨rfl, rfl, rfl, rfl, rfl, rfl, ?_⟩ | refine ⟨?_, ?_⟩)) (by omega)) (fun k => ?_)
  obtain ⟨k, hk⟩ := k
  have w1 : IntKind.i64.wrap (31 - (i : Int)) = ((31 - i : Nat) : Int) := by rw [wrap64] <;> omega
  (conv => whnf)
  split
  · rename_i hc
    have hc : k < 31 - i := by simp only [w1] at hc; simpa using hc
    have hx := x.toNat_lt
    (conv => whnf)
    refine ⟨by decide, ?_⟩
    (conv => whnf)
    refine ⟨⟨k + 1, by omega⟩, (Wk.i (by repeat' (first | exact True.intro | exact id | exact rfl | decide | exact Nat.le_of_ble_eq_true rfl | exact .int_of (half_pow x k) | exact .int_of (by simp only; rw [wrap64] <;> omega) | exact .ptr rfl (by omega) | exact .osl_of rfl (by omega) rfl | exact .fr rfl | exact LeL.fr rfl | exact .yld rfl (by omega) | exact .eptr rfl (by omega) | exact .osl0 | exact .snil_sl | exact .to_any | exact LeV.nineA | exact LeV.noA | exact LeB.fr rfl id id | exact LeB.fr (by simp; done) id id | refine Or.inl ⟨by simp, _, rfl, ?_⟩ | exact Or.inr ⟨by simp, _, _, _, _, rfl⟩ | refine ⟨rfl, rfl, rfl, rfl, rfl, rfl, ?_⟩ | refine ⟨?_, ?_⟩)) (by omega)), by simp only; omega⟩
  · rename_i hc
    have hc : k = 31 - i := by simp only [w1] at hc; simp at hc; omega
    subst hc
    (conv => whnf)
    refine ⟨by decide, ?_⟩
    (conv => whnf)
    exact (Ends.pure [] (by first | exact .int_of (by rw [bitN]; exact tmod2 _) | exact .ptr rfl (by omega) | exact .osl_of rfl (by omega) rfl | exact .fr rfl | exact LeL.fr rfl | exact .yld rfl (by omega) | exact .eptr rfl (by omega) | exact .osl0 | exact .snil_sl | exact .to_any | exact LeV.nineA | exact LeV.noA | (refine .tupL ?_; repeat' (first | exact True.intro | exact .int_of (by rw [bitN]; exact tmod2 _) | exact .ptr rfl (by omega) | exact .osl_of rfl (by omega) rfl | exact .fr rfl | exact LeL.fr rfl | exact .yld rfl (by omega) | exact .eptr rfl (by omega) | exact .osl0 | exact .snil_sl | exact .to_any | exact LeV.nineA | exact LeV.noA | refine .aggL ?_ | refine ⟨?_, ?_⟩)) | (refine .aggL ?_; repeat' (first | exact True.intro | exact .int_of (by rw [bitN]; exact tmod2 _) | exact .ptr rfl (by omega) | exact .osl_of rfl (by omega) rfl | exact .fr rfl | exact LeL.fr rfl | exact .yld rfl (by omega) | exact .eptr rfl (by omega) | exact .osl0 | exact .snil_sl | exact .to_any | exact LeV.nineA | exact LeV.noA | refine ⟨?_, ?_⟩))) (by simp))
theorem mod_bit (x : UInt32) {i : Nat} (hi : i < 32) : x.toNat % 2 ^ (32 - i) = x.toNat % 2 ^ (31 - i) + 2 ^ (31 - i) * bitN x (31 - i) := by
  rw [show 32 - i = (31 - i) + 1 by omega, Nat.mod_pow_succ]
  rfl
theorem div_bit (x : UInt32) {i : Nat} (hi : i < 32) : x.toNat / 2 ^ (31 - i) = 2 * (x.toNat / 2 ^ (32 - i)) + bitN x (31 - i) := by
  rw [show 32 - i = (31 - i) + 1 by omega, Nat.pow_succ, ← Nat.div_div_eq_div_mul, bitN]
  omega
def x32 (p : Prefix) (i : Nat) : Prop := p.addr.toNat % 2 ^ (32 - p.len.toNat) = p.addr.toNat % 2 ^ (32 - i)
def y32 (p q : Prefix) (i : Nat) : Prop := q.addr.toNat / 2 ^ (32 - i) = p.addr.toNat / 2 ^ (32 - i)
theorem y32_zero (p q : Prefix) : y32 p q 0 := by
  unfold y32
  rw [Nat.div_eq_of_lt q.addr.toNat_lt, Nat.div_eq_of_lt p.addr.toNat_lt]
theorem bits_of_div {p q : Prefix} {i : Nat} (e : q.addr.toNat / 2 ^ hostN p = p.addr.toNat / 2 ^ hostN p) (hi : i < p.len.toNat) (h32 : p.len.toNat ≤ 32) : bitN p.addr (31 - i) = bitN q.addr (31 - i) := by
  have key : ∀ x : Nat, x / 2 ^ (31 - i) = x / 2 ^ hostN p / 2 ^ (p.len.toNat - 1 - i) := by
    intro x
    rw [Nat.div_div_eq_div_mul, ← Nat.pow_add]
    congr 2
    unfold hostN
    omega
  unfold bitN
  rw [key, key, e]
set_option maxRecDepth 100000 in
theorem rRight_ok (p : Prefix) : PCon prog 13 [encP p] (.bool (prefOk p)) := by
  refine callV_of (fn := Go.Proofs.Tryz.f13) (body := _) tab_ok mixed rfl rfl (by decide) (by simp [Go.Proofs.Tryz.f13]) ?_
  (conv => whnf)
  split
  · rename_i h
    (conv => whnf)
    exact (Ends.pure [] (by first | exact .bool_of (by simp at h; simp [prefOk]; omega) | exact .ptr rfl (by omega) | exact .osl_of rfl (by omega) rfl | exact .fr rfl | exact LeL.fr rfl | exact .yld rfl (by omega) | exact .eptr rfl (by omega) | exact .osl0 | exact .snil_sl | exact .to_any | exact LeV.nineA | exact LeV.noA | (refine .tupL ?_; repeat' (first | exact True.intro | exact .bool_of (by simp at h; simp [prefOk]; omega) | exact .ptr rfl (by omega) | exact .osl_of rfl (by omega) rfl | exact .fr rfl | exact LeL.fr rfl | exact .yld rfl (by omega) | exact .eptr rfl (by omega) | exact .osl0 | exact .snil_sl | exact .to_any | exact LeV.nineA | exact LeV.noA | refine .aggL ?_ | refine ⟨?_, ?_⟩)) | (refine .aggL ?_; repeat' (first | exact True.intro | exact .bool_of (by simp at h; simp [prefOk]; omega) | exact .ptr rfl (by omega) | exact .osl_of rfl (by omega) rfl | exact .fr rfl | exact LeL.fr rfl | exact .yld rfl (by omega) | exact .eptr rfl (by omega) | exact .osl0 | exact .snil_sl | exact .to_any | exact LeV.nineA | exact LeV.noA | refine ⟨?_, ?_⟩))) (by simp))
  · rename_i h
    have h32 : p.len.toNat ≤ 32 := by simp at h; omega
    have hn : hostN p = 32 - p.len.toNat := rfl
    have w0 : IntKind.i64.wrap (p.len.toNat : Int) = (p.len.toNat : Int) := wrap64 (by omega) (by omega)
    (conv => whnf)
    refine vcg_loop tab_ok mixed (fun i : {i : Nat // i ≤ 32 ∧ x32 p i} => ⟨[(1, .ptr 0 0), (3, cI i.1)], [(0, some (.var true 24 (cellsP p)))], 1⟩) (fun i => 32 - i.1) ⟨p.len.toNat, h32, rfl⟩ (Wk.i (by repeat' (first | exact True.intro | exact id | exact rfl | decide | exact Nat.le_of_ble_eq_true rfl | exact .int_of w0 | exact .ptr rfl (by omega) | exact .osl_of rfl (by omega) rfl | exact .fr rfl | exact LeL.fr rfl | exact .yld rfl (by omega) | exact .eptr rfl (by omega) | exact .osl0 | exact .snil_sl | exact .to_any | exact LeV.nineA | exact LeV.noA | exact LeB.fr rfl id id | exact LeB.fr (by simp; done) id id | refine Or.inl ⟨by simp, _, rfl, ?_⟩ | exact Or.inr ⟨by simp, _, _, _, _, rfl⟩ | refine ⟨rfl, rfl, rfl, rfl, rfl, rfl, ?_⟩ | refine ⟨?_, ?_⟩)) (by omega)) (fun i => ?_)
    obtain ⟨i, hi, hx⟩ := i
    (conv => whnf)
    split
    · rename_i hc
      have hc : i < 32 := by simp at hc; omega
      (conv => whnf)
      refine callV_pure (bit_ok p.addr i hc) ⟨.free .int, .int_of rfl, trivial⟩ ?_
      (conv => whnf)
      have hb := mod_bit p.addr hc
      have hlt : bitN p.addr (31 - i) < 2 := Nat.mod_lt _ (by decide)
      split
      · rename_i h1
        have h1 : bitN p.addr (31 - i) = 1 := by simp at h1; omega
        have hp := Nat.two_pow_pos (31 - i)
        (conv => whnf)
        refine (Ends.pure [] (by first | exact .bool_of (by symm; simp only [prefOk, Bool.and_eq_false_iff]; right; rw [decide_eq_false_iff_not, hn]; intro h0; unfold x32 at hx; rw [hx, hb, h1] at h0; omega) | exact .ptr rfl (by omega) | exact .osl_of rfl (by omega) rfl | exact .fr rfl | exact LeL.fr rfl | exact .yld rfl (by omega) | exact .eptr rfl (by omega) | exact .osl0 | exact .snil_sl | exact .to_any | exact LeV.nineA | exact LeV.noA | (refine .tupL ?_; repeat' (first | exact True.intro | exact .bool_of (by symm; simp only [prefOk, Bool.and_eq_false_iff]; right; rw [decide_eq_false_iff_not, hn]; intro h0; unfold x32 at hx; rw [hx, hb, h1] at h0; omega) | exact .ptr rfl (by omega) | exact .osl_of rfl (by omega) rfl | exact .fr rfl | exact LeL.fr rfl | exact .yld rfl (by omega) | exact .eptr rfl (by omega) | exact .osl0 | exact .snil_sl | exact .to_any | exact LeV.nineA | exact LeV.noA | refine .aggL ?_ | refine ⟨?_, ?_⟩)) | (refine .aggL ?_; repeat' (first | exact True.intro | exact .bool_of (by symm; simp only [prefOk, Bool.and_eq_false_iff]; right; rw [decide_eq_false_iff_not, hn]; intro h0; unfold x32 at hx; rw [hx, hb, h1] at h0; omega) | exact .ptr rfl (by omega) | exact .osl_of rfl (by omega) rfl | exact .fr rfl | exact LeL.fr rfl | exact .yld rfl (by omega) | exact .eptr rfl (by omega) | exact .osl0 | exact .snil_sl | exact .to_any | exact LeV.nineA | exact LeV.noA | refine ⟨?_, ?_⟩))) (by simp))
      · rename_i h1
        have h1 : bitN p.addr (31 - i) = 0 := by simp at h1; omega
        (conv => whnf)
        refine ⟨⟨i + 1, by omega, ?_⟩, (Wk.i (by repeat' (first | exact True.intro | exact id | exact rfl | decide | exact Nat.le_of_ble_eq_true rfl | exact .int_of (by simp only; rw [wrap64] <;> omega) | exact .ptr rfl (by omega) | exact .osl_of rfl (by omega) rfl | exact .fr rfl | exact LeL.fr rfl | exact .yld rfl (by omega) | exact .eptr rfl (by omega) | exact .osl0 | exact .snil_sl | exact .to_any | exact LeV.nineA | exact LeV.noA | exact LeB.fr rfl id id | exact LeB.fr (by simp; done) id id | refine Or.inl ⟨by simp, _, rfl, ?_⟩ | exact Or.inr ⟨by simp, _, _, _, _, rfl⟩ | refine ⟨rfl, rfl, rfl, rfl, rfl, rfl, ?_⟩ | refine ⟨?_, ?_⟩)) (by omega)), by simp only; omega⟩
        unfold x32 at hx ⊢
        rw [hx, hb, h1, show 32 - (i + 1) = 31 - i by omega]
        omega
    · rename_i hc
      have hc : i = 32 := by simp at hc; omega
      subst hc
      (conv => whnf)
      refine (Ends.pure [] (by first | exact .bool_of (by symm; simp only [prefOk, Bool.and_eq_true, decide_eq_true_eq]; refine ⟨by omega, ?_⟩; rw [hn]; unfold x32 at hx; rw [hx]; exact Nat.mod_one _) | exact .ptr rfl (by omega) | exact .osl_of rfl (by omega) rfl | exact .fr rfl | exact LeL.fr rfl | exact .yld rfl (by omega) | exact .eptr rfl (by omega) | exact .osl0 | exact .snil_sl | exact .to_any | exact LeV.nineA | exact LeV.noA | (refine .tupL ?_; repeat' (first | exact True.intro | exact .bool_of (by symm; simp only [prefOk, Bool.and_eq_true, decide_eq_true_eq]; refine ⟨by omega, ?_⟩; rw [hn]; unfold x32 at hx; rw [hx]; exact Nat.mod_one _) | exact .ptr rfl (by omega) | exact .osl_of rfl (by omega) rfl | exact .fr rfl | exact LeL.fr rfl | exact .yld rfl (by omega) | exact .eptr rfl (by omega) | exact .osl0 | exact .snil_sl | exact .to_any | exact LeV.nineA | exact LeV.noA | refine .aggL ?_ | refine ⟨?_, ?_⟩)) | (refine .aggL ?_; repeat' (first | exact True.intro | exact .bool_of (by symm; simp only [prefOk, Bool.and_eq_true, decide_eq_true_eq]; refine ⟨by omega, ?_⟩; rw [hn]; unfold x32 at hx; rw [hx]; exact Nat.mod_one _) | exact .ptr rfl (by omega) | exact .osl_of rfl (by omega) rfl | exact .fr rfl | exact LeL.fr rfl | exact .yld rfl (by omega) | exact .eptr rfl (by omega) | exact .osl0 | exact .snil_sl | exact .to_any | exact LeV.nineA | exact LeV.noA | refine ⟨?_, ?_⟩))) (by simp))
set_option maxRecDepth 100000 in
theorem rCovers_ok (p q : Prefix) : PCon prog 15 [encP p, encP q] (.bool (coversP p q)) := by
  refine callV_of (fn := Go.Proofs.Tryz.f15) (body := _) tab_ok mixed rfl rfl (by decide) (by simp [Go.Proofs.Tryz.f15]) ?_
  (conv => whnf)
  refine callV_pure (rRight_ok p) ⟨.free (encP_free _), trivial⟩ ?_
  cases h1 : prefOk p with
  | false =>
    (conv => whnf)
    exact (Ends.pure [] (by first | exact .bool_of (by simp [coversP, h1]) | exact .ptr rfl (by omega) | exact .osl_of rfl (by omega) rfl | exact .fr rfl | exact LeL.fr rfl | exact .yld rfl (by omega) | exact .eptr rfl (by omega) | exact .osl0 | exact .snil_sl | exact .to_any | exact LeV.nineA | exact LeV.noA | (refine .tupL ?_; repeat' (first | exact True.intro | exact .bool_of (by simp [coversP, h1]) | exact .ptr rfl (by omega) | exact .osl_of rfl (by omega) rfl | exact .fr rfl | exact LeL.fr rfl | exact .yld rfl (by omega) | exact .eptr rfl (by omega) | exact .osl0 | exact .snil_sl | exact .to_any | exact LeV.nineA | exact LeV.noA | refine .aggL ?_ | refine ⟨?_, ?_⟩)) | (refine .aggL ?_; repeat' (first | exact True.intro | exact .bool_of (by simp [coversP, h1]) | exact .ptr rfl (by omega) | exact .osl_of rfl (by omega) rfl | exact .fr rfl | exact LeL.fr rfl | exact .yld rfl (by omega) | exact .eptr rfl (by omega) | exact .osl0 | exact .snil_sl | exact .to_any | exact LeV.nineA | exact LeV.noA | refine ⟨?_, ?_⟩))) (by simp))
  | true =>
  (conv => whnf)
  refine callV_pure (rRight_ok q) ⟨.free (encP_free _), trivial⟩ ?_
  cases h2 : prefOk q with
  | false =>
    (conv => whnf)
    exact (Ends.pure [] (by first | exact .bool_of (by simp [coversP, h1, h2]) | exact .ptr rfl (by omega) | exact .osl_of rfl (by omega) rfl | exact .fr rfl | exact LeL.fr rfl | exact .yld rfl (by omega) | exact .eptr rfl (by omega) | exact .osl0 | exact .snil_sl | exact .to_any | exact LeV.nineA | exact LeV.noA | (refine .tupL ?_; repeat' (first | exact True.intro | exact .bool_of (by simp [coversP, h1, h2]) | exact .ptr rfl (by omega) | exact .osl_of rfl (by omega) rfl | exact .fr rfl | exact LeL.fr rfl | exact .yld rfl (by omega) | exact .eptr rfl (by omega) | exact .osl0 | exact .snil_sl | exact .to_any | exact LeV.nineA | exact LeV.noA | refine .aggL ?_ | refine ⟨?_, ?_⟩)) | (refine .aggL ?_; repeat' (first | exact True.intro | exact .bool_of (by simp [coversP, h1, h2]) | exact .ptr rfl (by omega) | exact .osl_of rfl (by omega) rfl | exact .fr rfl | exact LeL.fr rfl | exact .yld rfl (by omega) | exact .eptr rfl (by omega) | exact .osl0 | exact .snil_sl | exact .to_any | exact LeV.nineA | exact LeV.noA | refine ⟨?_, ?_⟩))) (by simp))
  | true =>
  (conv => whnf)
  split
  · rename_i h3
    (conv => whnf)
    exact (Ends.pure [] (by first | exact .bool_of (by symm; simp only [coversP, h1, h2]; simp at h3; simp; intro h; omega) | exact .ptr rfl (by omega) | exact .osl_of rfl (by omega) rfl | exact .fr rfl | exact LeL.fr rfl | exact .yld rfl (by omega) | exact .eptr rfl (by omega) | exact .osl0 | exact .snil_sl | exact .to_any | exact LeV.nineA | exact LeV.noA | (refine .tupL ?_; repeat' (first | exact True.intro | exact .bool_of (by symm; simp only [coversP, h1, h2]; simp at h3; simp; intro h; omega) | exact .ptr rfl (by omega) | exact .osl_of rfl (by omega) rfl | exact .fr rfl | exact LeL.fr rfl | exact .yld rfl (by omega) | exact .eptr rfl (by omega) | exact .osl0 | exact .snil_sl | exact .to_any | exact LeV.nineA | exact LeV.noA | refine .aggL ?_ | refine ⟨?_, ?_⟩)) | (refine .aggL ?_; repeat' (first | exact True.intro | exact .bool_of (by symm; simp only [coversP, h1, h2]; simp at h3; simp; intro h; omega) | exact .ptr rfl (by omega) | exact .osl_of rfl (by omega) rfl | exact .fr rfl | exact LeL.fr rfl | exact .yld rfl (by omega) | exact .eptr rfl (by omega) | exact .osl0 | exact .snil_sl | exact .to_any | exact LeV.nineA | exact LeV.noA | refine ⟨?_, ?_⟩))) (by simp))
  · rename_i h3
    have h3 : p.len.toNat ≤ q.len.toNat := by simp at h3; omega
    have hp32 : p.len.toNat ≤ 32 := by simp only [prefOk, Bool.and_eq_true, decide_eq_true_eq] at h1; omega
    have w0 : IntKind.i64.wrap (p.len.toNat : Int) = (p.len.toNat : Int) := wrap64 (by omega) (by omega)
    (conv => whnf)
    refine vcg_loop tab_ok mixed (fun i : {i : Nat // i ≤ p.len.toNat ∧ y32 p q i} => ⟨[(2, .ptr 0 0), (3, .ptr 1 0), (5, cI i.1)], [(0, some (.var true 24 (cellsP p))), (1, some (.var true 24 (cellsP q)))], 2⟩) (fun i => 32 - i.1) ⟨0, by omega, y32_zero p q⟩ (Wk.i (by repeat' (first | exact True.intro | exact id | exact rfl | decide | exact Nat.le_of_ble_eq_true rfl | exact .ptr rfl (by omega) | exact .osl_of rfl (by omega) rfl | exact .fr rfl | exact LeL.fr rfl | exact .yld rfl (by omega) | exact .eptr rfl (by omega) | exact .osl0 | exact .snil_sl | exact .to_any | exact LeV.nineA | exact LeV.noA | exact LeB.fr rfl id id | exact LeB.fr (by simp; done) id id | refine Or.inl ⟨by simp, _, rfl, ?_⟩ | exact Or.inr ⟨by simp, _, _, _, _, rfl⟩ | refine ⟨rfl, rfl, rfl, rfl, rfl, rfl, ?_⟩ | refine ⟨?_, ?_⟩)) (by omega)) (fun i => ?_)
    obtain ⟨i, hi, hx⟩ := i
    (conv => whnf)
    split
    · rename_i hc
      have hc : i < p.len.toNat := by simp only [w0] at hc; simpa using hc
      (conv => whnf)
      refine ⟨_, [], fun h nx _ => pureV_pure (bit_ok p.addr i (by omega)) ⟨.free .int, .int_of rfl, trivial⟩, by simp, ?_⟩
      (conv => whnf)
      refine ⟨_, [], fun h nx _ => pureV_pure (bit_ok q.addr i (by omega)) ⟨.free .int, .int_of rfl, trivial⟩, by simp, ?_⟩
      (conv => whnf)
      refine ⟨by kernel_rfl, ?_⟩
      (conv => whnf)
      have hb := div_bit p.addr (i := i) (by omega)
      have hb' := div_bit q.addr (i := i) (by omega)
      unfold y32 at hx
      split
      · rename_i hne
        have hne : bitN p.addr (31 - i) ≠ bitN q.addr (31 - i) := by intro e; rw [e] at hne; simp at hne
        (conv => whnf)
        refine (Ends.pure [] (by first | exact .bool_of (by symm; simp only [coversP, h1, h2, Bool.true_and, Bool.and_eq_false_iff]; right; rw [decide_eq_false_iff_not]; intro e; exact hne (bits_of_div e hc hp32)) | exact .ptr rfl (by omega) | exact .osl_of rfl (by omega) rfl | exact .fr rfl | exact LeL.fr rfl | exact .yld rfl (by omega) | exact .eptr rfl (by omega) | exact .osl0 | exact .snil_sl | exact .to_any | exact LeV.nineA | exact LeV.noA | (refine .tupL ?_; repeat' (first | exact True.intro | exact .bool_of (by symm; simp only [coversP, h1, h2, Bool.true_and, Bool.and_eq_false_iff]; right; rw [decide_eq_false_iff_not]; intro e; exact hne (bits_of_div e hc hp32)) | exact .ptr rfl (by omega) | exact .osl_of rfl (by omega) rfl | exact .fr rfl | exact LeL.fr rfl | exact .yld rfl (by omega) | exact .eptr rfl (by omega) | exact .osl0 | exact .snil_sl | exact .to_any | exact LeV.nineA | exact LeV.noA | refine .aggL ?_ | refine ⟨?_, ?_⟩)) | (refine .aggL ?_; repeat' (first | exact True.intro | exact .bool_of (by symm; simp only [coversP, h1, h2, Bool.true_and, Bool.and_eq_false_iff]; right; rw [decide_eq_false_iff_not]; intro e; exact hne (bits_of_div e hc hp32)) | exact .ptr rfl (by omega) | exact .osl_of rfl (by omega) rfl | exact .fr rfl | exact LeL.fr rfl | exact .yld rfl (by omega) | exact .eptr rfl (by omega) | exact .osl0 | exact .snil_sl | exact .to_any | exact LeV.nineA | exact LeV.noA | refine ⟨?_, ?_⟩))) (by simp))
      · rename_i hne
        have hne : bitN p.addr (31 - i) = bitN q.addr (31 - i) := by simp at hne; omega
        (conv => whnf)
        refine ⟨⟨i + 1, by omega, ?_⟩, (Wk.i (by repeat' (first | exact True.intro | exact id | exact rfl | decide | exact Nat.le_of_ble_eq_true rfl | exact .int_of (by simp only; rw [wrap64] <;> omega) | exact .ptr rfl (by omega) | exact .osl_of rfl (by omega) rfl | exact .fr rfl | exact LeL.fr rfl | exact .yld rfl (by omega) | exact .eptr rfl (by omega) | exact .osl0 | exact .snil_sl | exact .to_any | exact LeV.nineA | exact LeV.noA | exact LeB.fr rfl id id | exact LeB.fr (by simp; done) id id | refine Or.inl ⟨by simp, _, rfl, ?_⟩ | exact Or.inr ⟨by simp, _, _, _, _, rfl⟩ | refine ⟨rfl, rfl, rfl, rfl, rfl, rfl, ?_⟩ | refine ⟨?_, ?_⟩)) (by omega)), by simp only; omega⟩
        unfold y32
        rw [show 32 - (i + 1) = 31 - i by omega, hb, hb', hx, hne]
    · rename_i hc
      have hc : i = p.len.toNat := by simp only [w0] at hc; simp at hc; omega
      subst hc
      (conv => whnf)
      refine (Ends.pure [] (by first | exact .bool_of (by symm; simp only [coversP, h1, h2, Bool.true_and, Bool.and_eq_true, decide_eq_true_eq]; exact ⟨by omega, hx⟩) | exact .ptr rfl (by omega) | exact .osl_of rfl (by omega) rfl | exact .fr rfl | exact LeL.fr rfl | exact .yld rfl (by omega) | exact .eptr rfl (by omega) | exact .osl0 | exact .snil_sl | exact .to_any | exact LeV.nineA | exact LeV.noA | (refine .tupL ?_; repeat' (first | exact True.intro | exact .bool_of (by symm; simp only [coversP, h1, h2, Bool.true_and, Bool.and_eq_true, decide_eq_true_eq]; exact ⟨by omega, hx⟩) | exact .ptr rfl (by omega) | exact .osl_of rfl (by omega) rfl | exact .fr rfl | exact LeL.fr rfl | exact .yld rfl (by omega) | exact .eptr rfl (by omega) | exact .osl0 | exact .snil_sl | exact .to_any | exact LeV.nineA | exact LeV.noA | refine .aggL ?_ | refine ⟨?_, ?_⟩)) | (refine .aggL ?_; repeat' (first | exact True.intro | exact .bool_of (by symm; simp only [coversP, h1, h2, Bool.true_and, Bool.and_eq_true, decide_eq_true_eq]; exact ⟨by omega, hx⟩) | exact .ptr rfl (by omega) | exact .osl_of rfl (by omega) rfl | exact .fr rfl | exact LeL.fr rfl | exact .yld rfl (by omega) | exact .eptr rfl (by omega) | exact .osl0 | exact .snil_sl | exact .to_any | exact LeV.nineA | exact LeV.noA | refine ⟨?_, ?_⟩))) (by simp))
end Go.Proofs.YtehhligadnlijaaGreatDoor
set_option linter.unusedVariables false
set_option linter.unusedSimpArgs false
namespace Go.Proofs.YtehhligadnlijaaGreatDoor
open Go.RowKit
open Go.Proofs.Tryz (prog)
attribute [local irreducible] CallV RoundV
def cmpI (a b : Int) : Int := if a < b then -1 else if b < a then 1 else 0
def orI (l : List Int) : Int := (l.find? (· != 0)).getD 0
def cmpP (p q : Prefix) : Int := orI [cmpI p.addr.toNat q.addr.toNat, cmpI p.len.toNat q.len.toNat]
set_option maxRecDepth 100000 in
theorem isNaN32_ok (x : UInt32) : PCon prog 76 [cW x] (.bool false) := by
  refine callV_of (fn := Go.Proofs.Tryz.f76) (body := _) tab_ok mixed rfl rfl (by decide) (by simp [Go.Proofs.Tryz.f76]) ?_
  (conv => whnf)
  exact (Ends.pure [] (by first | exact .bool_of (by simp) | exact .ptr rfl (by omega) | exact .osl_of rfl (by omega) rfl | exact .fr rfl | exact LeL.fr rfl | exact .yld rfl (by omega) | exact .eptr rfl (by omega) | exact .osl0 | exact .snil_sl | exact .to_any | (refine .tupL ?_; repeat' (first | exact True.intro | exact .bool_of (by simp) | exact .ptr rfl (by omega) | exact .osl_of rfl (by omega) rfl | exact .fr rfl | exact LeL.fr rfl | exact .yld rfl (by omega) | exact .eptr rfl (by omega) | exact .osl0 | exact .snil_sl | exact .to_any | refine .aggL ?_ | refine ⟨?_, ?_⟩)) | (refine .aggL ?_; repeat' (first | exact True.intro | exact .bool_of (by simp) | exact .ptr rfl (by omega) | exact .osl_of rfl (by omega) rfl | exact .fr rfl | exact LeL.fr rfl | exact .yld rfl (by omega) | exact .eptr rfl (by omega) | exact .osl0 | exact .snil_sl | exact .to_any | refine ⟨?_, ?_⟩))) (by simp))
set_option maxRecDepth 100000 in
theorem isNaN8_ok (x : UInt8) : PCon prog 77 [cB x] (.bool false) := by
  refine callV_of (fn := Go.Proofs.Tryz.f77) (body := _) tab_ok mixed rfl rfl (by decide) (by simp [Go.Proofs.Tryz.f77]) ?_
  (conv => whnf)
  exact (Ends.pure [] (by first | exact .bool_of (by simp) | exact .ptr rfl (by omega) | exact .osl_of rfl (by omega) rfl | exact .fr rfl | exact LeL.fr rfl | exact .yld rfl (by omega) | exact .eptr rfl (by omega) | exact .osl0 | exact .snil_sl | exact .to_any | (refine .tupL ?_; repeat' (first | exact True.intro | exact .bool_of (by simp) | exact .ptr rfl (by omega) | exact .osl_of rfl (by omega) rfl | exact .fr rfl | exact LeL.fr rfl | exact .yld rfl (by omega) | exact .eptr rfl (by omega) | exact .osl0 | exact .snil_sl | exact .to_any | refine .aggL ?_ | refine ⟨?_, ?_⟩)) | (refine .aggL ?_; repeat' (first | exact True.intro | exact .bool_of (by simp) | exact .ptr rfl (by omega) | exact .osl_of rfl (by omega) rfl | exact .fr rfl | exact LeL.fr rfl | exact .yld rfl (by omega) | exact .eptr rfl (by omega) | exact .osl0 | exact .snil_sl | exact .to_any | refine ⟨?_, ?_⟩))) (by simp))
set_option maxRecDepth 100000 in
theorem cmp32_ok (x y : UInt32) : PCon prog 41 [cW x, cW y] (.int .i64 (cmpI x.toNat y.toNat)) := by
  refine callV_of (fn := Go.Proofs.Tryz.f41) (body := _) tab_ok mixed rfl rfl (by decide) (by simp [Go.Proofs.Tryz.f41]) ?_
  (conv => whnf)
  refine callV_pure (isNaN32_ok x) ⟨.free .int, trivial⟩ ?_
  (conv => whnf)
  refine callV_pure (isNaN32_ok y) ⟨.free .int, trivial⟩ ?_
  (conv => whnf)
  split
  · rename_i h
    (conv => whnf)
    exact (Ends.pure [] (by first | exact .int_of (by rw [cmpI, if_pos (by simpa using h)]) | exact .ptr rfl (by omega) | exact .osl_of rfl (by omega) rfl | exact .fr rfl | exact LeL.fr rfl | exact .yld rfl (by omega) | exact .eptr rfl (by omega) | exact .osl0 | exact .snil_sl | exact .to_any | (refine .tupL ?_; repeat' (first | exact True.intro | exact .int_of (by rw [cmpI, if_pos (by simpa using h)]) | exact .ptr rfl (by omega) | exact .osl_of rfl (by omega) rfl | exact .fr rfl | exact LeL.fr rfl | exact .yld rfl (by omega) | exact .eptr rfl (by omega) | exact .osl0 | exact .snil_sl | exact .to_any | refine .aggL ?_ | refine ⟨?_, ?_⟩)) | (refine .aggL ?_; repeat' (first | exact True.intro | exact .int_of (by rw [cmpI, if_pos (by simpa using h)]) | exact .ptr rfl (by omega) | exact .osl_of rfl (by omega) rfl | exact .fr rfl | exact LeL.fr rfl | exact .yld rfl (by omega) | exact .eptr rfl (by omega) | exact .osl0 | exact .snil_sl | exact .to_any | refine ⟨?_, ?_⟩))) (by simp))
  · rename_i h
    (conv => whnf)
    split
    · rename_i h1
      (conv => whnf)
      exact (Ends.pure [] (by first | exact .int_of (by rw [cmpI, if_neg (by simpa using h), if_pos (by simpa using h1)]) | exact .ptr rfl (by omega) | exact .osl_of rfl (by omega) rfl | exact .fr rfl | exact LeL.fr rfl | exact .yld rfl (by omega) | exact .eptr rfl (by omega) | exact .osl0 | exact .snil_sl | exact .to_any | (refine .tupL ?_; repeat' (first | exact True.intro | exact .int_of (by rw [cmpI, if_neg (by simpa using h), if_pos (by simpa using h1)]) | exact .ptr rfl (by omega) | exact .osl_of rfl (by omega) rfl | exact .fr rfl | exact LeL.fr rfl | exact .yld rfl (by omega) | exact .eptr rfl (by omega) | exact .osl0 | exact .snil_sl | exact .to_any | refine .aggL ?_ | refine ⟨?_, ?_⟩)) | (refine .aggL ?_; repeat' (first | exact True.intro | exact .int_of (by rw [cmpI, if_neg (by simpa using h), if_pos (by simpa using h1)]) | exact .ptr rfl (by omega) | exact .osl_of rfl (by omega) rfl | exact .fr rfl | exact LeL.fr rfl | exact .yld rfl (by omega) | exact .eptr rfl (by omega) | exact .osl0 | exact .snil_sl | exact .to_any | refine ⟨?_, ?_⟩))) (by simp))
    · rename_i h1
      (conv => whnf)
      exact (Ends.pure [] (by first | exact .int_of (by rw [cmpI, if_neg (by simpa using h), if_neg (by simpa using h1)]) | exact .ptr rfl (by omega) | exact .osl_of rfl (by omega) rfl | exact .fr rfl | exact LeL.fr rfl | exact .yld rfl (by omega) | exact .eptr rfl (by omega) | exact .osl0 | exact .snil_sl | exact .to_any | (refine .tupL ?_; repeat' (first | exact True.intro | exact .int_of (by rw [cmpI, if_neg (by simpa using h), if_neg (by simpa using h1)]) | exact .ptr rfl (by omega) | exact .osl_of rfl (by omega) rfl | exact .fr rfl | exact LeL.fr rfl | exact .yld rfl (by omega) | exact .eptr rfl (by omega) | exact .osl0 | exact .snil_sl | exact .to_any | refine .aggL ?_ | refine ⟨?_, ?_⟩)) | (refine .aggL ?_; repeat' (first | exact True.intro | exact .int_of (by rw [cmpI, if_neg (by simpa using h), if_neg (by simpa using h1)]) | exact .ptr rfl (by omega) | exact .osl_of rfl (by omega) rfl | exact .fr rfl | exact LeL.fr rfl | exact .yld rfl (by omega) | exact .eptr rfl (by omega) | exact .osl0 | exact .snil_sl | exact .to_any | refine ⟨?_, ?_⟩))) (by simp))
set_option maxRecDepth 100000 in
theorem cmp8_ok (x y : UInt8) : PCon prog 42 [cB x, cB y] (.int .i64 (cmpI x.toNat y.toNat)) := by
  refine callV_of (fn := Go.Proofs.Tryz.f42) (body := _) tab_ok mixed rfl rfl (by decide) (by simp [Go.Proofs.Tryz.f42]) ?_
  (conv => whnf)
  refine callV_pure (isNaN8_ok x) ⟨.free .int, trivial⟩ ?_
  (conv => whnf)
  refine callV_pure (isNaN8_ok y) ⟨.free .int, trivial⟩ ?_
  (conv => whnf)
  split
  · rename_i h
    (conv => whnf)
    exact (Ends.pure [] (by first | exact .int_of (by rw [cmpI, if_pos (by simpa using h)]) | exact .ptr rfl (by omega) | exact .osl_of rfl (by omega) rfl | exact .fr rfl | exact LeL.fr rfl | exact .yld rfl (by omega) | exact .eptr rfl (by omega) | exact .osl0 | exact .snil_sl | exact .to_any | (refine .tupL ?_; repeat' (first | exact True.intro | exact .int_of (by rw [cmpI, if_pos (by simpa using h)]) | exact .ptr rfl (by omega) | exact .osl_of rfl (by omega) rfl | exact .fr rfl | exact LeL.fr rfl | exact .yld rfl (by omega) | exact .eptr rfl (by omega) | exact .osl0 | exact .snil_sl | exact .to_any | refine .aggL ?_ | refine ⟨?_, ?_⟩)) | (refine .aggL ?_; repeat' (first | exact True.intro | exact .int_of (by rw [cmpI, if_pos (by simpa using h)]) | exact .ptr rfl (by omega) | exact .osl_of rfl (by omega) rfl | exact .fr rfl | exact LeL.fr rfl | exact .yld rfl (by omega) | exact .eptr rfl (by omega) | exact .osl0 | exact .snil_sl | exact .to_any | refine ⟨?_, ?_⟩))) (by simp))
  · rename_i h
    (conv => whnf)
    split
    · rename_i h1
      (conv => whnf)
      exact (Ends.pure [] (by first | exact .int_of (by rw [cmpI, if_neg (by simpa using h), if_pos (by simpa using h1)]) | exact .ptr rfl (by omega) | exact .osl_of rfl (by omega) rfl | exact .fr rfl | exact LeL.fr rfl | exact .yld rfl (by omega) | exact .eptr rfl (by omega) | exact .osl0 | exact .snil_sl | exact .to_any | (refine .tupL ?_; repeat' (first | exact True.intro | exact .int_of (by rw [cmpI, if_neg (by simpa using h), if_pos (by simpa using h1)]) | exact .ptr rfl (by omega) | exact .osl_of rfl (by omega) rfl | exact .fr rfl | exact LeL.fr rfl | exact .yld rfl (by omega) | exact .eptr rfl (by omega) | exact .osl0 | exact .snil_sl | exact .to_any | refine .aggL ?_ | refine ⟨?_, ?_⟩)) | (refine .aggL ?_; repeat' (first | exact True.intro | exact .int_of (by rw [cmpI, if_neg (by simpa using h), if_pos (by simpa using h1)]) | exact .ptr rfl (by omega) | exact .osl_of rfl (by omega) rfl | exact .fr rfl | exact LeL.fr rfl | exact .yld rfl (by omega) | exact .eptr rfl (by omega) | exact .osl0 | exact .snil_sl | exact .to_any | refine ⟨?_, ?_⟩))) (by simp))
    · rename_i h1
      (conv => whnf)
      exact (Ends.pure [] (by first | exact .int_of (by rw [cmpI, if_neg (by simpa using h), if_neg (by simpa using h1)]) | exact .ptr rfl (by omega) | exact .osl_of rfl (by omega) rfl | exact .fr rfl | exact LeL.fr rfl | exact .yld rfl (by omega) | exact .eptr rfl (by omega) | exact .osl0 | exact .snil_sl | exact .to_any | (refine .tupL ?_; repeat' (first | exact True.intro | exact .int_of (by rw [cmpI, if_neg (by simpa using h), if_neg (by simpa using h1)]) | exact .ptr rfl (by omega) | exact .osl_of rfl (by omega) rfl | exact .fr rfl | exact LeL.fr rfl | exact .yld rfl (by omega) | exact .eptr rfl (by omega) | exact .osl0 | exact .snil_sl | exact .to_any | refine .aggL ?_ | refine ⟨?_, ?_⟩)) | (refine .aggL ?_; repeat' (first | exact True.intro | exact .int_of (by rw [cmpI, if_neg (by simpa using h), if_neg (by simpa using h1)]) | exact .ptr rfl (by omega) | exact .osl_of rfl (by omega) rfl | exact .fr rfl | exact LeL.fr rfl | exact .yld rfl (by omega) | exact .eptr rfl (by omega) | exact .osl0 | exact .snil_sl | exact .to_any | refine ⟨?_, ?_⟩))) (by simp))
abbrev rowsZ (l : List Int) : List (List V) := l.map fun x => [V.int .i64 x]
theorem rowsZ_free (l : List Int) : ∀ x ∈ rowsZ l, ∀ v ∈ x, Free v := by
  intro x hx v hv
  obtain ⟨n, _, rfl⟩ := List.mem_map.1 hx
  simp at hv; subst hv; exact .int
theorem encI_free (l : List Int) : Free (.sl false 1 (rowsZ l)) := .sl (rowsZ_free l)
theorem encI_cold (l : List Int) : Cold (.sl false 1 (rowsZ l)) := .sl (by
  intro x hx v hv
  obtain ⟨n, _, rfl⟩ := List.mem_map.1 hx
  simp at hv; subst hv; exact .int)
theorem idxI {l : List Int} {i : Nat} (h : i < l.length) : (rowsZ l)[(i : Int).toNat]? = some [.int .i64 l[i]] := by simp [rowsZ, h]
theorem orI_zero {l : List Int} {i : Nat} (h : i < l.length) (hz : (l.take i).all (· == 0) = true) (h0 : l[i] ≠ 0) : orI l = l[i] := by
  have e : l = l.take i ++ l[i] :: l.drop (i + 1) := by simp
  rw [orI]
  conv => lhs; rw [e]
  rw [List.find?_append, List.find?_eq_none.2 (by intro x hx; have := List.all_eq_true.1 hz x hx; simpa using this)]
  rw [Option.none_or, List.find?_cons_of_pos (by simpa using h0)]
  rfl
theorem orI_all {l : List Int} (hz : l.all (· == 0) = true) : orI l = 0 := by
  rw [orI, List.find?_eq_none.2 (by intro x hx; have := List.all_eq_true.1 hz x hx; simpa using this)]
  rfl
set_option maxRecDepth 100000 in
theorem or_ok (l : List Int) : PCon prog 40 [.sl false 1 (rowsZ l)] (.int .i64 (orI l)) := by
  refine callV_of (fn := Go.Proofs.Tryz.f40) (body := _) tab_ok mixed rfl rfl (by decide) (by simp [Go.Proofs.Tryz.f40]) ?_
  (conv => whnf)
  intro hl
  have hl : l.length ≤ maxLen := by simpa [gd] using hl
  (conv => whnf)
  refine vcg_loop tab_ok mixed (fun i : {i : Nat // i ≤ l.length ∧ (l.take i).all (· == 0) = true} => ⟨[(3, cI 0), (6, .sl false 1 (rowsZ l)), (7, cI l.length), (8, cI i.1)], [], 0⟩) (fun i => l.length - i.1) ⟨0, by omega, rfl⟩ (Wk.of id [] ⟨.int_of rfl, .free (encI_free _), .int_of (by simp), .int_of rfl, trivial⟩ (LeH.nil (Nat.le_refl _) (fun b h => by omega) (by simp))) (fun i => ?_)
  obtain ⟨i, hi, hz⟩ := i
  (conv => whnf)
  split
  · rename_i hc
    have hc : i < l.length := by simpa using hc
    (conv => whnf)
    refine ⟨rfl, _, ⟨by first | omega | (simp only; omega), idxI hc⟩, ?_⟩
    (conv => whnf)
    split
    · rename_i h1
      (conv => whnf)
      exact (Ends.pure [] (by first | exact .int_of (orI_zero hc hz (by simpa using h1)).symm | exact .ptr rfl (by omega) | exact .osl_of rfl (by omega) rfl | exact .fr rfl | exact LeL.fr rfl | exact .yld rfl (by omega) | exact .eptr rfl (by omega) | exact .osl0 | exact .snil_sl | exact .to_any | (refine .tupL ?_; repeat' (first | exact True.intro | exact .int_of (orI_zero hc hz (by simpa using h1)).symm | exact .ptr rfl (by omega) | exact .osl_of rfl (by omega) rfl | exact .fr rfl | exact LeL.fr rfl | exact .yld rfl (by omega) | exact .eptr rfl (by omega) | exact .osl0 | exact .snil_sl | exact .to_any | refine .aggL ?_ | refine ⟨?_, ?_⟩)) | (refine .aggL ?_; repeat' (first | exact True.intro | exact .int_of (orI_zero hc hz (by simpa using h1)).symm | exact .ptr rfl (by omega) | exact .osl_of rfl (by omega) rfl | exact .fr rfl | exact LeL.fr rfl | exact .yld rfl (by omega) | exact .eptr rfl (by omega) | exact .osl0 | exact .snil_sl | exact .to_any | refine ⟨?_, ?_⟩))) (by simp))
    · rename_i h1
      (conv => whnf)
      refine ⟨⟨i + 1, by omega, ?_⟩, Wk.of id [] ⟨.int_of rfl, .free (encI_free _), .int_of rfl, .int_of (wrap64_succ hc hl), trivial⟩ (LeH.nil (Nat.le_refl _) (fun b h => by omega) (by simp)), by simp only; omega⟩
      rw [List.take_succ_eq_append_getElem hc, List.all_append, hz]
      simpa using h1
  · rename_i hc
    have hc : i = l.length := by simp at hc; omega
    subst hc
    rw [List.take_length] at hz
    (conv => whnf)
    exact (Ends.pure [] (by first | exact .int_of (orI_all hz).symm | exact .ptr rfl (by omega) | exact .osl_of rfl (by omega) rfl | exact .fr rfl | exact LeL.fr rfl | exact .yld rfl (by omega) | exact .eptr rfl (by omega) | exact .osl0 | exact .snil_sl | exact .to_any | (refine .tupL ?_; repeat' (first | exact True.intro | exact .int_of (orI_all hz).symm | exact .ptr rfl (by omega) | exact .osl_of rfl (by omega) rfl | exact .fr rfl | exact LeL.fr rfl | exact .yld rfl (by omega) | exact .eptr rfl (by omega) | exact .osl0 | exact .snil_sl | exact .to_any | refine .aggL ?_ | refine ⟨?_, ?_⟩)) | (refine .aggL ?_; repeat' (first | exact True.intro | exact .int_of (orI_all hz).symm | exact .ptr rfl (by omega) | exact .osl_of rfl (by omega) rfl | exact .fr rfl | exact LeL.fr rfl | exact .yld rfl (by omega) | exact .eptr rfl (by omega) | exact .osl0 | exact .snil_sl | exact .to_any | refine ⟨?_, ?_⟩))) (by simp))
set_option maxRecDepth 100000 in
theorem uCompare_ok (p q : Prefix) : PCon prog 16 [encP p, encP q] (.int .i64 (cmpP p q)) := by
  refine callV_of (fn := Go.Proofs.Tryz.f16) (body := _) tab_ok mixed rfl rfl (by decide) (by simp [Go.Proofs.Tryz.f16]) ?_
  (conv => whnf)
  refine ⟨_, [], fun h nx _ => pureV_pure (cmp32_ok p.addr q.addr) ⟨.free .int, .free .int, trivial⟩, by simp, ?_⟩
  (conv => whnf)
  refine ⟨_, [], fun h nx _ => pureV_pure (cmp8_ok p.len q.len) ⟨.free .int, .free .int, trivial⟩, by simp, ?_⟩
  (conv => whnf)
  refine ⟨.int .i64 (cmpP p q), [(2, some (.arr true true 3 1 (rowsZ [cmpI p.addr.toNat q.addr.toNat, cmpI p.len.toNat q.len.toNat])))], fun h nx hrd => ?_, ?_, ?_⟩
  · have h2 := hrd 2 _ (List.mem_singleton.2 rfl)
    exact pureV_lend [2] (or_ok [cmpI p.addr.toNat q.addr.toNat, cmpI p.len.toNat q.len.toNat]) ⟨LeV.fresh_off (LeV.freeze_of (by simp) h2 (by simp) (rowsZ_free _) rfl), trivial⟩ (by intro v hv; obtain rfl := List.mem_singleton.1 hv; exact encI_cold _) (one_none h2) .int
  · intro b ob hm
    obtain ⟨rfl, rfl⟩ : b = 2 ∧ ob = _ := by simpa using hm
    rfl
  (conv => whnf)
  refine ⟨by kernel_rfl, ?_⟩
  (conv => whnf)
  exact (Ends.pure [] (by first | exact .ptr rfl (by omega) | exact .osl_of rfl (by omega) rfl | exact .fr rfl | exact LeL.fr rfl | exact .yld rfl (by omega) | exact .eptr rfl (by omega) | exact .osl0 | exact .snil_sl | exact .to_any) (by simp))
end Go.Proofs.YtehhligadnlijaaGreatDoor
set_option linter.unusedVariables false
set_option linter.unusedSimpArgs false
namespace Go.Proofs.YtehhligadnlijaaGreatDoor
open Go.RowKit
open Go.Proofs.Tryz (prog)
attribute [local irreducible] CallV RoundV
theorem tab_of {G : Gh} {h : Heap} {nx : Nat} {w : World} (hr : HR G h nx w) : Lib.TabIs prog w "internal/strconv.uint64pow10" .u64 Lib.pow10Tab := by
  obtain ⟨_, o, ho, t, fz, rfl⟩ := hr.gl (3, tabHolds .u64 Lib.pow10Tab) (by simp [glob])
  have ho : w.heap[3]? = some (.cells (Lib.pow10Tab.map fun z => Value.int .u64 z).toArray t fz) := ho
  unfold Lib.TabIs World.var?
  rw [show prog.globalNamed "internal/strconv.uint64pow10" = some 3 by kernel_rfl]
  simp only [Option.bind_some, ho]
theorem first_of {w : World} {g : Nat} {p : Value → Prop} (h : ∃ o, w.heap[g]? = some o ∧ firstIs p o) : ∃ v, w.cell? ⟨g, 0, none⟩ = some v ∧ p v := by
  obtain ⟨o, ho, cs, t, fz, v, rfl, hv, hp⟩ := h
  exact ⟨v, by simp [World.cell?, ho, hv], hp⟩
theorem max_of {G : Gh} {h : Heap} {nx : Nat} {w : World} (hr : HR G h nx w) : ∃ m, w.cell? ⟨0, 0, none⟩ = some (.int .i64 m) := by
  obtain ⟨v, h, m, rfl⟩ := first_of (hr.gl (0, firstIs fun v => ∃ m, v = .int .i64 m) (by simp [glob])).2
  exact ⟨m, h⟩
theorem err1_of {G : Gh} {h : Heap} {nx : Nat} {w : World} (hr : HR G h nx w) : ∃ v, w.cell? ⟨1, 0, none⟩ = some v ∧ anErr v := first_of (hr.gl (1, firstIs anErr) (by simp [glob])).2
theorem err2_of {G : Gh} {h : Heap} {nx : Nat} {w : World} (hr : HR G h nx w) : ∃ v, w.cell? ⟨2, 0, none⟩ = some v ∧ anErr v := first_of (hr.gl (2, firstIs anErr) (by simp [glob])).2
abbrev rowsS (l : List ByteArray) : List (List V) := l.map fun s => [V.str s]
def encS (fr : Bool) (l : List ByteArray) : V := .sl fr 1 (rowsS l)
theorem rowsS_all (l : List ByteArray) : ∀ x ∈ rowsS l, ∀ v ∈ x, Free v ∧ Cold v ∧ Fresh v := by
  intro x hx v hv
  obtain ⟨n, _, rfl⟩ := List.mem_map.1 hx
  simp at hv; subst hv; exact ⟨.str, .str, .str⟩
theorem rowsS_free (l : List ByteArray) : ∀ x ∈ rowsS l, ∀ v ∈ x, Free v := fun x hx v hv => (rowsS_all l x hx v hv).1
theorem encS_free (fr : Bool) (l : List ByteArray) : Free (encS fr l) := .sl (rowsS_free l)
theorem encS_cold (l : List ByteArray) : Cold (encS false l) := .sl fun x hx v hv => (rowsS_all l x hx v hv).2.1
theorem flat1 {α : Type} (f : α → V) : ∀ l : List α, (l.map fun x => [f x]).flatten = l.map f
  | [] => rfl
  | x :: l => by simp [flat1 f l]
theorem idxS {l : List ByteArray} {i : Nat} (h : i < l.length) : (rowsS l)[(i : Int).toNat]? = some [.str l[i]] := by simp [rowsS, h]
def itoaS (n : Int) : ByteArray := ⟨(Lib.itoa n).toArray⟩
theorem itoa_ok (n : Int) (h0 : -9223372036854775808 ≤ n) (h1 : n ≤ 9223372036854775807) : PCon prog 47 [.int .i64 n] (.str (itoaS n)) := by
  refine pcon_calls (fn := Go.Proofs.Tryz.f47) Go.Proofs.Tryz.func47 rfl (by decide) fun G w us hr hv => ?_
  obtain ⟨u, rfl, hu⟩ := vrs_one hv
  cases hu
  refine (Go.Proofs.Tryz.strconv_Itoa n h0 h1 w (tab_of hr)).mono ?_
  rintro e w' ⟨rfl, k, os, rfl⟩
  exact ⟨_, rfl, below_grow k os (Nat.le_refl _), .str _⟩
def joinS (l : List ByteArray) (sep : ByteArray) : ByteArray := ⟨(Lib.join (l.map (·.data.toList)) sep.data.toList).toArray⟩
theorem join_ok (fr : Bool) (l : List ByteArray) (sep : ByteArray) (hN : l.length ≤ 140737488355328) (hlen : (Lib.join (l.map (·.data.toList)) sep.data.toList).length ≤ 140737488355328) : PCon prog 48 [encS fr l, .str sep] (.str (joinS l sep)) := by
  refine pcon_calls (fn := Go.Proofs.Tryz.f48) Go.Proofs.Tryz.func48 rfl (by decide) fun G w us hr hv => ?_
  obtain ⟨u, u', rfl, hu, hu'⟩ := vrs_two hv
  cases hu'
  cases hu with
  | sl _ _ _ A cap us hcap hm hA hrow hc hvv =>
    by_cases h0 : l = []
    · subst h0
      refine (Go.Proofs.Tryz.strings_Join_none A cap sep w).mono ?_
      rintro e w' ⟨rfl, rfl⟩
      exact ⟨_, rfl, Below.refl _ _, .str _⟩
    · obtain ⟨⟨bk, o, sp⟩, rfl, hs⟩ := hA (by simpa using h0)
      have hs : sp = none := hs
      subst hs
      have hcell : ∀ (j : Nat) x, l[j]? = some x → imm G w fr ⟨bk, o + j, none⟩ (.string x) := by
        intro j x hj
        have hf : (rowsS l).flatten[j]? = some (.str x) := by rw [flat1]; simp [hj]
        have h1 := hvv j _ hf
        have h2 := hc j _ hf _ rfl
        cases h1' : us j <;> rw [h1'] at h1 <;> cases h1
        rw [h1'] at h2
        exact h2
      obtain ⟨x, l', rfl⟩ : ∃ x l', l = x :: l' := by cases l with | nil => exact absurd rfl h0 | cons x l' => exact ⟨x, l', rfl⟩
      have e : (rowsS (x :: l')).length = (x :: l').length := by simp
      rw [e] at hcap ⊢
      refine (Go.Proofs.Tryz.strings_Join bk o cap (x :: l') sep w (fun j y hj => (rd_cell rfl).symm.trans (hcell j y hj).1) (hr.amb_lt _ (hcell 0 x rfl).2.1) hN hcap hlen).mono ?_
      rintro e w' ⟨rfl, hB⟩
      exact ⟨_, rfl, hB, .str _⟩
def cutS (s sep : ByteArray) : V := .tup [.str ⟨(Lib.cut s.data.toList sep.data.toList).1.toArray⟩, .str ⟨(Lib.cut s.data.toList sep.data.toList).2.1.toArray⟩, .bool (Lib.cut s.data.toList sep.data.toList).2.2]
theorem cut_ok (s sep : ByteArray) (hs : s.size < 4294967281) : PCon prog 43 [.str s, .str sep] (cutS s sep) := by
  refine pcon_calls (fn := Go.Proofs.Tryz.f43) Go.Proofs.Tryz.func43 rfl (by decide) fun G w us hr hv => ?_
  obtain ⟨u, u', rfl, hu, hu'⟩ := vrs_two hv
  cases hu; cases hu'
  obtain ⟨m, hm⟩ := max_of hr
  refine (Go.Proofs.Tryz.strings_Cut s sep m w hs hm).mono ?_
  rintro e w' ⟨rfl, n, rfl⟩
  refine ⟨_, rfl, below_drewN n, .tup _ [_, _, _] rfl fun j v u h1 h2 => ?_⟩
  match j with
  | 0 => cases h1; cases h2; exact .str _
  | 1 => cases h1; cases h2; exact .str _
  | 2 => cases h1; cases h2; exact .bool _
  | j + 3 => cases h1
def splitS (s sep : ByteArray) : List ByteArray := Lib.splitB sep 0 (Lib.countB s sep) s
theorem split_ok (s sep : ByteArray) (hs : s.size < 4294967281) (h1 : 1 ≤ sep.size) (hl : (splitS s sep).length = Lib.countB s sep + 1) (hm : Lib.countB s sep + 1 ≤ maxLen) : PCon prog 44 [.str s, .str sep] (encS true (splitS s sep)) := by
  refine pcon_calls (fn := Go.Proofs.Tryz.f44) Go.Proofs.Tryz.func44 rfl (by decide) fun G w us hr hv => ?_
  obtain ⟨u, u', rfl, hu, hu'⟩ := vrs_two hv
  cases hu; cases hu'
  obtain ⟨m, hmx⟩ := max_of hr
  refine (Go.Proofs.Tryz.strings_Split s sep m w hs hmx h1).mono ?_
  rintro e w' ⟨rfl, rfl⟩
  refine ⟨_, rfl, (Below.refl _ _).alloc (Nat.le_refl _) _, ?_⟩
  have hn : (rowsS (splitS s sep)).length = Lib.countB s sep + 1 := by simp [hl]
  rw [← hn]
  have hk : ∀ (j : Nat) (v : V), (rowsS (splitS s sep)).flatten[j]? = some v → ∃ x, (splitS s sep)[j]? = some x ∧ v = .str x := by
    intro j v hj
    rw [flat1] at hj
    simp only [List.getElem?_map, Option.map_eq_some_iff] at hj
    obtain ⟨x, hx, rfl⟩ := hj
    exact ⟨x, hx, rfl⟩
  refine .sl true 1 _ _ _ (fun j => .string ((splitS s sep)[j]?.getD default)) (Nat.le_refl _) (by rw [hn]; exact hm) (fun _ => ⟨_, rfl, rfl⟩) (fun x hx => by obtain ⟨y, _, rfl⟩ := List.mem_map.1 hx; rfl) (fun j v hj ad had => ?_) (fun j v hj => ?_)
  · cases had
    obtain ⟨x, hx, rfl⟩ := hk j v hj
    have hh : (w.alloc (.cells ((splitS s sep).map Value.string).toArray 9)).heap[w.heap.size]? = some (.cells ((splitS s sep).map Value.string).toArray 9 (0, 0)) := heap_alloc_new w _
    refine ⟨?_, .inr ⟨Nat.le_refl _, by simp⟩, fun _ => ⟨hr.B_le, ?_⟩, fun _ => ?_⟩
    · rw [rd_cell rfl]
      show World.cell? _ ⟨w.heap.size, 0 + j, none⟩ = _
      have hx : (Lib.splitB sep 0 (Lib.countB s sep) s)[j]? = some x := hx
      simp only [World.cell?, Nat.zero_add]
      erw [hh]
      simp [hx, splitS]
    · simp only [World.frozen?]
      erw [hh]
      rfl
    · rfl
  · obtain ⟨x, hx, rfl⟩ := hk j v hj
    simp only [hx, Option.getD_some]
    exact .str x
def puV (s : ByteArray) : V := match Lib.parseUintB 8 s.data.toList with
  | .ok u => .tup [.int .u64 u, .nili]
  | .range => .tup [.int .u64 255, .ifc 155 .any]
  | _ => .tup [.int .u64 0, .ifc 155 .any]
theorem below_bytes {w : World} {e : TypeId} {s : ByteArray} : Below w.heap.size w (Lib.bytesWorld w e s) := by
  unfold Lib.bytesWorld
  exact Lib.below_freeze ((Below.drew (Below.refl _ _)).alloc (Nat.le_refl _) _) (Nat.le_refl _) _
theorem parseU_ok (s : ByteArray) (hs : s.size ≤ 281474976710656) : PCon prog 45 [.str s, .int .i64 10, .int .i64 8] (puV s) := by
  refine pcon_calls (fn := Go.Proofs.Tryz.f45) Go.Proofs.Tryz.func45 rfl (by decide) fun G w us hr hv => ?_
  obtain ⟨u, u', u2, rfl, hu, hu', hu2⟩ := vrs_three hv
  cases hu; cases hu'; cases hu2
  have two : ∀ {G : Gh} {w : World} {v v' : V} {x x' : Value}, vr G w v x → vr G w v' x' → vr G w (.tup [v, v']) (.tuple #[x, x']) := by
    intro G w v v' x x' h h'
    refine .tup _ [_, _] rfl fun j v u h1 h2 => ?_
    match j with
    | 0 => cases h1; cases h2; exact h
    | 1 => cases h1; cases h2; exact h'
    | j + 2 => cases h1
  unfold puV
  cases hp : Lib.parseUintB 8 s.data.toList with
  | ok u =>
    refine (Go.Proofs.Tryz.strconv_ParseUint_10_at8_ok s (by omega) u hp w).mono ?_
    rintro e w' ⟨rfl, hw⟩
    refine ⟨_, rfl, ?_, two (.int _ _) .nili⟩
    rcases hw with rfl | rfl
    · exact Below.refl _ _
    · exact below_bytes
  | range =>
    obtain ⟨ev, h1, h2⟩ := err2_of hr
    refine (Go.Proofs.Tryz.strconv_ParseUint_10_at8_range s hs hp ev w h1 h2).mono ?_
    rintro e w' ⟨N, rfl, _, _, hB⟩
    exact ⟨_, rfl, hB, two (.int _ _) (.ifc _ _ _ (.any _))⟩
  | _ =>
    obtain ⟨ev, h1, h2⟩ := err1_of hr
    refine (Go.Proofs.Tryz.strconv_ParseUint_10_at8_syntax s hs hp ev w h1 h2).mono ?_
    rintro e w' ⟨N, rfl, _, _, hB⟩
    exact ⟨_, rfl, hB, two (.int _ _) (.ifc _ _ _ (.any _))⟩
end Go.Proofs.YtehhligadnlijaaGreatDoor
set_option linter.unusedVariables false
set_option linter.unusedSimpArgs false
namespace Go.Proofs.YtehhligadnlijaaGreatDoor
open Go.RowKit
open Go.Proofs.Tryz (prog)
attribute [local irreducible] CallV RoundV
set_option maxRecDepth 100000 in
theorem uhigh_ok (x : UInt32) : PCon prog 46 [cW x, .int .i64 4] (encB true (fourB x)) := by
  refine callV_of (fn := Go.Proofs.Tryz.f46) (body := _) tab_ok mixed rfl rfl (by decide) (by simp [Go.Proofs.Tryz.f46]) ?_
  (conv => whnf)
  refine ⟨⟨by omega, by omega, by simp [tab, tabOf, nth], by omega⟩, ?_⟩
  (conv => whnf)
  refine callV_of (fn := Go.Proofs.Tryz.f82) (body := _) tab_ok mixed rfl rfl (by decide) (by simp [Go.Proofs.Tryz.f82]) ?_
  (conv => whnf)
  refine ⟨_, _, _, Ends.here, ?_⟩
  (conv => whnf)
  refine callV_loop [(2, .ptr 0 0), (5, .ptr 2 0)] ⟨rfl, rfl, trivial⟩ fun asg' body' hasg hbody => ?_
  refine callV_of (fn := Go.Proofs.Tryz.f122) (body := _) tab_ok mixed rfl rfl (by decide) (by simp [Go.Proofs.Tryz.f122]) ?_
  (conv => whnf)
  intro _
  (conv => whnf)
  refine vcg_loop tab_ok mixed (fun k : {k : Nat // k ≤ 4} => ⟨[(0, .yld 4), (1, .ptr 3 0), (3, .int .i64 (3 - k.1))], [(4, some (.loop 23 [(2, .ptr 0 0), (5, .ptr 2 0)] [11, 12] asg' body' .ready none)), (0, some (.var true 22 [.int .u32 (shr8 x k.1)])), (1, some (.arr true true 5 1 (highRows x k.1))), (2, some (.var true 50 [.osl 1 1 0 4])), (3, some (.var true 50 [.osl 1 1 0 4]))], 5⟩) (fun k => 4 - k.1) ⟨0, by omega⟩ ?_ (fun k => ?_)
  · refine Wk.of id [] ⟨?_, ?_, ?_, trivial⟩ (LeH.of ⟨⟨by omega, .inl ⟨by simp, _, rfl, ?_⟩⟩, ⟨by omega, .inl ⟨by simp, _, rfl, ?_⟩⟩, ⟨by omega, .inl ⟨by simp, _, rfl, ?_⟩⟩, ⟨by omega, .inl ⟨by simp, _, rfl, ?_⟩⟩, ⟨by omega, .inl ⟨by simp, _, rfl, ?_⟩⟩, trivial⟩ (fun _ _ _ _ h => h) (fun _ _ => rfl) (by omega) (by simp))
    · exact .yld rfl (by omega)
    · exact .ptr rfl (by omega)
    · exact .int_of rfl
    · exact ⟨rfl, rfl, rfl, rfl, rfl, rfl, .ptr rfl (by omega), .ptr rfl (by omega), trivial⟩
    · exact ⟨id, rfl, .int_of rfl, trivial⟩
    · exact LeB.free (blk := .arr true true 5 1 (highRows x 0)) (highRows_free x 0)
    · exact ⟨id, rfl, .osl_of rfl (by omega) rfl, trivial⟩
    · exact ⟨id, rfl, .osl_of rfl (by omega) rfl, trivial⟩
  obtain ⟨k, hk⟩ := k
  rcases k with _ | _ | _ | _ | _ | k
  case succ.succ.succ.succ.succ => omega
  case succ.succ.succ.succ.zero =>
    (conv => whnf)
    refine ⟨_, _, _, Ends.here, ?_⟩
    (conv => whnf)
    refine Ends.pure [1] ?_ ?_
    · refine LeV.freeze_of (by simp) rfl (by simp [highRows]) (highRows_free x 4) ?_
      simp [highRows, fourB]
    · intro z hz
      obtain rfl := List.mem_singleton.1 hz
      exact ne_none_of rfl
  · (conv => whnf)
    refine ⟨rfl, ⟨by simp, by simp⟩, ?_⟩
    (conv => whnf)
    refine ⟨rfl, _, rfl, ?_⟩
    (conv => whnf)
    subst hasg hbody
    refine roundV_of tab_ok mixed rfl (by simp) (show 4 < 5 by omega) ?_
    (conv => whnf)
    refine ⟨rfl, ?_⟩
    (conv => whnf)
    refine ⟨rfl, ⟨by simp, by simp⟩, ?_⟩
    (conv => whnf)
    refine ⟨rfl, _, rfl, ?_⟩
    (conv => whnf)
    refine ⟨by decide, ?_⟩
    (conv => whnf)
    refine ⟨rfl, ?_⟩
    (conv => whnf)
    refine ⟨⟨1, by omega⟩, Wk.of id [] ⟨.yld rfl (by omega), .ptr rfl (by omega), .int_of ?_, trivial⟩ (LeH.of ⟨⟨by omega, .inl ⟨by simp, _, rfl, rfl, rfl, rfl, rfl, rfl, rfl, .ptr rfl (by omega), .ptr rfl (by omega), trivial⟩⟩, ⟨by omega, .inl ⟨by simp, _, rfl, id, rfl, .int_of ?_, trivial⟩⟩, ⟨by omega, .inl ⟨by simp, _, rfl, LeB.eq_of ?_ (highRows_free x 1)⟩⟩, ⟨by omega, .inl ⟨by simp, _, rfl, id, rfl, .osl_of rfl (by omega) rfl, trivial⟩⟩, ⟨by omega, .inl ⟨by simp, _, rfl, id, rfl, .osl_of rfl (by omega) rfl, trivial⟩⟩, trivial⟩ (fun _ _ _ _ h => h) (fun _ _ => rfl) (by omega) (by simp)), ?_⟩
    · simp [wrap64']
    · refine sh_step ?_
      have := x.toNat_lt
      simp [UInt32.toNat_shiftRight, Nat.shiftRight_eq_div_pow, Nat.div_div_eq_div_mul] <;> omega
    · simp [highRows, shr8, cB, wrap8]
    · simp
  · (conv => whnf)
    refine ⟨rfl, ⟨by simp, by simp⟩, ?_⟩
    (conv => whnf)
    refine ⟨rfl, _, rfl, ?_⟩
    (conv => whnf)
    subst hasg hbody
    refine roundV_of tab_ok mixed rfl (by simp) (show 4 < 5 by omega) ?_
    (conv => whnf)
    refine ⟨rfl, ?_⟩
    (conv => whnf)
    refine ⟨rfl, ⟨by simp, by simp⟩, ?_⟩
    (conv => whnf)
    refine ⟨rfl, _, rfl, ?_⟩
    (conv => whnf)
    refine ⟨by decide, ?_⟩
    (conv => whnf)
    refine ⟨rfl, ?_⟩
    (conv => whnf)
    refine ⟨⟨2, by omega⟩, Wk.of id [] ⟨.yld rfl (by omega), .ptr rfl (by omega), .int_of ?_, trivial⟩ (LeH.of ⟨⟨by omega, .inl ⟨by simp, _, rfl, rfl, rfl, rfl, rfl, rfl, rfl, .ptr rfl (by omega), .ptr rfl (by omega), trivial⟩⟩, ⟨by omega, .inl ⟨by simp, _, rfl, id, rfl, .int_of ?_, trivial⟩⟩, ⟨by omega, .inl ⟨by simp, _, rfl, LeB.eq_of ?_ (highRows_free x 2)⟩⟩, ⟨by omega, .inl ⟨by simp, _, rfl, id, rfl, .osl_of rfl (by omega) rfl, trivial⟩⟩, ⟨by omega, .inl ⟨by simp, _, rfl, id, rfl, .osl_of rfl (by omega) rfl, trivial⟩⟩, trivial⟩ (fun _ _ _ _ h => h) (fun _ _ => rfl) (by omega) (by simp)), ?_⟩
    · simp [wrap64']
    · refine sh_step ?_
      have := x.toNat_lt
      simp [UInt32.toNat_shiftRight, Nat.shiftRight_eq_div_pow, Nat.div_div_eq_div_mul] <;> omega
    · simp [highRows, shr8, cB, wrap8]
    · simp
  · (conv => whnf)
    refine ⟨rfl, ⟨by simp, by simp⟩, ?_⟩
    (conv => whnf)
    refine ⟨rfl, _, rfl, ?_⟩
    (conv => whnf)
    subst hasg hbody
    refine roundV_of tab_ok mixed rfl (by simp) (show 4 < 5 by omega) ?_
    (conv => whnf)
    refine ⟨rfl, ?_⟩
    (conv => whnf)
    refine ⟨rfl, ⟨by simp, by simp⟩, ?_⟩
    (conv => whnf)
    refine ⟨rfl, _, rfl, ?_⟩
    (conv => whnf)
    refine ⟨by decide, ?_⟩
    (conv => whnf)
    refine ⟨rfl, ?_⟩
    (conv => whnf)
    refine ⟨⟨3, by omega⟩, Wk.of id [] ⟨.yld rfl (by omega), .ptr rfl (by omega), .int_of ?_, trivial⟩ (LeH.of ⟨⟨by omega, .inl ⟨by simp, _, rfl, rfl, rfl, rfl, rfl, rfl, rfl, .ptr rfl (by omega), .ptr rfl (by omega), trivial⟩⟩, ⟨by omega, .inl ⟨by simp, _, rfl, id, rfl, .int_of ?_, trivial⟩⟩, ⟨by omega, .inl ⟨by simp, _, rfl, LeB.eq_of ?_ (highRows_free x 3)⟩⟩, ⟨by omega, .inl ⟨by simp, _, rfl, id, rfl, .osl_of rfl (by omega) rfl, trivial⟩⟩, ⟨by omega, .inl ⟨by simp, _, rfl, id, rfl, .osl_of rfl (by omega) rfl, trivial⟩⟩, trivial⟩ (fun _ _ _ _ h => h) (fun _ _ => rfl) (by omega) (by simp)), ?_⟩
    · simp [wrap64']
    · refine sh_step ?_
      have := x.toNat_lt
      simp [UInt32.toNat_shiftRight, Nat.shiftRight_eq_div_pow, Nat.div_div_eq_div_mul] <;> omega
    · simp [highRows, shr8, cB, wrap8]
    · simp
  · (conv => whnf)
    refine ⟨rfl, ⟨by simp, by simp⟩, ?_⟩
    (conv => whnf)
    refine ⟨rfl, _, rfl, ?_⟩
    (conv => whnf)
    subst hasg hbody
    refine roundV_of tab_ok mixed rfl (by simp) (show 4 < 5 by omega) ?_
    (conv => whnf)
    refine ⟨rfl, ?_⟩
    (conv => whnf)
    refine ⟨rfl, ⟨by simp, by simp⟩, ?_⟩
    (conv => whnf)
    refine ⟨rfl, _, rfl, ?_⟩
    (conv => whnf)
    refine ⟨by decide, ?_⟩
    (conv => whnf)
    refine ⟨rfl, ?_⟩
    (conv => whnf)
    refine ⟨⟨4, by omega⟩, Wk.of id [] ⟨.yld rfl (by omega), .ptr rfl (by omega), .int_of ?_, trivial⟩ (LeH.of ⟨⟨by omega, .inl ⟨by simp, _, rfl, rfl, rfl, rfl, rfl, rfl, rfl, .ptr rfl (by omega), .ptr rfl (by omega), trivial⟩⟩, ⟨by omega, .inl ⟨by simp, _, rfl, id, rfl, .int_of ?_, trivial⟩⟩, ⟨by omega, .inl ⟨by simp, _, rfl, LeB.eq_of ?_ (highRows_free x 4)⟩⟩, ⟨by omega, .inl ⟨by simp, _, rfl, id, rfl, .osl_of rfl (by omega) rfl, trivial⟩⟩, ⟨by omega, .inl ⟨by simp, _, rfl, id, rfl, .osl_of rfl (by omega) rfl, trivial⟩⟩, trivial⟩ (fun _ _ _ _ h => h) (fun _ _ => rfl) (by omega) (by simp)), ?_⟩
    · simp [wrap64']
    · refine sh_step ?_
      have := x.toNat_lt
      simp [UInt32.toNat_shiftRight, Nat.shiftRight_eq_div_pow, Nat.div_div_eq_div_mul] <;> omega
    · simp [highRows, shr8, cB, wrap8]
    · simp
set_option maxRecDepth 100000 in
theorem uhighI_ok (n : Nat) (hn : n < 65536) : PCon prog 93 [cI n, .int .i64 2] (encB true (twoB n)) := by
  refine callV_of (fn := Go.Proofs.Tryz.f93) (body := _) tab_ok mixed rfl rfl (by decide) (by simp [Go.Proofs.Tryz.f93]) ?_
  (conv => whnf)
  refine ⟨⟨by omega, by omega, by simp [tab, tabOf, nth], by omega⟩, ?_⟩
  (conv => whnf)
  refine callV_of (fn := Go.Proofs.Tryz.f82) (body := _) tab_ok mixed rfl rfl (by decide) (by simp [Go.Proofs.Tryz.f82]) ?_
  (conv => whnf)
  refine ⟨_, _, _, Ends.here, ?_⟩
  (conv => whnf)
  refine callV_loop [(2, .ptr 0 0), (5, .ptr 2 0)] ⟨rfl, rfl, trivial⟩ fun asg' body' hasg hbody => ?_
  refine callV_of (fn := Go.Proofs.Tryz.f122) (body := _) tab_ok mixed rfl rfl (by decide) (by simp [Go.Proofs.Tryz.f122]) ?_
  (conv => whnf)
  intro _
  (conv => whnf)
  refine vcg_loop tab_ok mixed (fun k : {k : Nat // k ≤ 2} => ⟨[(0, .yld 4), (1, .ptr 3 0), (3, .int .i64 (1 - k.1))], [(4, some (.loop 23 [(2, .ptr 0 0), (5, .ptr 2 0)] [11, 12] asg' body' .ready none)), (0, some (.var true 3 [.int .i64 (shrI n k.1)])), (1, some (.arr true true 5 1 (twoRows n k.1))), (2, some (.var true 50 [.osl 1 1 0 2])), (3, some (.var true 50 [.osl 1 1 0 2]))], 5⟩) (fun k => 2 - k.1) ⟨0, by omega⟩ ?_ (fun k => ?_)
  · refine Wk.of id [] ⟨?_, ?_, ?_, trivial⟩ (LeH.of ⟨⟨by omega, .inl ⟨by simp, _, rfl, ?_⟩⟩, ⟨by omega, .inl ⟨by simp, _, rfl, ?_⟩⟩, ⟨by omega, .inl ⟨by simp, _, rfl, ?_⟩⟩, ⟨by omega, .inl ⟨by simp, _, rfl, ?_⟩⟩, ⟨by omega, .inl ⟨by simp, _, rfl, ?_⟩⟩, trivial⟩ (fun _ _ _ _ h => h) (fun _ _ => rfl) (by omega) (by simp))
    · exact .yld rfl (by omega)
    · exact .ptr rfl (by omega)
    · exact .int_of rfl
    · exact ⟨rfl, rfl, rfl, rfl, rfl, rfl, .ptr rfl (by omega), .ptr rfl (by omega), trivial⟩
    · exact ⟨id, rfl, .int_of rfl, trivial⟩
    · exact LeB.free (blk := .arr true true 5 1 (twoRows n 0)) (twoRows_free n 0)
    · exact ⟨id, rfl, .osl_of rfl (by omega) rfl, trivial⟩
    · exact ⟨id, rfl, .osl_of rfl (by omega) rfl, trivial⟩
  obtain ⟨k, hk⟩ := k
  rcases k with _ | _ | _ | k
  case succ.succ.succ => omega
  case succ.succ.zero =>
    (conv => whnf)
    refine ⟨_, _, _, Ends.here, ?_⟩
    (conv => whnf)
    refine Ends.pure [1] ?_ ?_
    · refine LeV.freeze_of (by simp) rfl (by simp [twoRows]) (twoRows_free n 2) ?_
      simp [twoRows, twoB]
    · intro z hz
      obtain rfl := List.mem_singleton.1 hz
      exact ne_none_of rfl
  · (conv => whnf)
    refine ⟨rfl, ⟨by simp, by simp⟩, ?_⟩
    (conv => whnf)
    refine ⟨rfl, _, rfl, ?_⟩
    (conv => whnf)
    subst hasg hbody
    refine roundV_of tab_ok mixed rfl (by simp) (show 4 < 5 by omega) ?_
    (conv => whnf)
    refine ⟨rfl, ?_⟩
    (conv => whnf)
    refine ⟨rfl, ⟨by simp, by simp⟩, ?_⟩
    (conv => whnf)
    refine ⟨rfl, _, rfl, ?_⟩
    (conv => whnf)
    refine ⟨by decide, ?_⟩
    (conv => whnf)
    refine ⟨rfl, ?_⟩
    (conv => whnf)
    refine ⟨⟨1, by omega⟩, Wk.of id [] ⟨.yld rfl (by omega), .ptr rfl (by omega), .int_of ?_, trivial⟩ (LeH.of ⟨⟨by omega, .inl ⟨by simp, _, rfl, rfl, rfl, rfl, rfl, rfl, rfl, .ptr rfl (by omega), .ptr rfl (by omega), trivial⟩⟩, ⟨by omega, .inl ⟨by simp, _, rfl, id, rfl, .int_of ?_, trivial⟩⟩, ⟨by omega, .inl ⟨by simp, _, rfl, LeB.eq_of ?_ (twoRows_free n 1)⟩⟩, ⟨by omega, .inl ⟨by simp, _, rfl, id, rfl, .osl_of rfl (by omega) rfl, trivial⟩⟩, ⟨by omega, .inl ⟨by simp, _, rfl, id, rfl, .osl_of rfl (by omega) rfl, trivial⟩⟩, trivial⟩ (fun _ _ _ _ h => h) (fun _ _ => rfl) (by omega) (by simp)), ?_⟩
    · simp [wrap64']
    · exact shI_step _ (by simp [Nat.div_div_eq_div_mul]) (by omega)
    · simp [twoRows, shrI, cB, wrap8]
    · simp
  · (conv => whnf)
    refine ⟨rfl, ⟨by simp, by simp⟩, ?_⟩
    (conv => whnf)
    refine ⟨rfl, _, rfl, ?_⟩
    (conv => whnf)
    subst hasg hbody
    refine roundV_of tab_ok mixed rfl (by simp) (show 4 < 5 by omega) ?_
    (conv => whnf)
    refine ⟨rfl, ?_⟩
    (conv => whnf)
    refine ⟨rfl, ⟨by simp, by simp⟩, ?_⟩
    (conv => whnf)
    refine ⟨rfl, _, rfl, ?_⟩
    (conv => whnf)
    refine ⟨by decide, ?_⟩
    (conv => whnf)
    refine ⟨rfl, ?_⟩
    (conv => whnf)
    refine ⟨⟨2, by omega⟩, Wk.of id [] ⟨.yld rfl (by omega), .ptr rfl (by omega), .int_of ?_, trivial⟩ (LeH.of ⟨⟨by omega, .inl ⟨by simp, _, rfl, rfl, rfl, rfl, rfl, rfl, rfl, .ptr rfl (by omega), .ptr rfl (by omega), trivial⟩⟩, ⟨by omega, .inl ⟨by simp, _, rfl, id, rfl, .int_of ?_, trivial⟩⟩, ⟨by omega, .inl ⟨by simp, _, rfl, LeB.eq_of ?_ (twoRows_free n 2)⟩⟩, ⟨by omega, .inl ⟨by simp, _, rfl, id, rfl, .osl_of rfl (by omega) rfl, trivial⟩⟩, ⟨by omega, .inl ⟨by simp, _, rfl, id, rfl, .osl_of rfl (by omega) rfl, trivial⟩⟩, trivial⟩ (fun _ _ _ _ h => h) (fun _ _ => rfl) (by omega) (by simp)), ?_⟩
    · simp [wrap64']
    · exact shI_step _ (by simp [Nat.div_div_eq_div_mul]) (by omega)
    · simp [twoRows, shrI, cB, wrap8]
    · simp
end Go.Proofs.YtehhligadnlijaaGreatDoor
set_option linter.unusedVariables false
set_option linter.unusedSimpArgs false
namespace Go.Proofs.YtehhligadnlijaaGreatDoor
open Go.RowKit
open Go.Proofs.Tryz (prog)
attribute [local irreducible] CallV RoundV aggK
abbrev rowsP (l : List Prefix) : List (List V) := l.map cellsP
def encPs (fr : Bool) (l : List Prefix) : V := .sl fr 2 (rowsP l)
theorem cellsP_all (p : Prefix) : ∀ v ∈ cellsP p, Free v ∧ Cold v ∧ Fresh v := by
  intro v hv
  simp only [cellsP, List.mem_cons, List.not_mem_nil, or_false] at hv
  rcases hv with rfl | rfl <;> exact ⟨.int, .int, .int⟩
theorem rowsP_all (l : List Prefix) : ∀ x ∈ rowsP l, ∀ v ∈ x, Free v ∧ Cold v ∧ Fresh v := by
  intro x hx v hv
  obtain ⟨r, _, rfl⟩ := List.mem_map.1 hx
  exact cellsP_all r v hv
theorem rowsP_free (l : List Prefix) : ∀ x ∈ rowsP l, ∀ v ∈ x, Free v := fun x hx v hv => (rowsP_all l x hx v hv).1
theorem encPs_free (fr : Bool) (l : List Prefix) : Free (encPs fr l) := .sl (rowsP_free l)
theorem encPs_cold (l : List Prefix) : Cold (encPs false l) := .sl fun x hx v hv => (rowsP_all l x hx v hv).2.1
theorem encPs_fresh (l : List Prefix) : Fresh (encPs true l) := .sl fun x hx v hv => (rowsP_all l x hx v hv).2.2
theorem idxP {l : List Prefix} {i : Nat} (h : i < l.length) : (rowsP l)[(i : Int).toNat]? = some (cellsP l[i]) := by simp [rowsP, h]
theorem wfW (x : UInt32) : (Lit.int .u32 (x.toNat : Int)).wf = true := by
  have := x.toNat_lt
  simp only [Lit.wf, Bool.and_eq_true, decide_eq_true_eq]
  exact ⟨by simp [IntKind.min, IntKind.signed]; try omega, by simp [IntKind.max, IntKind.signed, IntKind.bits]; omega⟩
theorem wfB (x : UInt8) : (Lit.int .u8 (x.toNat : Int)).wf = true := by
  have := x.toNat_lt
  simp only [Lit.wf, Bool.and_eq_true, decide_eq_true_eq]
  exact ⟨by simp [IntKind.min, IntKind.signed]; try omega, by simp [IntKind.max, IntKind.signed, IntKind.bits]; omega⟩
def litsP (p : Prefix) : List Lit := [.int .u32 (p.addr.toNat : Int), .int .u8 (p.len.toNat : Int)]
theorem litsP_inj {p q : Prefix} : litsP p = litsP q ↔ p = q := by
  constructor
  · intro h
    obtain ⟨a, b⟩ := p
    obtain ⟨c, d⟩ := q
    simp only [litsP, List.cons.injEq, Lit.int.injEq, true_and, and_true] at h
    rw [UInt32.toNat_inj.1 (by omega : a.toNat = c.toNat), UInt8.toNat_inj.1 (by omega : b.toNat = d.toNat)]
  · exact fun h => by rw [h]
set_option maxRecDepth 100000 in
theorem litP (p : Prefix) {K : List Lit → Prop} (h : K (litsP p)) : litK tab 60 24 (cellsP p) K := And.intro (wfW _) (And.intro (wfB _) h)
theorem aggK_neq {T : Tab} {t : Nat} {fs : List (Nat × Nat)} (hk : (T t).key = true) (hs : (T t).k = .struct fs) {cs ds : List V} {K : V → Prop}
    (h : litK T 60 t cs fun la => litK T 60 t ds fun lb => ∃ r : Bool, (r = true ↔ la = lb) ∧ K (.bool (!r))) : aggK T .neq t cs ds K := by
  rw [aggK, hk, hs]
  exact h
theorem aggK_eql {T : Tab} {t : Nat} {fs : List (Nat × Nat)} (hk : (T t).key = true) (hs : (T t).k = .struct fs) {cs ds : List V} {K : V → Prop}
    (h : litK T 60 t cs fun la => litK T 60 t ds fun lb => ∃ r : Bool, (r = true ↔ la = lb) ∧ K (.bool r)) : aggK T .eql t cs ds K := by
  rw [aggK, hk, hs]
  exact h
theorem neqP (r s : Prefix) {K : V → Prop} (h : K (.bool (!decide (r = s)))) : aggK tab .neq 24 (cellsP r) (cellsP s) K := by
  refine aggK_neq rfl rfl ?_
  refine litP r ?_
  refine litP s ?_
  exact ⟨decide (r = s), by rw [litsP_inj]; simp, h⟩
theorem eqlP (r s : Prefix) {K : V → Prop} (h : K (.bool (decide (r = s)))) : aggK tab .eql 24 (cellsP r) (cellsP s) K := by
  refine aggK_eql rfl rfl ?_
  refine litP r ?_
  refine litP s ?_
  exact ⟨decide (r = s), by rw [litsP_inj]; simp, h⟩
theorem keyP (p : Prefix) : KeyV tab 24 (encP p) := ⟨rfl, rfl, rfl, litsP p, litP p rfl⟩
theorem cmpP_def (p q : Prefix) : cmpP p q = if p.addr.toNat < q.addr.toNat then -1 else if q.addr.toNat < p.addr.toNat then 1 else if p.len.toNat < q.len.toNat then -1 else if q.len.toNat < p.len.toNat then 1 else 0 := by
  unfold cmpP orI cmpI
  simp only [Int.ofNat_lt]
  by_cases h1 : p.addr.toNat < q.addr.toNat
  · simp [h1]
  · by_cases h2 : q.addr.toNat < p.addr.toNat
    · simp [h1, h2]
    · by_cases h3 : p.len.toNat < q.len.toNat
      · simp [h1, h2, h3]
      · by_cases h4 : q.len.toNat < p.len.toNat <;> simp [h1, h2, h3, h4]
theorem pfx_eq {p q : Prefix} (h1 : p.addr.toNat = q.addr.toNat) (h2 : p.len.toNat = q.len.toNat) : p = q := by
  obtain ⟨a, b⟩ := p
  obtain ⟨c, d⟩ := q
  obtain rfl : a = c := UInt32.toNat_inj.1 h1
  obtain rfl : b = d := UInt8.toNat_inj.1 h2
  rfl
theorem cmpP_zero {p q : Prefix} : cmpP p q = 0 ↔ p = q := by
  rw [cmpP_def]
  constructor
  · intro h
    repeat' split at h
    all_goals first | (exact absurd h (by decide)) | skip
    exact pfx_eq (by omega) (by omega)
  · rintro rfl; simp
set_option maxRecDepth 100000 in
theorem refCompare_ok (p q : Prefix) : PCon prog 17 [encP p, encP q] (.int .i64 (cmpP p q)) := by
  refine callV_of (fn := Go.Proofs.Tryz.f17) (body := _) tab_ok mixed rfl rfl (by decide) (by simp [Go.Proofs.Tryz.f17]) ?_
  have fin : ∀ {s : St} {r : Int}, cmpP p q = r → ∃ v1 h' nx', Ends 0 s (.int .i64 r) v1 h' nx' ∧ (v1 = .int .i64 (cmpP p q) ∧ h' = [] ∧ nx' = 0) := fun h => Ends.pure [] (.int_of h.symm) (by simp)
  (conv => whnf)
  cases h1 : decide ((p.addr.toNat : Int) < (q.addr.toNat : Int)) with
  | true =>
    (conv => whnf)
    refine fin ?_
    simp only [decide_eq_true_eq] at h1
    rw [cmpP_def, if_pos (by omega)]
  | false =>
  simp only [decide_eq_false_iff_not] at h1
  (conv => whnf)
  cases h2 : ((p.addr.toNat : Int) == (q.addr.toNat : Int)) with
  | false =>
    (conv => whnf)
    refine eqlP p q ?_
    have hne : decide (p = q) = false := by simp; rintro rfl; simp at h2
    simp at h2
    rw [hne]
    (conv => whnf)
    refine fin ?_
    rw [cmpP_def, if_neg (by omega), if_pos (by omega)]
  | true =>
  simp at h2
  (conv => whnf)
  split
  · rename_i h3
    (conv => whnf)
    refine fin ?_
    simp only [decide_eq_true_eq] at h3
    rw [cmpP_def, if_neg (by omega), if_neg (by omega), if_pos (by omega)]
  · rename_i h3
    simp only [decide_eq_false_iff_not] at h3
    (conv => whnf)
    refine eqlP p q ?_
    (conv => whnf)
    split
    · rename_i h4
      (conv => whnf)
      exact fin (cmpP_zero.2 (by simpa using h4))
    · rename_i h4
      (conv => whnf)
      refine fin ?_
      have h4 : p ≠ q := by simpa using h4
      rw [cmpP_def, if_neg (by omega), if_neg (by omega), if_neg (by omega), if_pos]
      rcases Nat.lt_or_ge q.len.toNat p.len.toNat with h | h
      · exact h
      · exact absurd (pfx_eq (by omega) (by omega)) h4
set_option maxRecDepth 100000 in
theorem equalP_ok (fr fr' : Bool) (a b : List Prefix) : PCon prog 74 [encPs fr a, encPs fr' b] (.bool (decide (a = b))) := by
  refine callV_of (fn := Go.Proofs.Tryz.f74) (body := _) tab_ok mixed rfl rfl (by decide) (by simp [Go.Proofs.Tryz.f74]) ?_
  (conv => whnf)
  intro ha
  have ha : a.length ≤ maxLen := by simpa [gd] using ha
  (conv => whnf)
  intro hb
  (conv => whnf)
  split
  · rename_i hne
    (conv => whnf)
    refine Ends.pure [] (.bool_of ?_) (by simp)
    symm
    rw [decide_eq_false_iff_not]
    rintro rfl
    simp at hne
  · rename_i hne
    have hlen : a.length = b.length := by simp at hne; omega
    (conv => whnf)
    intro _
    (conv => whnf)
    refine vcg_loop tab_ok mixed (fun i : {i : Nat // i ≤ a.length ∧ a.take i = b.take i} => ⟨[(0, encPs fr a), (1, encPs fr' b), (12, cI a.length), (13, .int .i64 i.1)], [], 0⟩) (fun i => a.length - i.1) ⟨0, by omega, rfl⟩ (Wk.of id [] ⟨.free (encPs_free _ _), .free (encPs_free _ _), .int_of (by simp), .int_of rfl, trivial⟩ (LeH.nil (Nat.le_refl _) (fun b h => by omega) (by simp))) (fun i => ?_)
    obtain ⟨i, hi, hr⟩ := i
    (conv => whnf)
    split
    · rename_i hc
      have hc : i < a.length := by simpa using hc
      have hc' : i < b.length := by omega
      (conv => whnf)
      refine ⟨rfl, _, ⟨by first | omega | (simp only; omega), idxP hc⟩, ?_⟩
      (conv => whnf)
      refine ⟨rfl, _, ⟨by first | omega | (simp only; omega), idxP hc'⟩, ?_⟩
      (conv => whnf)
      refine neqP a[i] b[i] ?_
      (conv => whnf)
      refine ⟨by kernel_rfl, ?_⟩
      (conv => whnf)
      split
      · rename_i h1
        (conv => whnf)
        refine Ends.pure [] (.bool_of ?_) (by simp)
        symm
        rw [decide_eq_false_iff_not]
        rintro rfl
        simp at h1
      · rename_i h1
        have h1 : a[i] = b[i] := by simpa using h1
        (conv => whnf)
        exact ⟨⟨i + 1, by omega, take_step hc hc' hr h1⟩, Wk.of id [] ⟨.free (encPs_free _ _), .free (encPs_free _ _), .int_of rfl, .int_of (wrap64_succ hc ha), trivial⟩ (LeH.nil (Nat.le_refl _) (fun b h => by omega) (by simp)), by simp only; omega⟩
    · rename_i hc
      have hc : i = a.length := by simp at hc; omega
      subst hc
      rw [List.take_length, hlen, List.take_length] at hr
      (conv => whnf)
      refine Ends.pure [] (.bool_of ?_) (by simp)
      simp [hr]
set_option maxRecDepth 100000 in
theorem refSames_ok (fr fr' : Bool) (a b : List Prefix) : PCon prog 25 [encPs fr a, encPs fr' b] (.bool (decide (a = b))) := by
  refine callV_of (fn := Go.Proofs.Tryz.f25) (body := _) tab_ok mixed rfl rfl (by decide) (by simp [Go.Proofs.Tryz.f25]) ?_
  (conv => whnf)
  intro ha
  have ha : a.length ≤ maxLen := by simpa [gd] using ha
  (conv => whnf)
  intro hb
  (conv => whnf)
  split
  · rename_i hne
    (conv => whnf)
    refine Ends.pure [] (.bool_of ?_) (by simp)
    symm
    rw [decide_eq_false_iff_not]
    rintro rfl
    simp at hne
  · rename_i hne
    have hlen : a.length = b.length := by simp at hne; omega
    (conv => whnf)
    refine vcg_loop tab_ok mixed (fun i : {i : Nat // i ≤ a.length ∧ a.take i = b.take i} => ⟨[(0, encPs fr a), (1, encPs fr' b), (5, .int .i64 i.1)], [], 0⟩) (fun i => a.length - i.1) ⟨0, by omega, rfl⟩ (Wk.of id [] ⟨.free (encPs_free _ _), .free (encPs_free _ _), .int_of rfl, trivial⟩ (LeH.nil (Nat.le_refl _) (fun b h => by omega) (by simp))) (fun i => ?_)
    obtain ⟨i, hi, hr⟩ := i
    (conv => whnf)
    intro _
    (conv => whnf)
    split
    · rename_i hc
      have hc : i < a.length := by simpa using hc
      have hc' : i < b.length := by omega
      (conv => whnf)
      refine ⟨rfl, _, ⟨by first | omega | (simp only; omega), idxP hc⟩, ?_⟩
      (conv => whnf)
      refine ⟨rfl, _, ⟨by first | omega | (simp only; omega), idxP hc'⟩, ?_⟩
      (conv => whnf)
      refine neqP a[i] b[i] ?_
      (conv => whnf)
      refine ⟨by kernel_rfl, ?_⟩
      (conv => whnf)
      split
      · rename_i h1
        (conv => whnf)
        refine Ends.pure [] (.bool_of ?_) (by simp)
        symm
        rw [decide_eq_false_iff_not]
        rintro rfl
        simp at h1
      · rename_i h1
        have h1 : a[i] = b[i] := by simpa using h1
        (conv => whnf)
        exact ⟨⟨i + 1, by omega, take_step hc hc' hr h1⟩, Wk.of id [] ⟨.free (encPs_free _ _), .free (encPs_free _ _), .int_of (wrap64_succ hc ha), trivial⟩ (LeH.nil (Nat.le_refl _) (fun b h => by omega) (by simp)), by simp only; omega⟩
    · rename_i hc
      have hc : i = a.length := by simp at hc; omega
      subst hc
      rw [List.take_length, hlen, List.take_length] at hr
      (conv => whnf)
      refine Ends.pure [] (.bool_of ?_) (by simp)
      simp [hr]
end Go.Proofs.YtehhligadnlijaaGreatDoor
set_option linter.unusedVariables false
set_option linter.unusedSimpArgs false
namespace Go.Proofs.YtehhligadnlijaaGreatDoor
open Go.Shelf Go.RowKit Go.Lib Go.Sort
open Go.Proofs.Tryz (prog)
theorem k76 (x : Int) (W : World) : Calls prog 76 #[.int .u32 x] W fun e w' => e = .returned (.bool false) ∧ w' = W := by
  go_enter Go.Proofs.Tryz.func76, Go.Proofs.Tryz.ntmps76
  go_wp2
  go_ret
  exact ⟨by simp, rfl⟩
theorem k41 (x y : Int) (W : World) : Calls prog 41 #[.int .u32 x, .int .u32 y] W fun e w' => e = .returned (.int .i64 (cmpI x y)) ∧ w' = W := by
  go_enter Go.Proofs.Tryz.func41, Go.Proofs.Tryz.ntmps41
  go_wp2_with (go_at_call 76; refine (k76 _ _).mono ?_; rintro e w' ⟨rfl, rfl⟩)
  all_goals (go_ret; refine ⟨?_, rfl⟩; unfold cmpI; (repeat' split) <;> first | rfl | (exfalso; omega))
theorem k77 (x : Int) (W : World) : Calls prog 77 #[.int .u8 x] W fun e w' => e = .returned (.bool false) ∧ w' = W := by
  go_enter Go.Proofs.Tryz.func77, Go.Proofs.Tryz.ntmps77
  go_wp2
  go_ret
  exact ⟨by simp, rfl⟩
theorem k42 (x y : Int) (W : World) : Calls prog 42 #[.int .u8 x, .int .u8 y] W fun e w' => e = .returned (.int .i64 (cmpI x y)) ∧ w' = W := by
  go_enter Go.Proofs.Tryz.func42, Go.Proofs.Tryz.ntmps42
  go_wp2_with (go_at_call 77; refine (k77 _ _).mono ?_; rintro e w' ⟨rfl, rfl⟩)
  all_goals (go_ret; refine ⟨?_, rfl⟩; unfold cmpI; (repeat' split) <;> first | rfl | (exfalso; omega))
def sel2 (a b : Int) : Nat → Int
  | 0 => a
  | _ => b
def or2 (a b : Int) : Int := if a ≠ 0 then a else b
set_option maxHeartbeats 1000000 in
theorem k40 (blk c : Nat) (a b : Int) (W : World) (h0 : W.cell? ⟨blk, 0, none⟩ = some (.int .i64 a)) (h1 : W.cell? ⟨blk, 1, none⟩ = some (.int .i64 b)) :
    Calls prog 40 #[.slice (some ⟨blk, 0, none⟩) 2 c] W fun e w' => e = .returned (.int .i64 (or2 a b)) ∧ w' = W := by
  go_enter Go.Proofs.Tryz.func40, Go.Proofs.Tryz.ntmps40
  go_wp2
  go_loop [5, 8] (fun _ i => ∃ k : Nat, k ≤ 2 ∧ i = .int .i64 k ∧ (0 < k → a = 0) ∧ (1 < k → b = 0)) (fun _ i => match i with | .int _ m => 2 - m.toNat | _ => 0)
  case atStart => exact ⟨0, Nat.zero_le _, rfl, (fun h => absurd h (Nat.lt_irrefl _)), (fun h => absurd h (Nat.not_lt_zero _))⟩
  case round =>
    obtain ⟨k, hk, rfl, q0, q1⟩ := hrel
    have hcell : (k : Int) < 2 → W.cell? ⟨blk, k, none⟩ = some (.int .i64 (sel2 a b k)) := fun h => by
      rcases k with _ | _ | k
      · exact h0
      · exact h1
      · omega
    go_wp2
    · have hlt : (k : Int) < 2 := by assumption
      have heq : (sel2 a b k != 0) = true := by assumption
      go_ret
      refine ⟨?_, rfl⟩
      rcases k with _ | _ | k
      · have : a ≠ 0 := by simpa [sel2] using heq
        show _ = Ending.returned (.int .i64 (or2 a b))
        rw [or2, if_pos this]
        rfl
      · rw [or2, if_neg (by simp [q0 (by omega)])]
        rfl
      · omega
    · have hlt : (k : Int) < 2 := by assumption
      have hneq : (sel2 a b k != 0) = false := by assumption
      have hs : sel2 a b k = 0 := by simpa using hneq
      refine ⟨⟨k + 1, by omega, rfl, fun hj => ?_, fun hj => ?_⟩, by show 2 - ((k : Int) + 1).toNat < 2 - (k : Int).toNat; omega⟩
      · rcases k with _ | _ | k
        · exact hs
        · exact q0 (by omega)
        · omega
      · rcases k with _ | _ | k
        · omega
        · exact hs
        · omega
    · have hge : 2 ≤ (k : Int) := by assumption
      have e2 : k = 2 := by omega
      subst e2
      go_ret
      refine ⟨?_, rfl⟩
      rw [or2, if_neg (by simp [q0 (by omega)]), q1 (by omega)]
      rfl
theorem k40v (W : World) (r s : Int) (ty : TypeId) : Calls prog 40 #[.slice (some ⟨W.heap.size, 0, none⟩) 2 2] (W.alloc (.cells #[.int .i64 r, .int .i64 s] ty)).drew fun e w' => e = .returned (.int .i64 (or2 r s)) ∧ w' = (W.alloc (.cells #[.int .i64 r, .int .i64 s] ty)).drew := by
  have h : (W.alloc (.cells #[.int .i64 r, .int .i64 s] ty)).heap[W.heap.size]? = some (.cells #[.int .i64 r, .int .i64 s] ty (0, 0)) := heap_alloc_new W _
  refine k40 _ _ r s _ ?_ ?_
  · show World.cell? (W.alloc (.cells #[.int .i64 r, .int .i64 s] ty)) _ = _
    simp only [World.cell?]
    erw [h]
    rfl
  · show World.cell? (W.alloc (.cells #[.int .i64 r, .int .i64 s] ty)) _ = _
    simp only [World.cell?]
    erw [h]
    rfl
def cmp2 (a b c d : Int) : Int := or2 (cmpI a c) (cmpI b d)
set_option maxRecDepth 100000 in
set_option maxHeartbeats 2000000 in
theorem k16 (a b c d : Int) (W : World) : Calls prog 16 #[.agg #[.int .u32 a, .int .u8 b], .agg #[.int .u32 c, .int .u8 d]] W fun e w' => e = .returned (.int .i64 (cmp2 a b c d)) ∧ ∃ q os', w' = grow (W.drewN q) os' := by
  have g41 := k41 a c
  have g42 := k42 b d
  unfold cmp2
  generalize cmpI a c = r at g41 ⊢
  generalize cmpI b d = s at g42 ⊢
  go_enter Go.Proofs.Tryz.func16, Go.Proofs.Tryz.ntmps16
  go_wp2
  have f0 : ((W.alloc (Obj.cells #[Value.int IntKind.u32 a, Value.int IntKind.u8 b] 24)).alloc (Obj.cells #[Value.int IntKind.u32 c, Value.int IntKind.u8 d] 24)).heap[W.heap.size]? = some (Obj.cells #[Value.int IntKind.u32 a, Value.int IntKind.u8 b] 24) := by
    rw [Below.heap_alloc _ _ _ (by simp)]; exact heap_alloc_new W _
  have f1 : ((W.alloc (Obj.cells #[Value.int IntKind.u32 a, Value.int IntKind.u8 b] 24)).alloc (Obj.cells #[Value.int IntKind.u32 c, Value.int IntKind.u8 d] 24)).heap[W.heap.size + 1]? = some (Obj.cells #[Value.int IntKind.u32 c, Value.int IntKind.u8 d] 24) := by
    have := heap_alloc_new (W.alloc (Obj.cells #[Value.int IntKind.u32 a, Value.int IntKind.u8 b] 24)) (Obj.cells #[Value.int IntKind.u32 c, Value.int IntKind.u8 d] 24)
    simpa using this
  have fs : ((W.alloc (Obj.cells #[Value.int IntKind.u32 a, Value.int IntKind.u8 b] 24)).alloc (Obj.cells #[Value.int IntKind.u32 c, Value.int IntKind.u8 d] 24)) = grow W #[Obj.cells #[Value.int IntKind.u32 a, Value.int IntKind.u8 b] 24, Obj.cells #[Value.int IntKind.u32 c, Value.int IntKind.u8 d] 24] := by
    rw [alloc_eq_grow, alloc_eq_grow, grow_grow]; rfl
  generalize ((W.alloc (Obj.cells #[Value.int IntKind.u32 a, Value.int IntKind.u8 b] 24)).alloc (Obj.cells #[Value.int IntKind.u32 c, Value.int IntKind.u8 d] 24)) = W2 at f0 f1 fs ⊢
  replace fs := fs.symm
  have c0 : W2.cell? ⟨W.heap.size, 0, none⟩ = some (.int .u32 a) := by simp [World.cell?, f0]
  have c1 : W2.cell? ⟨W.heap.size, 1, none⟩ = some (.int .u8 b) := by simp [World.cell?, f0]
  have c2 : W2.cell? ⟨W.heap.size + 1, 0, none⟩ = some (.int .u32 c) := by simp [World.cell?, f1]
  have c3 : W2.cell? ⟨W.heap.size + 1, 1, none⟩ = some (.int .u8 d) := by simp [World.cell?, f1]
  refine wp_region_still_tail 10 (show prog.follows .mixedOrders = true from rfl) (by kernel_rfl) ?_
  change wpStill _ _ W2.drew _ _ _
  simp only [List.take_succ_cons, List.take_zero, List.drop_succ_cons, List.drop_zero]
  still_step
  still_step
  still_step
  still_step
  still_call (g41 _)
  still_step
  still_step
  still_step
  still_step
  still_call (g42 _)
  refine wpStill_nil ?_
  change wpList _ _ _ _ _ W2.drew
  go_wp2_with (go_at_call 40; refine (k40v _ _ _ _).mono ?_; rintro e w' ⟨rfl, rfl⟩)
  go_ret
  refine ⟨rfl, 1, #[Obj.cells #[Value.int IntKind.u32 a, Value.int IntKind.u8 b] 24, Obj.cells #[Value.int IntKind.u32 c, Value.int IntKind.u8 d] 24, Obj.cells #[Value.int IntKind.i64 r, Value.int IntKind.i64 s] 3], ?_⟩
  subst fs
  show (World.alloc _ _).drew = _
  rw [alloc_eq_grow, grow_grow]
  rfl
end Go.Proofs.YtehhligadnlijaaGreatDoor
set_option linter.unusedVariables false
set_option linter.unusedSimpArgs false
namespace Go.Proofs.YtehhligadnlijaaGreatDoor
open Go.RowKit
open Go.Proofs.Tryz (prog)
attribute [local irreducible] CallV RoundV
instance : Inhabited Prefix := ⟨⟨0, 0⟩⟩
def pkey (p : Prefix) : Nat := p.addr.toNat * 256 + p.len.toNat
theorem pkey_inj {p q : Prefix} (h : pkey p = pkey q) : p = q := by
  have h1 := p.len.toNat_lt
  have h2 := q.len.toNat_lt
  unfold pkey at h
  exact pfx_eq (by omega) (by omega)
theorem cmpP_lt (p q : Prefix) : cmpP p q < 0 ↔ pkey p < pkey q := by
  have h1 := p.len.toNat_lt
  have h2 := q.len.toNat_lt
  rw [cmpP_def]
  unfold pkey
  repeat' split
  all_goals first | (constructor <;> intro _ <;> omega)
theorem cmp2_P (p q : Prefix) : cmp2 p.addr.toNat p.len.toNat q.addr.toNat q.len.toNat = cmpP p q := by
  unfold cmp2 or2 cmpP orI
  by_cases h : cmpI p.addr.toNat q.addr.toNat = 0
  · by_cases h' : cmpI p.len.toNat q.len.toNat = 0 <;> simp [h, h']
  · simp [h]
theorem ltP (p q : Prefix) : ltOf cmpP p q = decide (pkey p < pkey q) := by
  unfold ltOf
  rw [Bool.eq_iff_iff]
  simp only [decide_eq_true_eq]
  exact cmpP_lt p q
theorem swoP : Go.Sort.SWO (ltOf cmpP) where
  irrefl x := by rw [ltP]; simp
  trans x y z h1 h2 := by rw [ltP] at *; simp at *; omega
  ntrans x y z h1 h2 := by rw [ltP] at *; simp at *; omega
theorem totP (x y : Prefix) (h1 : ltOf cmpP x y = false) (h2 : ltOf cmpP y x = false) : x = y := by
  rw [ltP] at *
  simp at h1 h2
  exact pkey_inj (by omega)
def valP (p : Prefix) : List Value := [.int .u32 p.addr.toNat, .int .u8 p.len.toNat]
def sortPs (l : List Prefix) : List Prefix := l.mergeSort fun x y => !(ltOf cmpP) y x
theorem sortPs_len (l : List Prefix) : (sortPs l).length = l.length := by unfold sortPs; exact List.length_mergeSort l
theorem flatP_len : ∀ l : List Prefix, (rowsP l).flatten.length = l.length * 2
  | [] => rfl
  | p :: l => by
    have := flatP_len l
    simp only [rowsP, List.map_cons, List.flatten_cons, List.length_append, List.length_cons] at this ⊢
    rw [this]
    simp [cellsP]
    omega
theorem flatP : ∀ (l : List Prefix) (j : Nat) (v : V), (rowsP l).flatten[j]? = some v → j < l.length * 2 ∧ ∀ (G : Gh) (w : World) (u : Value), vr G w v u ↔ u = (valP (l.toArray[j / 2]!))[j % 2]!
  | [], j, v, h => by simp at h
  | p :: l, 0, v, h => by
    simp [cellsP] at h
    subst h
    exact ⟨by simp <;> omega, fun G w u => ⟨fun h => by cases h; simp [valP], fun h => by subst h; simp [valP]; exact .int _ _⟩⟩
  | p :: l, 1, v, h => by
    simp [cellsP] at h
    subst h
    exact ⟨by simp <;> omega, fun G w u => ⟨fun h => by cases h; simp [valP], fun h => by subst h; simp [valP]; exact .int _ _⟩⟩
  | p :: l, j + 2, v, h => by
    have h' : (rowsP l).flatten[j]? = some v := by simpa [cellsP] using h
    obtain ⟨h1, h2⟩ := flatP l j v h'
    refine ⟨by simp <;> omega, fun G w u => ?_⟩
    rw [h2 G w u]
    have e1 : (j + 2) / 2 = j / 2 + 1 := by omega
    have e2 : (j + 2) % 2 = j % 2 := by omega
    rw [e1, e2]
    simp
theorem flatP_at (l : List Prefix) (j : Nat) (h : j < l.length * 2) : ∃ v, (rowsP l).flatten[j]? = some v :=
  ⟨_, List.getElem?_eq_getElem (by rw [flatP_len]; exact h)⟩
theorem oneP (p : Prefix) (i : Nat) : ((valP p)[i]!).oneCell' = true := by
  rcases i with _ | _ | i
  · rfl
  · rfl
  · simp [valP]; rfl
section
variable {w : World} {c : Nat} {cs : Array Value} {ty : TypeId} (hh : w.heap[c]? = some (.cells cs ty (0, 0)))
include hh
theorem sw_at (n : Nat) (d : Array Prefix) (os : Array Obj) : (sortWorldK valP 2 w c 0 n d os).heap[c]? = some (.cells (Go.Sort.putCells id 0 (Go.Sort.flatK valP 2 d) cs) ty (0, 0)) := by
  have hlt : c < w.heap.size := (Array.getElem?_eq_some_iff.1 hh).1
  unfold sortWorldK Go.Sort.grow Go.Sort.putRowK Go.Sort.putRow Go.Sort.mapBlock
  show ((w.heap.modify c _) ++ os)[c]? = _
  rw [Array.getElem?_append_left (by simpa using hlt)]
  simp [Array.getElem?_modify, hh, Go.Sort.onCells]
end
theorem sw_other {w : World} {c : Nat} (n : Nat) (d : Array Prefix) (os : Array Obj) {k : Nat} (hk : k < w.heap.size) (hne : k ≠ c) : (sortWorldK valP 2 w c 0 n d os).heap[k]? = w.heap[k]? := by
  unfold sortWorldK Go.Sort.grow Go.Sort.putRowK Go.Sort.putRow Go.Sort.mapBlock
  show ((w.heap.modify c _) ++ os)[k]? = _
  rw [Array.getElem?_append_left (by simpa using hk)]
  simp [Array.getElem?_modify, Ne.symm hne]
theorem sw_size {w : World} {c : Nat} (n : Nat) (d : Array Prefix) (os : Array Obj) : w.heap.size ≤ (sortWorldK valP 2 w c 0 n d os).heap.size := by
  unfold sortWorldK Go.Sort.grow Go.Sort.putRowK Go.Sort.putRow Go.Sort.mapBlock
  show _ ≤ ((w.heap.modify c _) ++ os).size
  simp
set_option maxRecDepth 100000 in
theorem sortF_ok (fr ex : Bool) (l : List Prefix) (hl : l.length < 4611686018427387904) :
    CallV prog 88 [.osl 0 2 0 l.length, .fn (.func 16) [] []] [(0, some (.arr fr ex 24 2 (rowsP l)))] 1 (fun v' h' nx' => v' = .tup [] ∧ h' = [(0, some (.arr fr ex 24 2 (rowsP (sortPs l))))] ∧ nx' = 1) := by
  unfold CallV
  refine ⟨⟨_, Go.Proofs.Tryz.func88⟩, fun G w us hr hv => .inl ⟨⟨_, Go.Proofs.Tryz.func88, rfl, by decide⟩, ?_⟩⟩
  obtain ⟨u, u', rfl, hu, hu'⟩ := vrs_two hv
  obtain rfl : u' = .func (.func 16) #[] #[] := by
    cases hu' with
    | fn _ _ _ us ws h1 h2 _ _ =>
      cases us with
      | nil => cases ws with
        | nil => rfl
        | cons _ _ => simp at h2
      | cons _ _ => simp at h1
  have htup : ∀ {G : Gh} {w : World}, vr G w (.tup []) (.tuple #[]) := fun {G w} => .tup [] [] rfl (fun j v u h => by simp at h)
  have hown := hr.own 0 _ rfl
  by_cases h0 : l = []
  · subst h0
    obtain ⟨A, cap, rfl⟩ : ∃ A cap, u = .slice A 0 cap := by
      cases hu with
      | osl _ _ _ _ c cap m _ _ _ _ _ => exact ⟨_, _, rfl⟩
      | oslz _ _ _ A => exact ⟨_, _, rfl⟩
    refine (AnyF.slices_SortFunc_none Go.Proofs.Tryz.sortPfx A cap _ w).mono ?_
    rintro e w' ⟨rfl, rfl⟩
    refine ⟨_, _, _, _, G, rfl, ⟨rfl, rfl, rfl⟩, htup, ?_, Evo.refl _ _ _, Nat.le_refl _⟩
    have : sortPs [] = [] := by simp [sortPs]
    rw [this]
    exact hr
  have hpos : 0 < l.length := List.length_pos_iff.2 h0
  obtain ⟨hrow, hH⟩ : (∀ x, x ∈ rowsP l → x.length = 2) ∧ ((G.ι 0 = none ∧ rowsP l = []) ∨ Holds G w 0 fr ex 24 (rowsP l).flatten) := hown
  obtain ⟨c, cs, hι, hh, hle, hex, hfr, hcell, hone⟩ : Holds G w 0 fr ex 24 (rowsP l).flatten := by
    rcases hH with ⟨_, h⟩ | h
    · exact absurd (by simpa using h) h0
    · exact h
  obtain ⟨cap, rfl⟩ : ∃ cap, u = .slice (some ⟨c, 0, none⟩) l.toArray.size cap := by
    generalize hn : l.length = n at hu
    cases hu with
    | osl _ _ _ _ c' cap m hc _ _ _ _ =>
      rw [hι] at hc
      obtain rfl := Option.some.inj hc
      exact ⟨cap, by simp [hn]⟩
    | oslz _ _ _ A => omega
  have hclt : c < w.heap.size := hr.lt 0 c hι
  have hHK : Go.Sort.HoldsK valP 2 w c 0 l.toArray := by
    intro j hj
    rw [Go.Sort.size_flatK] at hj
    have hj' : j < l.length * 2 := by simpa using hj
    obtain ⟨v, hv⟩ := flatP_at l j hj'
    obtain ⟨u, hu, _, hvu⟩ := hcell j v hv
    rw [(flatP l j v hv).2 G w u] at hvu
    refine ⟨?_, ?_⟩
    · rw [Go.Sort.get_flatK _ _ _ _ hj, ← hvu]
      simp [World.cell?, hh, hu]
    · simp only [World.frozen?, hh]
      rfl
  have hcmp : CmpLays prog 16 #[] valP 2 cmpP c 0 l.toArray.size w := by
    intro m os dk _ x y
    have := k16 x.addr.toNat x.len.toNat y.addr.toNat y.len.toNat (sortWorldK valP 2 w c 0 m dk os)
    rw [cmp2_P] at this
    exact this
  have eg : ∀ args w, (callFunc 16 args).run prog w = .ok (.enter 16 args) w := enters_of Go.Proofs.Tryz.func16 (by kernel_rfl) rfl
  refine (AnyQ.slices_SortFunc_total Go.Proofs.Tryz.sortPfx 2 Go.Proofs.Tryz.isAgg24 Go.Proofs.Tryz.sizeOf24 valP (fun _ => rfl) (fun x v hv => by simp [valP] at hv; rcases hv with rfl | rfl <;> rfl) cmpP swoP 16 #[] c 0 cap l.toArray w eg hcmp hHK hclt (by simpa using hl) totP).mono ?_
  rintro e w' ⟨rfl, n, os, rfl⟩
  have el : (l.toArray.toList.mergeSort fun x y => !(ltOf cmpP) y x) = sortPs l := rfl
  rw [el]
  have hapart : ∀ k, G.amb k → k ≠ c := fun k hk e => hr.apart 0 _ c rfl hι (e ▸ hk)
  have hat := sw_at hh n (sortPs l).toArray os
  have hkeep : ∀ k, G.amb k → (sortWorldK valP 2 w c 0 n (sortPs l).toArray os).heap[k]? = w.heap[k]? := fun k hk => sw_other n _ os (hr.amb_lt k hk) (hapart k hk)
  have hsz := sw_size (w := w) (c := c) n (sortPs l).toArray os
  have hcs : (Go.Sort.putCells id 0 (Go.Sort.flatK valP 2 (sortPs l).toArray) cs).size = cs.size := by simp [Go.Sort.putCells]
  have hgot : ∀ j u, (Go.Sort.putCells id 0 (Go.Sort.flatK valP 2 (sortPs l).toArray) cs)[j]? = some u → (j < l.length * 2 ∧ u = (valP ((sortPs l).toArray[j / 2]!))[j % 2]!) ∨ cs[j]? = some u := by
    intro j u hj
    simp only [Go.Sort.putCells, Array.getElem?_mapIdx, Option.map_eq_some_iff] at hj
    obtain ⟨x, hx, hj⟩ := hj
    split at hj
    · rename_i hlt
      rw [Go.Sort.size_flatK] at hlt
      have h2 := hlt.2
      rw [Nat.zero_add] at h2
      left
      refine ⟨by simpa [sortPs_len] using h2, ?_⟩
      rw [← hj, Nat.sub_zero, Go.Sort.get_flatK _ _ _ _ h2]
      rfl
    · right; rw [hx, hj]
  refine ⟨_, _, _, _, G, rfl, ⟨rfl, rfl, rfl⟩, htup, ⟨fun k hk => Nat.lt_of_lt_of_le (hr.amb_lt k hk) hsz, Nat.le_trans hr.B_le hsz, hr.dom, fun b blk hb => ?_, fun b b' k k' c' hb hb' _ _ => ?_, fun b k c' hb hc' => ?_, fun b c' hc' => Nat.lt_of_lt_of_le (hr.lt b c' hc') hsz, fun b k hb => ?_, hr.gl.to (fun _ h => h) hkeep⟩,
    ⟨rfl, rfl, rfl, hsz, rfl, fun _ h => h, hkeep, fun k m hm => ?_, fun _ _ _ h => h, fun k hk hn => sw_other n _ os hk (fun e => hn 0 (e ▸ hι)), fun k hk _ => .inl hk, fun b k hk _ => ⟨b, hk⟩⟩, Nat.le_refl _⟩
  · rw [hget_cons] at hb
    split at hb
    · rename_i e
      subst e
      cases hb
      refine ⟨fun x hx => ?_, .inr ⟨c, _, hι, hat, ?_, fun he => ?_, hfr, fun j v hj => ?_, fun j u hu => ?_⟩⟩
      · obtain ⟨p, _, rfl⟩ := List.mem_map.1 hx; rfl
      · rw [hcs, flatP_len, sortPs_len, ← flatP_len]; exact hle
      · rw [hcs, flatP_len, sortPs_len, ← flatP_len]; exact hex he
      · obtain ⟨hj', hvr⟩ := flatP _ j v hj
        rw [sortPs_len] at hj'
        have hlt : j < cs.size := by rw [flatP_len] at hle; omega
        obtain ⟨x, hx⟩ : ∃ x, (Go.Sort.putCells id 0 (Go.Sort.flatK valP 2 (sortPs l).toArray) cs)[j]? = some x := ⟨_, Array.getElem?_eq_getElem (by rw [hcs]; exact hlt)⟩
        have hxe : x = (valP ((sortPs l).toArray[j / 2]!))[j % 2]! := by
          simp only [Go.Sort.putCells, Array.getElem?_mapIdx, Option.map_eq_some_iff] at hx
          obtain ⟨y, hy, hx⟩ := hx
          have hj2 : j < (sortPs l).toArray.size * 2 := by simpa [sortPs_len] using hj'
          rw [if_pos ⟨Nat.zero_le _, by rw [Go.Sort.size_flatK, Nat.zero_add]; exact hj2⟩, Nat.sub_zero, Go.Sort.get_flatK _ _ _ _ hj2] at hx
          exact hx.symm
        exact ⟨x, hx, by rw [hxe]; exact oneP _ _, (hvr _ _ _).2 hxe⟩
      · rcases hgot j u hu with ⟨_, rfl⟩ | h
        · exact oneP _ _
        · exact hone j u h
    · simp [hget] at hb
  · rw [hget_cons] at hb hb'
    split at hb
    · split at hb'
      · omega
      · simp [hget] at hb'
    · simp [hget] at hb
  · rw [hget_cons] at hb
    split at hb
    · rename_i e
      subst e
      exact hr.apart 0 _ c' rfl hc'
    · simp [hget] at hb
  · rw [hget_cons] at hb
    split at hb
    · omega
    · simp [hget] at hb
  · by_cases e : k = c
    · subst e
      unfold csz at hm ⊢
      rw [hat]
      rw [hh] at hm
      simpa [hcs] using hm
    · have hlt : k < w.heap.size := by
        unfold csz at hm
        split at hm
        · rename_i e; exact (Array.getElem?_eq_some_iff.1 e).1
        · cases hm
      unfold csz at hm ⊢
      rw [sw_other n _ os hlt e]
      exact hm
end Go.Proofs.YtehhligadnlijaaGreatDoor
