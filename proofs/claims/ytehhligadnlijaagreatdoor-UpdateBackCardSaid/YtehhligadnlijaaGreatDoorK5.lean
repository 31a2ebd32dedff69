/- Joined: H1, H5, J1, J2, J3, J4, J6, R0, P0, R0p, P1, A1, B1, A2, A3, B2, B3, B4, B5, B6, B7, B8, B9, B10, B11, B12, B13, B14, B15, B16, B17, B18, B19, B20, B21. -/
import Derived.Test.YtehhligadnlijaaGreatDoorK4
import Derived.Test.YtehhligadnlijaaGreatDoorK3
import Derived.Lib.Overlaps
import Derived.Test.YtehhligadnlijaaGreatDoorRows
import Derived.Shelf.SlSortCmp.NoneTotal
import Derived.Lib.Small
import Derived.Lib.Walk
import Derived.StillTailTactics
import Derived.Laws.BitsLemmas
set_option linter.unusedVariables false
set_option linter.unusedSimpArgs false
namespace Go.Proofs.YtehhligadnlijaaGreatDoor
open Go.RowKit
open Go.Proofs.Tryz (prog)
attribute [local irreducible] CallV RoundV
theorem right_path {a : Attrs} (h : rightA a = true) : pathOk a.path = true := by simp [rightA] at h; exact h.1.1.1.1.1.2
theorem pathOk_all {l : List Leg} (h : pathOk l = true) : l.length ≤ 8 ∧ ∀ p ∈ l, legOk p = true := by simpa [pathOk] using h
theorem legOk_ns {p : Leg} (h : legOk p = true) : 1 ≤ p.ns.length ∧ p.ns.length ≤ 32 ∧ (p.set = true → rises p.ns = true) ∧ ∀ x ∈ p.ns, x ≠ 0 := by
  simp only [legOk, Bool.and_eq_true, decide_eq_true_eq, Bool.or_eq_true, Bool.not_eq_true', List.all_eq_true, bne_iff_ne] at h
  refine ⟨h.1.1.1, h.1.1.2, fun hs => ?_, h.2⟩
  rcases h.1.2 with h1 | h1
  · rw [hs] at h1; cases h1
  · exact h1
end Go.Proofs.YtehhligadnlijaaGreatDoor
set_option linter.unusedVariables false
set_option linter.unusedSimpArgs false
namespace Go.Proofs.YtehhligadnlijaaGreatDoor
open Go.RowKit
open Go.Proofs.Tryz (prog)
attribute [local irreducible] CallV RoundV
theorem few_of_right {a : Attrs} (h : rightA a = true) : a.path.length ≤ 8 ∧ (∀ p ∈ a.path, p.ns.length ≤ 32) ∧ a.tags.length ≤ 16 ∧ rises a.tags = true := by
  have h1 := pathOk_all (right_path h)
  refine ⟨h1.1, fun p hp => (legOk_ns (h1.2 p hp)).2.1, ?_, ?_⟩
  · simp [rightA] at h; have := h.1.2; omega
  · simp [rightA] at h; exact h.2
end Go.Proofs.YtehhligadnlijaaGreatDoor
set_option linter.unusedVariables false
set_option linter.unusedSimpArgs false
namespace Go.Proofs.YtehhligadnlijaaGreatDoor
open Go.RowKit
theorem wordOf_four (x : UInt32) : wordOf (fourB x) = x := by
  apply UInt32.toNat_inj.1
  have hx := x.toNat_lt
  simp [wordOf, fourB, UInt32.toNat_add, UInt32.toNat_mul, UInt32.toNat_shiftRight, Nat.shiftRight_eq_div_pow]
  omega
theorem four_word {v : List UInt8} (h : v.length = 4) : fourB (wordOf v) = v := by
  obtain ⟨a, b, c, d, rfl⟩ : ∃ a b c d, v = [a, b, c, d] := by
    rcases v with _ | ⟨a, _ | ⟨b, _ | ⟨c, _ | ⟨d, _ | ⟨e, v⟩⟩⟩⟩⟩ <;> simp at h
    exact ⟨a, b, c, d, rfl⟩
  have ha := a.toNat_lt
  have hb := b.toNat_lt
  have hc := c.toNat_lt
  have hd := d.toNat_lt
  simp only [fourB, List.cons.injEq, and_true]
  refine ⟨?_, ?_, ?_, ?_⟩ <;> apply UInt8.toNat_inj.1 <;> simp [wordOf, UInt32.toNat_add, UInt32.toNat_mul, UInt32.toNat_shiftRight, Nat.shiftRight_eq_div_pow] <;> omega
theorem numsK_all (l : List UInt32) (r : List UInt8) : numsK (allB l ++ r) l.length = l := by
  induction l generalizing r with
  | nil => rfl
  | cons x l ih =>
    have h4 : (fourB x).length = 4 := rfl
    have hs : numsK (allB (x :: l) ++ r) (l.length + 1) = wordOf (fourB x) :: numsK (allB l ++ r) l.length := by
      simp only [numsK, List.range_succ_eq_map, List.map_cons, List.map_map]
      have e : allB (x :: l) ++ r = fourB x ++ (allB l ++ r) := by simp [allB]
      rw [e]
      congr 1
      try
        refine List.map_congr_left fun j _ => ?_
        simp only [Function.comp]
        congr 2
    rw [List.length_cons, hs, wordOf_four, ih]
theorem all_nums (v : List UInt8) (m : Nat) (h : v.length = 4 * m) : allB (numsK v m) = v := by
  induction m generalizing v with
  | zero => obtain rfl : v = [] := List.eq_nil_of_length_eq_zero (by omega); rfl
  | succ m ih =>
    have hs : numsK v (m + 1) = wordOf (v.take 4) :: numsK (v.drop 4) m := by
      simp only [numsK, List.range_succ_eq_map, List.map_cons, List.map_map]
      congr 1
      refine List.map_congr_left fun j _ => ?_
      simp only [Function.comp]
      rw [show 4 * (j + 1) = 4 + 4 * j by omega, ← List.drop_drop]
    rw [hs]
    show fourB (wordOf (v.take 4)) ++ allB (numsK (v.drop 4) m) = v
    rw [four_word (by simp; omega), ih (v.drop 4) (by simp; omega), List.take_append_drop]
theorem legs_path : ∀ (l : List Leg), (∀ p ∈ l, p.ns.length ≤ 32) → legs (pathB l) = some (l.map fun p => (kindB p, p.ns))
  | [], _ => by simp [pathB, legs_nil]
  | p :: l, h => by
    have hp := h p (by simp)
    have hn : (UInt8.ofNat p.ns.length).toNat = p.ns.length := by simp [UInt8.toNat_ofNat']; omega
    have e : pathB (p :: l) = kindB p :: UInt8.ofNat p.ns.length :: (allB p.ns ++ pathB l) := by simp [pathB, legB]
    have hl : (allB p.ns ++ pathB l).length = 4 * p.ns.length + (pathB l).length := by rw [List.length_append, allB_len]
    rw [e, legs_go (by rw [hn]; omega), hn, List.drop_left' (by rw [allB_len]), legs_path l (fun q hq => h q (by simp [hq])), numsK_all]
    rfl
theorem legOf_kind (p : Leg) : legOf (kindB p, p.ns) = p := by
  obtain ⟨s, ns⟩ := p
  cases s <;> simp [legOf, kindB]
theorem kindOk_kind (p : Leg) : kindOk (kindB p) = true := by
  obtain ⟨s, ns⟩ := p
  cases s <;> simp [kindOk, kindB]
theorem path_legs : ∀ (n : Nat) (v : List UInt8), v.length = n → ∀ l, legs v = some l → (∀ p ∈ l, kindOk p.1 = true) → (∀ p ∈ l, p.2.length ≤ 255) ∧ pathB (l.map legOf) = v := by
  intro n
  induction n using Nat.strongRecOn with
  | ind n ih =>
    intro v hn l hl hk
    rcases v with _ | ⟨x, _ | ⟨m, r⟩⟩
    · rw [legs_nil] at hl; cases hl; exact ⟨by simp, rfl⟩
    · rw [legs_one] at hl; cases hl
    · by_cases hr : r.length < 4 * m.toNat
      · rw [legs_no hr] at hl; cases hl
      rw [legs_go hr] at hl
      cases hq : legs (r.drop (4 * m.toNat)) with
      | none => rw [hq] at hl; cases hl
      | some l' =>
        rw [hq] at hl
        simp only [Option.map_some, Option.some.injEq] at hl
        subst hl
        obtain ⟨h1, h2⟩ := ih (r.drop (4 * m.toNat)).length (by rw [← hn]; simp; omega) _ rfl l' hq (fun p hp => hk p (by simp [hp]))
        have hm := m.toNat_lt
        have hx := hk (x, numsK r m.toNat) (by simp)
        refine ⟨fun p hp => ?_, ?_⟩
        · rcases List.mem_cons.1 hp with rfl | hp
          · simp [numsK_len]; omega
          · exact h1 p hp
        · show legB (legOf (x, numsK r m.toNat)) ++ pathB (l'.map legOf) = _
          rw [h2]
          have hkb : kindB (legOf (x, numsK r m.toNat)) = x := by
            simp only [kindOk, Bool.or_eq_true, beq_iff_eq] at hx
            rcases hx with rfl | rfl <;> simp [legOf, kindB]
          have e : allB (numsK r m.toNat) = r.take (4 * m.toNat) := by
            have := all_nums (r.take (4 * m.toNat)) m.toNat (by simp; omega)
            rw [numsK_take _ _ _ (Nat.le_refl _)] at this
            exact this
          simp only [legB, hkb]
          have hne : (legOf (x, numsK r m.toNat)).ns = numsK r m.toNat := rfl
          rw [hne, numsK_len, e]
          have hmm : UInt8.ofNat m.toNat = m := by simp
          rw [hmm]
          simp
end Go.Proofs.YtehhligadnlijaaGreatDoor
set_option linter.unusedVariables false
set_option linter.unusedSimpArgs false
namespace Go.Proofs.YtehhligadnlijaaGreatDoor
open Go.RowKit
theorem head_attr {f c : UInt8} {v rest : List UInt8} {last : Nat} (hf : flagsI c.toNat = f.toNat) (hf3 : f = 64 ∨ f = 128 ∨ f = 192) (hc : last < c.toNat) (hv : v.length < 65536) :
    attrB f c v ++ rest ≠ [] ∧ headE (attrB f c v ++ rest) last = 0 ∧ byteN (attrB f c v ++ rest) 1 = c.toNat ∧ valB (attrB f c v ++ rest) = v ∧ restB (attrB f c v ++ rest) = rest := by
  have hfl : 0 ≤ flagsI c.toNat := by rw [hf]; omega
  by_cases hl : 255 < v.length
  · have e : attrB f c v ++ rest = (f + 16) :: c :: UInt8.ofNat (v.length / 256) :: UInt8.ofNat (v.length % 256) :: (v ++ rest) := by simp [attrB, hl]
    have h0 : (f + 16).toNat = f.toNat + 16 := by rcases hf3 with rfl | rfl | rfl <;> rfl
    have b0 : byteN (attrB f c v ++ rest) 0 = f.toNat + 16 := by rw [e]; simp [byteN, h0]
    have b1 : byteN (attrB f c v ++ rest) 1 = c.toNat := by rw [e]; simp [byteN]
    have b2 : byteN (attrB f c v ++ rest) 2 = v.length / 256 := by rw [e]; simp [byteN, UInt8.toNat_ofNat']; omega
    have b3 : byteN (attrB f c v ++ rest) 3 = v.length % 256 := by rw [e]; simp [byteN, UInt8.toNat_ofNat']
    have lg : lngB (attrB f c v ++ rest) = true := by rw [lngB, b0]; rcases hf3 with rfl | rfl | rfl <;> rfl
    have nb : numB (attrB f c v ++ rest) = v.length := by simp only [numB, lg, if_true, b2, b3]; omega
    have at' : atB (attrB f c v ++ rest) = 4 := by simp [atB, lg]
    have len : (attrB f c v ++ rest).length = 4 + v.length + rest.length := by rw [e]; simp; omega
    refine ⟨by rw [e]; simp, ?_, b1, ?_, ?_⟩
    · unfold headE
      rw [if_neg (by omega), if_neg (by rw [len]; omega), if_neg (by rw [at', nb]; omega), if_neg (by rw [b1]; omega), if_neg, if_neg (by rw [b1]; omega)]
      rw [b0, b1, lg, nb, hf]
      simp [hl]
    · rw [valB, at', nb, e]; simp
    · rw [restB, at', nb, e, ← List.drop_drop]; simp
  · have e : attrB f c v ++ rest = f :: c :: UInt8.ofNat v.length :: (v ++ rest) := by simp [attrB, hl]
    have b0 : byteN (attrB f c v ++ rest) 0 = f.toNat := by rw [e]; simp [byteN]
    have b1 : byteN (attrB f c v ++ rest) 1 = c.toNat := by rw [e]; simp [byteN]
    have b2 : byteN (attrB f c v ++ rest) 2 = v.length := by rw [e]; simp [byteN, UInt8.toNat_ofNat']; omega
    have lg : lngB (attrB f c v ++ rest) = false := by rw [lngB, b0]; rcases hf3 with rfl | rfl | rfl <;> rfl
    have nb : numB (attrB f c v ++ rest) = v.length := by simp [numB, lg, b2]
    have at' : atB (attrB f c v ++ rest) = 3 := by simp [atB, lg]
    have len : (attrB f c v ++ rest).length = 3 + v.length + rest.length := by rw [e]; simp; omega
    refine ⟨by rw [e]; simp, ?_, b1, ?_, ?_⟩
    · unfold headE
      rw [if_neg (by omega), if_neg (by rw [lg]; simp), if_neg (by rw [at', nb]; omega), if_neg (by rw [b1]; omega), if_neg, if_neg (by rw [b1]; omega)]
      rw [b0, b1, lg, nb, hf]
      simp [hl]
    · rw [valB, at', nb, e]; simp
    · rw [restB, at', nb, e, ← List.drop_drop]; simp
theorem head_inv {b : List UInt8} {last : Nat} (h : headE b last = 0) : ∃ f c : UInt8, flagsI c.toNat = f.toNat ∧ b = attrB f c (valB b) ++ restB b ∧ last < c.toNat ∧ byteN b 1 = c.toNat ∧ (valB b).length < 65536 := by
  unfold headE at h
  split at h
  · cases h
  split at h
  · cases h
  split at h
  · cases h
  split at h
  · cases h
  rename_i h1 h2 h3 h4
  by_cases h5 : ((byteN b 0 : Int) - (if lngB b then 16 else 0) ≠ flagsI (byteN b 1) ∨ lngB b ≠ decide (255 < numB b))
  · rw [if_pos h5] at h; cases h
  rw [if_neg h5] at h
  split at h
  · cases h
  rename_i h6
  obtain ⟨x, c, n, r, rfl⟩ : ∃ x c n r, b = x :: c :: n :: r := by
    rcases b with _ | ⟨x, _ | ⟨c, _ | ⟨n, r⟩⟩⟩ <;> simp at h1
    exact ⟨x, c, n, r, rfl⟩
  have b0 : byteN (x :: c :: n :: r) 0 = x.toNat := by simp [byteN]
  have b1 : byteN (x :: c :: n :: r) 1 = c.toNat := by simp [byteN]
  have b2 : byteN (x :: c :: n :: r) 2 = n.toNat := by simp [byteN]
  rw [b0, b1] at h5
  rw [b1] at h6 h4
  have hn := n.toNat_lt
  have hx := x.toNat_lt
  cases lg : lngB (x :: c :: n :: r) with
  | false =>
    have nb : numB (x :: c :: n :: r) = n.toNat := by simp [numB, lg, b2]
    have at' : atB (x :: c :: n :: r) = 3 := by simp [atB, lg]
    rw [at', nb] at h3
    have hlen : n.toNat ≤ r.length := by simp at h3; omega
    have hv : valB (x :: c :: n :: r) = r.take n.toNat := by rw [valB, at', nb]; rfl
    have hr : restB (x :: c :: n :: r) = r.drop n.toNat := by rw [restB, at', nb, ← List.drop_drop]; rfl
    rw [lg, nb] at h5
    refine ⟨x, c, ?_, ?_, by omega, b1, ?_⟩
    · simp at h5; omega
    · rw [hv, hr, attrB, if_neg (by simp; omega)]
      simp [Nat.min_eq_left hlen]
    · rw [hv]; simp; omega
  | true =>
    obtain ⟨m, r, rfl⟩ : ∃ m r', r = m :: r' := by
      rcases r with _ | ⟨m, r⟩
      · simp [lg] at h2
      · exact ⟨m, r, rfl⟩
    have hm := m.toNat_lt
    have b3 : byteN (x :: c :: n :: m :: r) 3 = m.toNat := by simp [byteN]
    have nb : numB (x :: c :: n :: m :: r) = 256 * n.toNat + m.toNat := by simp [numB, lg, b2, b3]
    have at' : atB (x :: c :: n :: m :: r) = 4 := by simp [atB, lg]
    rw [at', nb] at h3
    have hlen : 256 * n.toNat + m.toNat ≤ r.length := by simp at h3; omega
    have hv : valB (x :: c :: n :: m :: r) = r.take (256 * n.toNat + m.toNat) := by rw [valB, at', nb]; rfl
    have hr : restB (x :: c :: n :: m :: r) = r.drop (256 * n.toNat + m.toNat) := by rw [restB, at', nb, ← List.drop_drop]; rfl
    rw [lg, nb] at h5
    have hx16 : 16 ≤ x.toNat := by
      rw [lngB, b0] at lg
      simp at lg
      omega
    have hbig : 255 < 256 * n.toNat + m.toNat := by simp at h5; omega
    have hx' : (x - 16).toNat = x.toNat - 16 := by rw [UInt8.toNat_sub_of_le]; rfl; rw [UInt8.le_iff_toNat_le]; exact hx16
    refine ⟨x - 16, c, ?_, ?_, by omega, b1, ?_⟩
    · rw [hx']; simp at h5; omega
    · rw [hv, hr, attrB, if_pos (by simp; omega)]
      have hl2 : (r.take (256 * n.toNat + m.toNat)).length = 256 * n.toNat + m.toNat := by simp; omega
      rw [hl2, show (256 * n.toNat + m.toNat) / 256 = n.toNat by omega, show (256 * n.toNat + m.toNat) % 256 = m.toNat by omega]
      simp
    · rw [hv]; simp; omega
end Go.Proofs.YtehhligadnlijaaGreatDoor
set_option linter.unusedVariables false
set_option linter.unusedSimpArgs false
namespace Go.Proofs.YtehhligadnlijaaGreatDoor
open Go.RowKit
theorem parse_step {f c : UInt8} {v rest : List UInt8} {last seen : Nat} {a : Attrs} (hf : flagsI c.toNat = f.toNat) (hf3 : f = 64 ∨ f = 128 ∨ f = 192) (hc : last < c.toNat) (hv : v.length < 65536) (he : lowE c.toNat v = 0) :
    parseA (attrB f c v ++ rest) last seen a = parseA rest c.toNat (if c.toNat ≤ 3 then seen + 1 else seen) (lowA c.toNat a v) := by
  obtain ⟨h1, h2, h3, h4, h5⟩ := head_attr (rest := rest) hf hf3 hc hv
  rw [parseA_go h1 h2 (by rw [h3, h4]; exact he), h3, h4, h5]
theorem rightA_parts {a : Attrs} (h : rightA a = true) : a.origin.toNat ≤ 2 ∧ pathOk a.path = true ∧ a.next ≠ 0 ∧ (a.hasMed = false → a.med = 0) ∧ (a.hasPref = false → a.pref = 0) ∧ a.tags.length ≤ 16 ∧ rises a.tags = true := by
  simp only [rightA, Bool.and_eq_true, decide_eq_true_eq, Bool.or_eq_true, bne_iff_ne, ne_eq, beq_iff_eq] at h
  obtain ⟨⟨⟨⟨⟨⟨h1, h2⟩, h3⟩, h4⟩, h5⟩, h6⟩, h7⟩ := h
  refine ⟨by omega, h2, h3, fun e => ?_, fun e => ?_, by omega, h7⟩
  · rcases h4 with h | h
    · rw [e] at h; cases h
    · exact h
  · rcases h5 with h | h
    · rw [e] at h; cases h
    · exact h
theorem rightA_of {a : Attrs} (h1 : a.origin.toNat ≤ 2) (h2 : pathOk a.path = true) (h3 : a.next ≠ 0) (h4 : a.hasMed = false → a.med = 0) (h5 : a.hasPref = false → a.pref = 0) (h6 : a.tags.length ≤ 16) (h7 : rises a.tags = true) : rightA a = true := by
  simp only [rightA, Bool.and_eq_true, decide_eq_true_eq, Bool.or_eq_true, bne_iff_ne, ne_eq, beq_iff_eq]
  refine ⟨⟨⟨⟨⟨⟨by omega, h2⟩, h3⟩, ?_⟩, ?_⟩, by omega⟩, h7⟩
  · cases e : a.hasMed with
    | true => exact .inl rfl
    | false => exact .inr (h4 e)
  · cases e : a.hasPref with
    | true => exact .inl rfl
    | false => exact .inr (h5 e)
theorem pathE_ok {l : List Leg} (h : pathOk l = true) : pathE (pathB l) = 0 ∧ pathA (pathB l) = l := by
  have hall := (pathOk_all h).2
  have hl := legs_path l (fun p hp => (legOk_ns (hall p hp)).2.1)
  have hm : (l.map fun p => (kindB p, p.ns)).map legOf = l := by
    rw [List.map_map]
    conv => rhs; rw [← List.map_id l]
    exact List.map_congr_left fun p _ => legOf_kind p
  constructor
  · rw [pathE, hl]
    simp only
    rw [hm, h]
    have : (l.map fun p => (kindB p, p.ns)).all (fun p => kindOk p.1) = true := by
      rw [List.all_eq_true]
      intro p hp
      obtain ⟨q, _, rfl⟩ := List.mem_map.1 hp
      exact kindOk_kind q
    rw [this]; rfl
  · rw [pathA, hl]; exact hm
theorem pathB_short {l : List Leg} (h : pathOk l = true) : (pathB l).length < 65536 := by
  have h1 := pathOk_all h
  have := pathB_len (l := l) (fun p hp => by have := (legOk_ns (h1.2 p hp)).2.1; omega)
  omega
theorem low8 {v : List UInt8} (h1 : v.length ≠ 0) (h2 : v.length % 4 = 0) (h3 : v.length / 4 ≤ 16) (h4 : rises (numsK v (v.length / 4)) = true) : lowE 8 v = 0 := by
  have h5 : ¬ (16 < v.length / 4 ∨ rises (numsK v (v.length / 4)) = false) := by rw [h4]; simp; omega
  have h6 : ¬ (v.length = 0 ∨ v.length % 4 ≠ 0) := by omega
  simp only [lowE]
  rw [if_neg (by decide), if_neg (by decide), if_neg (by decide), if_neg (by decide), if_neg (by decide), if_neg h6, if_neg h5]
theorem low3 {v : List UInt8} (h1 : v.length = 4) (h2 : wordOf v ≠ 0) : lowE 3 v = 0 := by simp [lowE, h1, h2]
theorem tagsE {l : List UInt32} (h0 : l ≠ []) (h16 : l.length ≤ 16) (hr : rises l = true) : lowE 8 (allB l) = 0 ∧ numsK (allB l) ((allB l).length / 4) = l := by
  have hl := allB_len l
  have hn : numsK (allB l) l.length = l := by have := numsK_all l []; rwa [List.append_nil] at this
  have hp := List.length_pos_iff.2 h0
  have hd : (allB l).length / 4 = l.length := by omega
  constructor
  · refine low8 (by omega) (by omega) (by omega) ?_
    rw [hd, hn]; exact hr
  · rw [hd, hn]
theorem raw_parse {a : Attrs} (h : rightA a = true) : parseA (rawA a) 0 0 noA = (a, 0) := by
  obtain ⟨h1, h2, h3, h4, h5, h6, h7⟩ := rightA_parts h
  obtain ⟨p1, p2⟩ := pathE_ok h2
  simp only [rawA, rawO, List.append_assoc]
  rw [parse_step (f := 64) (c := 1) rfl (by decide) (by decide) (by simp) (by simp [lowE]; omega)]
  rw [parse_step (f := 64) (c := 2) rfl (by decide) (by decide) (pathB_short h2) (by simpa [lowE] using p1)]
  rw [parse_step (f := 64) (c := 3) rfl (by decide) (by decide) (by simp [fourB]) (low3 rfl (by rw [wordOf_four]; exact h3))]
  obtain ⟨o, l, nn, hm, m, hq, q, tg⟩ := a
  simp only at *
  have e1 : lowA (UInt8.toNat 3) (lowA (UInt8.toNat 2) (lowA (UInt8.toNat 1) noA [o]) (pathB l)) (fourB nn) = ⟨o, l, nn, false, 0, false, 0, []⟩ := by
    simp [lowA, noA, p2, wordOf_four]
  rw [e1]
  have s1 : (if UInt8.toNat 3 ≤ 3 then (if UInt8.toNat 2 ≤ 3 then (if UInt8.toNat 1 ≤ 3 then 0 + 1 else 0) + 1 else if UInt8.toNat 1 ≤ 3 then 0 + 1 else 0) + 1 else if UInt8.toNat 2 ≤ 3 then (if UInt8.toNat 1 ≤ 3 then 0 + 1 else 0) + 1 else if UInt8.toNat 1 ≤ 3 then 0 + 1 else 0) = 3 := rfl
  rw [s1]
  have last : ∀ k, k < 8 → parseA (if 0 < tg.length then attrB 192 8 (allB tg) else []) k 3 ⟨o, l, nn, hm, m, hq, q, []⟩ = (⟨o, l, nn, hm, m, hq, q, tg⟩, 0) := by
    intro k hk
    rcases tg with _ | ⟨t, tg⟩
    · simp [parseA_nil]
    · obtain ⟨t1, t2⟩ := tagsE (l := t :: tg) (by simp) h6 h7
      have := parse_step (f := 192) (c := 8) (v := allB (t :: tg)) (rest := []) (last := k) (seen := 3) (a := ⟨o, l, nn, hm, m, hq, q, []⟩) rfl (by decide) (by simpa using hk) (by rw [allB_len]; omega) t1
      rw [List.append_nil] at this
      rw [if_pos (by simp), this, parseA_nil]
      simp [lowA, t2]
  have pref : ∀ k, k < 5 → parseA ((if hq then attrB 64 5 (fourB q) else []) ++ (if 0 < tg.length then attrB 192 8 (allB tg) else [])) k 3 ⟨o, l, nn, hm, m, false, 0, []⟩ = (⟨o, l, nn, hm, m, hq, q, tg⟩, 0) := by
    intro k hk
    cases hq with
    | false =>
      obtain rfl := h5 rfl
      simpa using last k (by omega)
    | true =>
      rw [if_pos rfl, parse_step (f := 64) (c := 5) rfl (by decide) (by simpa using hk) (by simp [fourB]) (by simp [lowE, fourB])]
      have := last 5 (by omega)
      simpa [lowA, wordOf_four] using this
  cases hm with
  | false =>
    obtain rfl := h4 rfl
    simpa using pref 3 (by omega)
  | true =>
    rw [if_pos rfl, parse_step (f := 128) (c := 4) rfl (by decide) (by decide) (by simp [fourB]) (by simp [lowE, fourB])]
    have := pref 4 (by omega)
    simpa [lowA, wordOf_four] using this
end Go.Proofs.YtehhligadnlijaaGreatDoor
set_option linter.unusedVariables false
set_option linter.unusedSimpArgs false
namespace Go.Proofs.YtehhligadnlijaaGreatDoor
open Go.RowKit
def tailB (x : Attrs) (last : Nat) (p1 p2 p3 : Bool) : List UInt8 :=
  (if p1 then attrB 64 1 [x.origin] else []) ++ ((if p2 then attrB 64 2 (pathB x.path) else []) ++ ((if p3 then attrB 64 3 (fourB x.next) else []) ++
    ((if decide (last < 4) && x.hasMed then attrB 128 4 (fourB x.med) else []) ++ ((if decide (last < 5) && x.hasPref then attrB 64 5 (fourB x.pref) else []) ++ (if decide (last < 8) && decide (0 < x.tags.length) then attrB 192 8 (allB x.tags) else [])))))
structure Inv (a : Attrs) (last : Nat) : Prop where
  med : last < 4 → a.hasMed = false ∧ a.med = 0
  pref : last < 5 → a.hasPref = false ∧ a.pref = 0
  tags : last < 8 → a.tags = []
structure Rd (b : List UInt8) (last seen : Nat) (a x : Attrs) (p1 p2 p3 : Bool) : Prop where
  l1 : p1 = true → last < 1
  l2 : p2 = true → last < 2
  l3 : p3 = true → last < 3
  n : seen + p1.toNat + p2.toNat + p3.toNat = 3
  eq : b = tailB x last p1 p2 p3
  o : p1 = false → x.origin = a.origin
  p : p2 = false → x.path = a.path
  nx : p3 = false → x.next = a.next
  med : 4 ≤ last → x.hasMed = a.hasMed ∧ x.med = a.med
  pref : 5 ≤ last → x.hasPref = a.hasPref ∧ x.pref = a.pref
  tags : 8 ≤ last → x.tags = a.tags
  vo : p1 = true → x.origin.toNat ≤ 2
  vp : p2 = true → pathOk x.path = true
  vn : p3 = true → x.next ≠ 0
  vm : last < 4 → x.hasMed = false → x.med = 0
  vq : last < 5 → x.hasPref = false → x.pref = 0
  vt : last < 8 → x.tags.length ≤ 16 ∧ rises x.tags = true
theorem low1_inv {v : List UInt8} (h : lowE 1 v = 0) : ∃ o, v = [o] ∧ o.toNat ≤ 2 := by
  rcases v with _ | ⟨o, _ | ⟨q, v⟩⟩
  · simp [lowE] at h
  · refine ⟨o, rfl, ?_⟩
    simp [lowE] at h
    omega
  · simp [lowE] at h
theorem low2_inv {v : List UInt8} (h : lowE 2 v = 0) : pathOk (pathA v) = true ∧ pathB (pathA v) = v := by
  simp only [lowE] at h
  rw [if_neg (by decide), if_pos trivial, pathE] at h
  rw [pathA]
  cases hl : legs v with
  | none => rw [hl] at h; cases h
  | some l =>
    rw [hl] at h
    simp only at h ⊢
    split at h
    · rename_i hh
      rw [Bool.and_eq_true] at hh
      exact ⟨hh.2, (path_legs _ v rfl l hl (List.all_eq_true.1 hh.1)).2⟩
    · cases h
theorem low3_inv {v : List UInt8} (h : lowE 3 v = 0) : v.length = 4 ∧ wordOf v ≠ 0 := by
  simp only [lowE] at h
  rw [if_neg (by decide), if_neg (by decide), if_pos trivial] at h
  split at h
  · cases h
  split at h
  · cases h
  rename_i h1 h2
  exact ⟨by omega, h2⟩
theorem low45_inv {c : Nat} (hc : c = 4 ∨ c = 5) {v : List UInt8} (h : lowE c v = 0) : v.length = 4 := by
  rcases hc with rfl | rfl
  · simp only [lowE] at h
    rw [if_neg (by decide), if_neg (by decide), if_neg (by decide), if_pos trivial] at h
    split at h
    · cases h
    · omega
  · simp only [lowE] at h
    rw [if_neg (by decide), if_neg (by decide), if_neg (by decide), if_neg (by decide), if_pos trivial] at h
    split at h
    · cases h
    · omega
theorem low8_inv {v : List UInt8} (h : lowE 8 v = 0) : v.length ≠ 0 ∧ v.length % 4 = 0 ∧ v.length / 4 ≤ 16 ∧ rises (numsK v (v.length / 4)) = true := by
  simp only [lowE] at h
  rw [if_neg (by decide), if_neg (by decide), if_neg (by decide), if_neg (by decide), if_neg (by decide)] at h
  split at h
  · cases h
  split at h
  · cases h
  rename_i h1 h2
  refine ⟨by omega, by omega, by omega, ?_⟩
  cases hr : rises (numsK v (v.length / 4)) with
  | true => rfl
  | false => exact absurd (.inr hr) h2
theorem flags_codes {c f : UInt8} (h : flagsI c.toNat = f.toNat) : (c = 1 ∧ f = 64) ∨ (c = 2 ∧ f = 64) ∨ (c = 3 ∧ f = 64) ∨ (c = 4 ∧ f = 128) ∨ (c = 5 ∧ f = 64) ∨ (c = 8 ∧ f = 192) := by
  have key : ∀ (k : Nat) (g : Nat), k < 256 → g < 256 → c.toNat = k → f.toNat = g → c = UInt8.ofNat k ∧ f = UInt8.ofNat g := fun k g hk hg h1 h2 => ⟨by rw [← h1]; simp, by rw [← h2]; simp⟩
  have hf := f.toNat_lt
  unfold flagsI at h
  split at h
  · rename_i e; exact .inl (key 1 64 (by omega) (by omega) e (by omega))
  split at h
  · rename_i e; exact .inr (.inl (key 2 64 (by omega) (by omega) e (by omega)))
  split at h
  · rename_i e; exact .inr (.inr (.inl (key 3 64 (by omega) (by omega) e (by omega))))
  split at h
  · rename_i e; exact .inr (.inr (.inr (.inr (.inl (key 5 64 (by omega) (by omega) e (by omega))))))
  split at h
  · rename_i e; exact .inr (.inr (.inr (.inl (key 4 128 (by omega) (by omega) e (by omega)))))
  split at h
  · rename_i e; exact .inr (.inr (.inr (.inr (.inr (key 8 192 (by omega) (by omega) e (by omega))))))
  · omega
theorem parse_rd : ∀ (n : Nat) (b : List UInt8), b.length = n → ∀ (last seen : Nat) (a x : Attrs), Inv a last → parseA b last seen a = (x, 0) → ∃ p1 p2 p3, Rd b last seen a x p1 p2 p3 := by
  intro n
  induction n using Nat.strongRecOn with
  | ind n ih =>
    intro b hn last seen a x hi hp
    by_cases hb : b = []
    · subst hb
      rw [parseA_nil] at hp
      split at hp
      · rename_i h3
        obtain rfl : a = x := by cases hp; rfl
        refine ⟨false, false, false, ⟨by simp, by simp, by simp, by simpa using h3, ?_, fun _ => rfl, fun _ => rfl, fun _ => rfl, fun _ => ⟨rfl, rfl⟩, fun _ => ⟨rfl, rfl⟩, fun _ => rfl, by simp, by simp, by simp, fun h _ => (hi.med h).2, fun h _ => (hi.pref h).2, fun h => by rw [hi.tags h]; simp [rises]⟩⟩
        have e1 : (decide (last < 4) && a.hasMed) = false := by
          by_cases h : last < 4
          · simp [(hi.med h).1]
          · simp [h]
        have e2 : (decide (last < 5) && a.hasPref) = false := by
          by_cases h : last < 5
          · simp [(hi.pref h).1]
          · simp [h]
        have e3 : (decide (last < 8) && decide (0 < a.tags.length)) = false := by
          by_cases h : last < 8
          · simp [hi.tags h]
          · simp [h]
        simp only [tailB, e1, e2, e3]; rfl
      · cases hp
    by_cases hh : headE b last = 0
    case neg =>
      rw [parseA_head hb hh] at hp
      exact absurd (congrArg Prod.snd hp) hh
    obtain ⟨f, c, hf, hbe, hlc, hb1, hvl⟩ := head_inv hh
    by_cases hw : lowE (byteN b 1) (valB b) = 0
    case neg =>
      rw [parseA_low hb hh hw] at hp
      exact absurd (congrArg Prod.snd hp) hw
    rw [parseA_go hb hh hw, hb1] at hp
    rw [hb1] at hw
    have hlt := restB_lt hb
    rw [hn] at hlt
    generalize hv : valB b = v at *
    generalize hr : restB b = r at *
    rcases flags_codes hf with ⟨rfl, rfl⟩ | ⟨rfl, rfl⟩ | ⟨rfl, rfl⟩ | ⟨rfl, rfl⟩ | ⟨rfl, rfl⟩ | ⟨rfl, rfl⟩
    · obtain ⟨o, rfl, ho⟩ := low1_inv hw
      have hlast : last = 0 := by have : (1 : UInt8).toNat = 1 := rfl; omega
      subst hlast
      obtain ⟨p1, p2, p3, R⟩ := ih _ hlt r rfl 1 (seen + 1) (lowA 1 a [o]) x ⟨fun _ => hi.med (by omega), fun _ => hi.pref (by omega), fun _ => hi.tags (by omega)⟩ hp
      have hp1 : p1 = false := by cases p1 with | false => rfl | true => have := R.l1 rfl; omega
      subst hp1
      have hxo : x.origin = o := R.o rfl
      refine ⟨true, p2, p3, ⟨fun _ => by omega, fun _ => by omega, fun _ => by omega, by have := R.n; simp at this ⊢; omega, ?_, by simp, R.p, R.nx, by simp, by simp, by simp, fun _ => by rw [hxo]; exact ho, R.vp, R.vn, fun _ => R.vm (by omega), fun _ => R.vq (by omega), fun _ => R.vt (by omega)⟩⟩
      rw [hbe, R.eq]
      simp [tailB, hxo]
    · obtain ⟨ho, hpb⟩ := low2_inv hw
      have hlast : last < 2 := hlc
      obtain ⟨p1, p2, p3, R⟩ := ih _ hlt r rfl 2 (seen + 1) (lowA 2 a v) x ⟨fun _ => hi.med (by omega), fun _ => hi.pref (by omega), fun _ => hi.tags (by omega)⟩ hp
      have hp1 : p1 = false := by cases p1 with | false => rfl | true => have := R.l1 rfl; omega
      have hp2 : p2 = false := by cases p2 with | false => rfl | true => have := R.l2 rfl; omega
      subst hp1 hp2
      have hxo : x.path = pathA v := R.p rfl
      refine ⟨false, true, p3, ⟨by simp, fun _ => hlast, fun h => by omega, by have := R.n; simp at this ⊢; omega, ?_, fun _ => R.o rfl, by simp, R.nx, fun h => by omega, fun h => by omega, fun h => by omega, by simp, fun _ => by rw [hxo]; exact ho, R.vn, fun _ => R.vm (by omega), fun _ => R.vq (by omega), fun _ => R.vt (by omega)⟩⟩
      rw [hbe, R.eq]
      simp [tailB, hxo, hpb, show last < 4 by omega, show last < 5 by omega, show last < 8 by omega]
    · obtain ⟨h4, ho⟩ := low3_inv hw
      have hlast : last < 3 := hlc
      obtain ⟨p1, p2, p3, R⟩ := ih _ hlt r rfl 3 (seen + 1) (lowA 3 a v) x ⟨fun _ => hi.med (by omega), fun _ => hi.pref (by omega), fun _ => hi.tags (by omega)⟩ hp
      have hp1 : p1 = false := by cases p1 with | false => rfl | true => have := R.l1 rfl; omega
      have hp2 : p2 = false := by cases p2 with | false => rfl | true => have := R.l2 rfl; omega
      have hp3 : p3 = false := by cases p3 with | false => rfl | true => have := R.l3 rfl; omega
      subst hp1 hp2 hp3
      have hxo : x.next = wordOf v := R.nx rfl
      refine ⟨false, false, true, ⟨by simp, by simp, fun _ => hlast, by have := R.n; simp at this ⊢; omega, ?_, fun _ => R.o rfl, fun _ => R.p rfl, by simp, fun h => by omega, fun h => by omega, fun h => by omega, by simp, by simp, fun _ => by rw [hxo]; exact ho, fun _ => R.vm (by omega), fun _ => R.vq (by omega), fun _ => R.vt (by omega)⟩⟩
      rw [hbe, R.eq]
      simp [tailB, hxo, four_word h4, show last < 4 by omega, show last < 5 by omega, show last < 8 by omega]
    · have h4 := low45_inv (.inl rfl) hw
      have hlast : last < 4 := hlc
      obtain ⟨p1, p2, p3, R⟩ := ih _ hlt r rfl 4 seen (lowA 4 a v) x ⟨fun h => absurd h (by omega), fun _ => hi.pref (by omega), fun _ => hi.tags (by omega)⟩ hp
      have hp1 : p1 = false := by cases p1 with | false => rfl | true => have := R.l1 rfl; omega
      have hp2 : p2 = false := by cases p2 with | false => rfl | true => have := R.l2 rfl; omega
      have hp3 : p3 = false := by cases p3 with | false => rfl | true => have := R.l3 rfl; omega
      subst hp1 hp2 hp3
      obtain ⟨hx1, hx2⟩ : x.hasMed = true ∧ x.med = wordOf v := R.med (by omega)
      refine ⟨false, false, false, ⟨by simp, by simp, by simp, R.n, ?_, fun _ => R.o rfl, fun _ => R.p rfl, fun _ => R.nx rfl, fun h => by omega, fun h => by omega, fun h => by omega, by simp, by simp, by simp, fun _ h => (by rw [hx1] at h; cases h), fun _ => R.vq (by omega), fun _ => R.vt (by omega)⟩⟩
      rw [hbe, R.eq]
      simp [tailB, hx1, hx2, four_word h4, hlast, show last < 5 by omega, show last < 8 by omega]
    · have h4 := low45_inv (.inr rfl) hw
      have hlast : last < 5 := hlc
      obtain ⟨p1, p2, p3, R⟩ := ih _ hlt r rfl 5 seen (lowA 5 a v) x ⟨fun h => absurd h (by omega), fun h => absurd h (by omega), fun _ => hi.tags (by omega)⟩ hp
      have hp1 : p1 = false := by cases p1 with | false => rfl | true => have := R.l1 rfl; omega
      have hp2 : p2 = false := by cases p2 with | false => rfl | true => have := R.l2 rfl; omega
      have hp3 : p3 = false := by cases p3 with | false => rfl | true => have := R.l3 rfl; omega
      subst hp1 hp2 hp3
      obtain ⟨hx1, hx2⟩ : x.hasPref = true ∧ x.pref = wordOf v := R.pref (by omega)
      obtain ⟨hx3, hx4⟩ : x.hasMed = a.hasMed ∧ x.med = a.med := R.med (by omega)
      refine ⟨false, false, false, ⟨by simp, by simp, by simp, R.n, ?_, fun _ => R.o rfl, fun _ => R.p rfl, fun _ => R.nx rfl, fun h => ⟨hx3, hx4⟩, fun h => by omega, fun h => by omega, by simp, by simp, by simp, fun h _ => by rw [hx4]; exact (hi.med h).2, fun _ h => (by rw [hx1] at h; cases h), fun _ => R.vt (by omega)⟩⟩
      rw [hbe, R.eq]
      have e1 : (decide (last < 4) && x.hasMed) = false := by
        by_cases h : last < 4
        · rw [hx3]; simp [(hi.med h).1]
        · simp [h]
      simp [tailB, e1, hx1, hx2, four_word h4, hlast, show last < 8 by omega]
    · obtain ⟨h0, h4, h16, hri⟩ := low8_inv hw
      have hlast : last < 8 := hlc
      obtain ⟨p1, p2, p3, R⟩ := ih _ hlt r rfl 8 seen (lowA 8 a v) x ⟨fun h => absurd h (by omega), fun h => absurd h (by omega), fun h => absurd h (by omega)⟩ hp
      have hp1 : p1 = false := by cases p1 with | false => rfl | true => have := R.l1 rfl; omega
      have hp2 : p2 = false := by cases p2 with | false => rfl | true => have := R.l2 rfl; omega
      have hp3 : p3 = false := by cases p3 with | false => rfl | true => have := R.l3 rfl; omega
      subst hp1 hp2 hp3
      have hxt : x.tags = numsK v (v.length / 4) := R.tags (by omega)
      obtain ⟨hx1, hx2⟩ : x.hasPref = a.hasPref ∧ x.pref = a.pref := R.pref (by omega)
      obtain ⟨hx3, hx4⟩ : x.hasMed = a.hasMed ∧ x.med = a.med := R.med (by omega)
      refine ⟨false, false, false, ⟨by simp, by simp, by simp, R.n, ?_, fun _ => R.o rfl, fun _ => R.p rfl, fun _ => R.nx rfl, fun h => ⟨hx3, hx4⟩, fun h => ⟨hx1, hx2⟩, fun h => by omega, by simp, by simp, by simp, fun h _ => by rw [hx4]; exact (hi.med h).2, fun h _ => by rw [hx2]; exact (hi.pref h).2, fun _ => by rw [hxt]; exact ⟨by rw [numsK_len]; exact h16, hri⟩⟩⟩
      rw [hbe, R.eq]
      have e1 : (decide (last < 4) && x.hasMed) = false := by
        by_cases h : last < 4
        · rw [hx3]; simp [(hi.med h).1]
        · simp [h]
      have e2 : (decide (last < 5) && x.hasPref) = false := by
        by_cases h : last < 5
        · rw [hx1]; simp [(hi.pref h).1]
        · simp [h]
      have e3 : allB (numsK v (v.length / 4)) = v := all_nums v _ (by omega)
      simp [tailB, e1, e2, hxt, numsK_len, e3, hlast]
      omega
theorem parse_raw {b : List UInt8} {x : Attrs} (h : parseA b 0 0 noA = (x, 0)) : rightA x = true ∧ rawA x = b := by
  obtain ⟨p1, p2, p3, R⟩ := parse_rd _ b rfl 0 0 noA x ⟨fun _ => ⟨rfl, rfl⟩, fun _ => ⟨rfl, rfl⟩, fun _ => rfl⟩ h
  obtain ⟨rfl, rfl, rfl⟩ : p1 = true ∧ p2 = true ∧ p3 = true := by
    have := R.n
    cases p1 <;> cases p2 <;> cases p3 <;> simp at this ⊢
  refine ⟨rightA_of (R.vo rfl) (R.vp rfl) (R.vn rfl) (R.vm (by omega)) (R.vq (by omega)) (R.vt (by omega)).1 (R.vt (by omega)).2, ?_⟩
  rw [R.eq]
  simp [rawA, rawO, tailB]
end Go.Proofs.YtehhligadnlijaaGreatDoor
set_option linter.unusedVariables false
set_option linter.unusedSimpArgs false
namespace Go.Proofs.YtehhligadnlijaaGreatDoor
open Go.RowKit
open Go.Proofs.Tryz (prog)
attribute [local irreducible] CallV RoundV
theorem fewA_right {a : Attrs} (h : rightA a = true) : fewA a = true := by
  obtain ⟨h1, h2, h3, _⟩ := few_of_right h
  have : a.path.all (fun p => decide (p.ns.length ≤ 60)) = true := by
    rw [List.all_eq_true]
    intro p hp
    have := h2 p hp
    simp; omega
  simp [fewA, this]
  omega
end Go.Proofs.YtehhligadnlijaaGreatDoor
set_option linter.unusedVariables false
set_option linter.unusedSimpArgs false
namespace Go.Proofs.YtehhligadnlijaaGreatDoor
open Go.RowKit Go.ChangeShapes Go.WideShapes
open Go.Proofs.Tryz (prog)
theorem rep_words : RepOk prog 43 (fun l : List UInt32 => [encW false l]) :=
  rep_slice (cells := fun x : UInt32 => [.int .u32 x.toNat]) Go.Proofs.Tryz.underlying43 (by kernel_rfl) (by decide) (fun _ => rfl) (rep_u32 Go.Proofs.Tryz.underlying22)
theorem rep_bytes : RepOk prog 50 (fun l : List UInt8 => [encB false l]) :=
  rep_slice (cells := fun x : UInt8 => [.int .u8 x.toNat]) Go.Proofs.Tryz.underlying50 (by kernel_rfl) (by decide) (fun _ => rfl) (rep_u8 Go.Proofs.Tryz.underlying5)
theorem vrs_join {G : Gh} {w : World} {vs : List V} {us : List Value} {v : V} {k n : Nat} (h : vrs G w vs (us.take n)) (hv : vrs G w [v] ((us.drop k).take 1)) (hk : k = n) (hn : n < us.length) : vrs G w (vs ++ [v]) (us.take (n + 1)) := by
  subst hk
  rw [List.take_succ_eq_append_getElem hn]
  refine h.append ?_
  rw [List.drop_eq_getElem_cons hn, List.take_succ_cons, List.take_zero] at hv
  exact hv
theorem one_join {us : List Value} {k n : Nat} (h : ∀ u ∈ us.take n, u.oneCell' = true) (hv : ∀ u ∈ (us.drop k).take 1, u.oneCell' = true) (hk : k = n) (hn : n < us.length) : ∀ u ∈ us.take (n + 1), u.oneCell' = true := by
  subst hk
  rw [List.take_succ_eq_append_getElem hn]
  intro u hu
  rcases List.mem_append.1 hu with hu | hu
  · exact h u hu
  · refine hv u ?_
    rw [List.drop_eq_getElem_cons hn, List.take_succ_cons, List.take_zero]
    exact hu
theorem vrs_take0 {G : Gh} {w : World} {us : List Value} : vrs G w [] (us.take 0) := by simp [vrs]
theorem field_at {H : Type} {enc : TypeId × Value → H} {w : World} {sp : Nat → Bool} {t : TypeId} {fs : Array Field} {fuel : Nat} {cs : List Value} {x : DataW H × List MemPlace} (ht : prog.underlying t = some (.struct fs)) (h : DataW.trod enc prog w 0 sp true fuel t cs = some x)
    (i : Nat) {f : Field} (hf : fs[i]? = some f) {α : Type} {cells : α → List V} (he : RepOk prog f.type cells) (ho : f.offset = i) (hz : prog.cellsOf f.type = 1) : ∃ a, vrs (G0 w) w (cells a) ((cs.drop i).take 1) ∧ ∀ u ∈ (cs.drop i).take 1, u.oneCell' = true := by
  have := field_of ht h hf he
  rw [ho, hz] at this
  exact this
theorem rep_leg : RepOk prog 92 (encLeg false) := fun enc w sp fuel cs x h => by
  have ht := Go.Proofs.Tryz.underlying92
  obtain ⟨xs, n, _, _, hlen, _, _⟩ := DataW.trod_struct ht h
  have hl : cs.length = 2 := hlen.trans (by kernel_rfl)
  obtain ⟨b, h0, o0⟩ := field_at ht h 0 rfl (rep_bool Go.Proofs.Tryz.underlying4) rfl (by kernel_rfl)
  obtain ⟨l, h1, o1⟩ := field_at ht h 1 rfl rep_words rfl (by kernel_rfl)
  have j1 := vrs_join (vrs_join vrs_take0 h0 rfl (by omega)) h1 rfl (by omega)
  have k1 := one_join (one_join (by simp) o0 rfl (by omega)) o1 rfl (by omega)
  rw [List.take_of_length_le (by omega)] at j1 k1
  exact ⟨⟨b, l⟩, j1, k1⟩
theorem rep_legs : RepOk prog 42 (fun l : List Leg => [encLegs false l]) :=
  rep_slice (cells := encLeg false) Go.Proofs.Tryz.underlying42 (by kernel_rfl) (by decide) (fun _ => rfl) rep_leg
theorem rep_attrs : RepOk prog 45 (cellsA false) := fun enc w sp fuel cs x h => by
  have ht := Go.Proofs.Tryz.underlying45
  obtain ⟨xs, n, _, _, hlen, _, _⟩ := DataW.trod_struct ht h
  have hl : cs.length = 8 := hlen.trans (by kernel_rfl)
  obtain ⟨a0, h0, o0⟩ := field_at ht h 0 rfl (rep_u8 Go.Proofs.Tryz.underlying5) rfl (by kernel_rfl)
  obtain ⟨a1, h1, o1⟩ := field_at ht h 1 rfl rep_legs rfl (by kernel_rfl)
  obtain ⟨a2, h2, o2⟩ := field_at ht h 2 rfl (rep_u32 Go.Proofs.Tryz.underlying22) rfl (by kernel_rfl)
  obtain ⟨a3, h3, o3⟩ := field_at ht h 3 rfl (rep_bool Go.Proofs.Tryz.underlying4) rfl (by kernel_rfl)
  obtain ⟨a4, h4, o4⟩ := field_at ht h 4 rfl (rep_u32 Go.Proofs.Tryz.underlying22) rfl (by kernel_rfl)
  obtain ⟨a5, h5, o5⟩ := field_at ht h 5 rfl (rep_bool Go.Proofs.Tryz.underlying4) rfl (by kernel_rfl)
  obtain ⟨a6, h6, o6⟩ := field_at ht h 6 rfl (rep_u32 Go.Proofs.Tryz.underlying22) rfl (by kernel_rfl)
  obtain ⟨a7, h7, o7⟩ := field_at ht h 7 rfl rep_words rfl (by kernel_rfl)
  have j := vrs_join (vrs_join (vrs_join (vrs_join (vrs_join (vrs_join (vrs_join (vrs_join vrs_take0 h0 rfl (by omega)) h1 rfl (by omega)) h2 rfl (by omega)) h3 rfl (by omega)) h4 rfl (by omega)) h5 rfl (by omega)) h6 rfl (by omega)) h7 rfl (by omega)
  have k := one_join (one_join (one_join (one_join (one_join (one_join (one_join (one_join (by simp) o0 rfl (by omega)) o1 rfl (by omega)) o2 rfl (by omega)) o3 rfl (by omega)) o4 rfl (by omega)) o5 rfl (by omega)) o6 rfl (by omega)) o7 rfl (by omega)
  rw [List.take_of_length_le (by omega)] at j k
  exact ⟨⟨a0, a1, a2, a3, a4, a5, a6, a7⟩, j, k⟩
theorem arg_bytes : ArgOk prog 50 (encB false) := arg_slice Go.Proofs.Tryz.underlying50 rep_bytes
theorem laidOut : laidOutB prog = true := by kernel_rfl
theorem own : ownKnob prog.godebug = none := by kernel_rfl
end Go.Proofs.YtehhligadnlijaaGreatDoor
set_option linter.unusedVariables false
set_option linter.unusedSimpArgs false
namespace Go.Proofs.YtehhligadnlijaaGreatDoor
open Go.RowKit
open Go.Proofs.Tryz (prog)
structure Prefix where
  addr : UInt32
  len : UInt8
deriving DecidableEq
def cellsP (p : Prefix) : List V := [cW p.addr, cB p.len]
def encP (p : Prefix) : V := .agg (cellsP p)
theorem cellsP_free (p : Prefix) : ∀ v ∈ cellsP p, Free v := by
  intro v hv
  simp only [cellsP, List.mem_cons, List.not_mem_nil, or_false] at hv
  rcases hv with rfl | rfl <;> exact .int
theorem encP_free (p : Prefix) : Free (encP p) := .agg (cellsP_free p)
instance {p} : FreeLI (cellsP p) := ⟨⟨cellsP_free p⟩⟩
instance {p} : FreeI (encP p) := ⟨⟨encP_free p⟩⟩
def hostN (p : Prefix) : Nat := 32 - p.len.toNat
def prefOk (p : Prefix) : Bool := decide ((p.len.toNat : Int) ≤ 32) && decide (p.addr.toNat % 2 ^ hostN p = 0)
def coversP (p q : Prefix) : Bool := prefOk p && prefOk q && decide ((p.len.toNat : Int) ≤ (q.len.toNat : Int)) && decide (q.addr.toNat / 2 ^ hostN p = p.addr.toNat / 2 ^ hostN p)
def maskN (k : Nat) : Nat := 2 ^ 32 - 2 ^ k
theorem mask_shift {k : Nat} (h : k ≤ 32) : maskN k = (2 ^ (32 - k) - 1) <<< k := by
  rw [maskN, Nat.shiftLeft_eq, Nat.sub_mul, ← Nat.pow_add, Nat.one_mul]
  congr 2
  omega
theorem and_mask {x k : Nat} (hx : x < 2 ^ 32) (h : k ≤ 32) : x &&& maskN k = x / 2 ^ k * 2 ^ k := by
  rw [mask_shift h, ← Nat.shiftLeft_eq, ← Nat.shiftRight_eq_div_pow]
  apply Nat.eq_of_testBit_eq
  intro i
  simp only [Nat.testBit_and, Nat.testBit_shiftLeft, Nat.testBit_two_pow_sub_one, Nat.testBit_shiftRight]
  by_cases hk : k ≤ i
  · rw [show k + (i - k) = i by omega]
    by_cases hi : i < 32
    · simp [hk, show i - k < 32 - k by omega]
    · have : x.testBit i = false := Nat.testBit_lt_two_pow (Nat.lt_of_lt_of_le hx (Nat.pow_le_pow_right (by decide) (by omega)))
      simp [this]
  · simp [hk]
theorem mask_lt (k : Nat) : maskN k < 2 ^ 32 := Nat.sub_lt (by decide) (Nat.two_pow_pos k)
theorem bits_and_mask (x : UInt32) {k : Nat} (h : k ≤ 32) : bits .and .u32 (x.toNat : Int) ((maskN k : Nat) : Int) = ((x.toNat / 2 ^ k * 2 ^ k : Nat) : Int) := by
  rw [(bits_nat .u32 32 (by decide) (fun n h0 h1 => by rw [wrap32]; omega) x.toNat (maskN k) x.toNat_lt (mask_lt k)).1, and_mask x.toNat_lt h]
theorem bits_andNot_mask (x : UInt32) {k : Nat} (h : k ≤ 32) : bits .andNot .u32 (x.toNat : Int) ((maskN k : Nat) : Int) = ((x.toNat % 2 ^ k : Nat) : Int) := by
  have hx : x.toNat % 2 ^ IntKind.u32.bits = x.toNat := Nat.mod_eq_of_lt x.toNat_lt
  have hm : maskN k % 2 ^ IntKind.u32.bits = maskN k := Nat.mod_eq_of_lt (mask_lt k)
  have hk : 2 ^ k ≤ 2 ^ 32 := Nat.pow_le_pow_right (by decide) h
  have hn : 2 ^ IntKind.u32.bits - 1 - maskN k = 2 ^ k - 1 := by
    have : 2 ^ IntKind.u32.bits = 2 ^ 32 := rfl
    have hp := Nat.two_pow_pos k
    rw [this, maskN]; omega
  have hlt : x.toNat % 2 ^ k ≤ x.toNat := Nat.mod_le _ _
  have hx2 := x.toNat_lt
  simp only [bits, BitVec.ofInt_natCast, BitVec.toNat_and, BitVec.toNat_not, BitVec.toNat_ofNat, hx, hm, hn]
  rw [Nat.and_two_pow_sub_one_eq_mod, wrap32]
  omega
theorem host_le (p : Prefix) : hostN p ≤ 32 := by unfold hostN; omega
end Go.Proofs.YtehhligadnlijaaGreatDoor
set_option linter.unusedVariables false
set_option linter.unusedSimpArgs false
namespace Go.Proofs.YtehhligadnlijaaGreatDoor
open Go.RowKit Go.ChangeShapes Go.WideShapes
open Go.Proofs.Tryz (prog)
theorem rep_prefix : RepOk prog 24 cellsP := fun enc w sp fuel cs x h => by
  have ht := Go.Proofs.Tryz.underlying24
  obtain ⟨xs, n, _, _, hlen, _, _⟩ := DataW.trod_struct ht h
  have hl : cs.length = 2 := hlen.trans (by kernel_rfl)
  obtain ⟨b, h0, o0⟩ := field_at ht h 0 rfl (rep_u32 Go.Proofs.Tryz.underlying22) rfl (by kernel_rfl)
  obtain ⟨l, h1, o1⟩ := field_at ht h 1 rfl (rep_u8 Go.Proofs.Tryz.underlying5) rfl (by kernel_rfl)
  have j1 := vrs_join (vrs_join vrs_take0 h0 rfl (by omega)) h1 rfl (by omega)
  have k1 := one_join (one_join (by simp) o0 rfl (by omega)) o1 rfl (by omega)
  rw [List.take_of_length_le (by omega)] at j1 k1
  exact ⟨⟨b, l⟩, j1, k1⟩
theorem arg_prefix : ArgOk prog 24 encP := arg_struct Go.Proofs.Tryz.underlying24 rep_prefix
theorem read_prefix : prog.readableRec 24 = true ∧ 24 < prog.types.size := ⟨by kernel_rfl, of_decide_eq_true (by kernel_rfl)⟩
theorem read_bytes : prog.readableRec 50 = true ∧ 50 < prog.types.size := ⟨by kernel_rfl, of_decide_eq_true (by kernel_rfl)⟩
end Go.Proofs.YtehhligadnlijaaGreatDoor
set_option linter.unusedVariables false
set_option linter.unusedSimpArgs false
namespace Go.Proofs.YtehhligadnlijaaGreatDoor
open Go.RowKit
open Go.Proofs.Tryz (prog)
attribute [local irreducible] CallV RoundV
theorem mask_val {n : Nat} (h : n < 256) : IntKind.u32.wrap (IntKind.u64.wrap (4294967296 - IntKind.u64.wrap (1 * 2 ^ (min (IntKind.u8.wrap (32 - (if (32 : Int) < n then 32 else (n : Int)))).toNat IntKind.u64.bits)))) = ((maskN (32 - n) : Nat) : Int) := by
  have key : ∀ m : Nat, m ≤ 32 → IntKind.u32.wrap (IntKind.u64.wrap (4294967296 - IntKind.u64.wrap (1 * 2 ^ (min (IntKind.u8.wrap (32 - (m : Int))).toNat IntKind.u64.bits)))) = ((maskN (32 - m) : Nat) : Int) := by
    intro m hm
    have hm' : m = 0 ∨ m = 1 ∨ m = 2 ∨ m = 3 ∨ m = 4 ∨ m = 5 ∨ m = 6 ∨ m = 7 ∨ m = 8 ∨ m = 9 ∨ m = 10 ∨ m = 11 ∨ m = 12 ∨ m = 13 ∨ m = 14 ∨ m = 15 ∨ m = 16 ∨ m = 17 ∨ m = 18 ∨ m = 19 ∨ m = 20 ∨ m = 21 ∨ m = 22 ∨ m = 23 ∨ m = 24 ∨ m = 25 ∨ m = 26 ∨ m = 27 ∨ m = 28 ∨ m = 29 ∨ m = 30 ∨ m = 31 ∨ m = 32 := by omega
    rcases hm' with rfl | rfl | rfl | rfl | rfl | rfl | rfl | rfl | rfl | rfl | rfl | rfl | rfl | rfl | rfl | rfl | rfl | rfl | rfl | rfl | rfl | rfl | rfl | rfl | rfl | rfl | rfl | rfl | rfl | rfl | rfl | rfl | rfl <;> decide
  split
  · rename_i hn
    have hn : 32 < n := by omega
    rw [show 32 - n = 32 - 32 by omega]
    exact key 32 (Nat.le_refl _)
  · exact key n (by omega)
set_option maxRecDepth 100000 in
theorem mask_ok (x : UInt8) : PCon prog 38 [cB x] (.int .u32 (maskN (32 - x.toNat) : Nat)) := by
  refine callV_of (fn := Go.Proofs.Tryz.f38) (body := _) tab_ok mixed rfl rfl (by decide) (by simp [Go.Proofs.Tryz.f38]) ?_
  (conv => whnf)
  refine ⟨by rw [wrap8]; omega, ?_⟩
  (conv => whnf)
  exact (Ends.pure [] (by first | exact .int_of (mask_val x.toNat_lt) | exact .ptr rfl (by omega) | exact .osl_of rfl (by omega) rfl | exact .fr rfl | exact LeL.fr rfl | exact .yld rfl (by omega) | exact .eptr rfl (by omega) | exact .osl0 | exact .snil_sl | exact .to_any | exact LeV.nineA | exact LeV.noA | (refine .tupL ?_; repeat' (first | exact True.intro | exact .int_of (mask_val x.toNat_lt) | exact .ptr rfl (by omega) | exact .osl_of rfl (by omega) rfl | exact .fr rfl | exact LeL.fr rfl | exact .yld rfl (by omega) | exact .eptr rfl (by omega) | exact .osl0 | exact .snil_sl | exact .to_any | exact LeV.nineA | exact LeV.noA | refine .aggL ?_ | refine ⟨?_, ?_⟩)) | (refine .aggL ?_; repeat' (first | exact True.intro | exact .int_of (mask_val x.toNat_lt) | exact .ptr rfl (by omega) | exact .osl_of rfl (by omega) rfl | exact .fr rfl | exact LeL.fr rfl | exact .yld rfl (by omega) | exact .eptr rfl (by omega) | exact .osl0 | exact .snil_sl | exact .to_any | exact LeV.nineA | exact LeV.noA | refine ⟨?_, ?_⟩))) (by simp))
set_option maxRecDepth 100000 in
theorem uRight_ok (p : Prefix) : PCon prog 12 [encP p] (.bool (prefOk p)) := by
  refine callV_of (fn := Go.Proofs.Tryz.f12) (body := _) tab_ok mixed rfl rfl (by decide) (by simp [Go.Proofs.Tryz.f12]) ?_
  (conv => whnf)
  cases h : decide ((p.len.toNat : Int) ≤ 32) with
  | false =>
    (conv => whnf)
    refine ⟨by kernel_rfl, ?_⟩
    (conv => whnf)
    exact (Ends.pure [] (by first | exact .bool_of (by simp [prefOk, h]) | exact .ptr rfl (by omega) | exact .osl_of rfl (by omega) rfl | exact .fr rfl | exact LeL.fr rfl | exact .yld rfl (by omega) | exact .eptr rfl (by omega) | exact .osl0 | exact .snil_sl | exact .to_any | exact LeV.nineA | exact LeV.noA | (refine .tupL ?_; repeat' (first | exact True.intro | exact .bool_of (by simp [prefOk, h]) | exact .ptr rfl (by omega) | exact .osl_of rfl (by omega) rfl | exact .fr rfl | exact LeL.fr rfl | exact .yld rfl (by omega) | exact .eptr rfl (by omega) | exact .osl0 | exact .snil_sl | exact .to_any | exact LeV.nineA | exact LeV.noA | refine .aggL ?_ | refine ⟨?_, ?_⟩)) | (refine .aggL ?_; repeat' (first | exact True.intro | exact .bool_of (by simp [prefOk, h]) | exact .ptr rfl (by omega) | exact .osl_of rfl (by omega) rfl | exact .fr rfl | exact LeL.fr rfl | exact .yld rfl (by omega) | exact .eptr rfl (by omega) | exact .osl0 | exact .snil_sl | exact .to_any | exact LeV.nineA | exact LeV.noA | refine ⟨?_, ?_⟩))) (by simp))
  | true =>
    (conv => whnf)
    refine ⟨_, [], fun h nx _ => pureV_pure (mask_ok p.len) ⟨.free .int, trivial⟩, by simp, ?_⟩
    (conv => whnf)
    refine ⟨by kernel_rfl, ?_⟩
    (conv => whnf)
    refine (Ends.pure [] (by first | exact .bool_of (by rw [prefOk, h, show 32 - p.len.toNat = hostN p from rfl, bits_andNot_mask _ (host_le p), Bool.true_and]; rw [Bool.eq_iff_iff]; simp only [beq_iff_eq, decide_eq_true_eq]; omega) | exact .ptr rfl (by omega) | exact .osl_of rfl (by omega) rfl | exact .fr rfl | exact LeL.fr rfl | exact .yld rfl (by omega) | exact .eptr rfl (by omega) | exact .osl0 | exact .snil_sl | exact .to_any | exact LeV.nineA | exact LeV.noA | (refine .tupL ?_; repeat' (first | exact True.intro | exact .bool_of (by rw [prefOk, h, show 32 - p.len.toNat = hostN p from rfl, bits_andNot_mask _ (host_le p), Bool.true_and]; rw [Bool.eq_iff_iff]; simp only [beq_iff_eq, decide_eq_true_eq]; omega) | exact .ptr rfl (by omega) | exact .osl_of rfl (by omega) rfl | exact .fr rfl | exact LeL.fr rfl | exact .yld rfl (by omega) | exact .eptr rfl (by omega) | exact .osl0 | exact .snil_sl | exact .to_any | exact LeV.nineA | exact LeV.noA | refine .aggL ?_ | refine ⟨?_, ?_⟩)) | (refine .aggL ?_; repeat' (first | exact True.intro | exact .bool_of (by rw [prefOk, h, show 32 - p.len.toNat = hostN p from rfl, bits_andNot_mask _ (host_le p), Bool.true_and]; rw [Bool.eq_iff_iff]; simp only [beq_iff_eq, decide_eq_true_eq]; omega) | exact .ptr rfl (by omega) | exact .osl_of rfl (by omega) rfl | exact .fr rfl | exact LeL.fr rfl | exact .yld rfl (by omega) | exact .eptr rfl (by omega) | exact .osl0 | exact .snil_sl | exact .to_any | exact LeV.nineA | exact LeV.noA | refine ⟨?_, ?_⟩))) (by simp))
theorem cover_eq {p q : Prefix} (h : prefOk p = true) : decide (q.addr.toNat / 2 ^ hostN p = p.addr.toNat / 2 ^ hostN p) = (((q.addr.toNat / 2 ^ hostN p * 2 ^ hostN p : Nat) : Int) == (p.addr.toNat : Int)) := by
  simp only [prefOk, Bool.and_eq_true, decide_eq_true_eq] at h
  have hd := Nat.div_add_mod p.addr.toNat (2 ^ hostN p)
  rw [h.2, Nat.add_zero, Nat.mul_comm] at hd
  rw [Bool.eq_iff_iff]
  simp only [decide_eq_true_eq, beq_iff_eq]
  constructor
  · intro e; rw [e, hd]
  · intro e
    have e : q.addr.toNat / 2 ^ hostN p * 2 ^ hostN p = p.addr.toNat := by omega
    rw [← hd] at e
    exact Nat.mul_right_cancel (Nat.two_pow_pos _) e
set_option maxRecDepth 100000 in
theorem uCovers_ok (p q : Prefix) : PCon prog 14 [encP p, encP q] (.bool (coversP p q)) := by
  refine callV_of (fn := Go.Proofs.Tryz.f14) (body := _) tab_ok mixed rfl rfl (by decide) (by simp [Go.Proofs.Tryz.f14]) ?_
  (conv => whnf)
  refine ⟨_, [], fun h nx _ => pureV_pure (uRight_ok p) ⟨.free (encP_free _), trivial⟩, by simp, ?_⟩
  cases h1 : prefOk p with
  | false =>
    (conv => whnf)
    refine ⟨by kernel_rfl, ?_⟩
    (conv => whnf)
    exact (Ends.pure [] (by first | exact .bool_of (by simp [coversP, h1]) | exact .ptr rfl (by omega) | exact .osl_of rfl (by omega) rfl | exact .fr rfl | exact LeL.fr rfl | exact .yld rfl (by omega) | exact .eptr rfl (by omega) | exact .osl0 | exact .snil_sl | exact .to_any | exact LeV.nineA | exact LeV.noA | (refine .tupL ?_; repeat' (first | exact True.intro | exact .bool_of (by simp [coversP, h1]) | exact .ptr rfl (by omega) | exact .osl_of rfl (by omega) rfl | exact .fr rfl | exact LeL.fr rfl | exact .yld rfl (by omega) | exact .eptr rfl (by omega) | exact .osl0 | exact .snil_sl | exact .to_any | exact LeV.nineA | exact LeV.noA | refine .aggL ?_ | refine ⟨?_, ?_⟩)) | (refine .aggL ?_; repeat' (first | exact True.intro | exact .bool_of (by simp [coversP, h1]) | exact .ptr rfl (by omega) | exact .osl_of rfl (by omega) rfl | exact .fr rfl | exact LeL.fr rfl | exact .yld rfl (by omega) | exact .eptr rfl (by omega) | exact .osl0 | exact .snil_sl | exact .to_any | exact LeV.nineA | exact LeV.noA | refine ⟨?_, ?_⟩))) (by simp))
  | true =>
  (conv => whnf)
  refine ⟨_, [], fun h nx _ => pureV_pure (uRight_ok q) ⟨.free (encP_free _), trivial⟩, by simp, ?_⟩
  cases h2 : prefOk q with
  | false =>
    (conv => whnf)
    refine ⟨by kernel_rfl, ?_⟩
    (conv => whnf)
    exact (Ends.pure [] (by first | exact .bool_of (by simp [coversP, h1, h2]) | exact .ptr rfl (by omega) | exact .osl_of rfl (by omega) rfl | exact .fr rfl | exact LeL.fr rfl | exact .yld rfl (by omega) | exact .eptr rfl (by omega) | exact .osl0 | exact .snil_sl | exact .to_any | exact LeV.nineA | exact LeV.noA | (refine .tupL ?_; repeat' (first | exact True.intro | exact .bool_of (by simp [coversP, h1, h2]) | exact .ptr rfl (by omega) | exact .osl_of rfl (by omega) rfl | exact .fr rfl | exact LeL.fr rfl | exact .yld rfl (by omega) | exact .eptr rfl (by omega) | exact .osl0 | exact .snil_sl | exact .to_any | exact LeV.nineA | exact LeV.noA | refine .aggL ?_ | refine ⟨?_, ?_⟩)) | (refine .aggL ?_; repeat' (first | exact True.intro | exact .bool_of (by simp [coversP, h1, h2]) | exact .ptr rfl (by omega) | exact .osl_of rfl (by omega) rfl | exact .fr rfl | exact LeL.fr rfl | exact .yld rfl (by omega) | exact .eptr rfl (by omega) | exact .osl0 | exact .snil_sl | exact .to_any | exact LeV.nineA | exact LeV.noA | refine ⟨?_, ?_⟩))) (by simp))
  | true =>
  (conv => whnf)
  cases h3 : decide ((p.len.toNat : Int) ≤ (q.len.toNat : Int)) with
  | false =>
    (conv => whnf)
    refine ⟨by kernel_rfl, ?_⟩
    (conv => whnf)
    exact (Ends.pure [] (by first | exact .bool_of (by simp only [coversP, h1, h2, h3]; rfl) | exact .ptr rfl (by omega) | exact .osl_of rfl (by omega) rfl | exact .fr rfl | exact LeL.fr rfl | exact .yld rfl (by omega) | exact .eptr rfl (by omega) | exact .osl0 | exact .snil_sl | exact .to_any | exact LeV.nineA | exact LeV.noA | (refine .tupL ?_; repeat' (first | exact True.intro | exact .bool_of (by simp only [coversP, h1, h2, h3]; rfl) | exact .ptr rfl (by omega) | exact .osl_of rfl (by omega) rfl | exact .fr rfl | exact LeL.fr rfl | exact .yld rfl (by omega) | exact .eptr rfl (by omega) | exact .osl0 | exact .snil_sl | exact .to_any | exact LeV.nineA | exact LeV.noA | refine .aggL ?_ | refine ⟨?_, ?_⟩)) | (refine .aggL ?_; repeat' (first | exact True.intro | exact .bool_of (by simp only [coversP, h1, h2, h3]; rfl) | exact .ptr rfl (by omega) | exact .osl_of rfl (by omega) rfl | exact .fr rfl | exact LeL.fr rfl | exact .yld rfl (by omega) | exact .eptr rfl (by omega) | exact .osl0 | exact .snil_sl | exact .to_any | exact LeV.nineA | exact LeV.noA | refine ⟨?_, ?_⟩))) (by simp))
  | true =>
  (conv => whnf)
  refine ⟨_, [], fun h nx _ => pureV_pure (mask_ok p.len) ⟨.free .int, trivial⟩, by simp, ?_⟩
  (conv => whnf)
  refine ⟨by kernel_rfl, ?_⟩
  (conv => whnf)
  exact (Ends.pure [] (by first | exact .bool_of (by rw [coversP, h1, h2, h3, show 32 - p.len.toNat = hostN p from rfl, bits_and_mask _ (host_le p), cover_eq h1]; rfl) | exact .ptr rfl (by omega) | exact .osl_of rfl (by omega) rfl | exact .fr rfl | exact LeL.fr rfl | exact .yld rfl (by omega) | exact .eptr rfl (by omega) | exact .osl0 | exact .snil_sl | exact .to_any | exact LeV.nineA | exact LeV.noA | (refine .tupL ?_; repeat' (first | exact True.intro | exact .bool_of (by rw [coversP, h1, h2, h3, show 32 - p.len.toNat = hostN p from rfl, bits_and_mask _ (host_le p), cover_eq h1]; rfl) | exact .ptr rfl (by omega) | exact .osl_of rfl (by omega) rfl | exact .fr rfl | exact LeL.fr rfl | exact .yld rfl (by omega) | exact .eptr rfl (by omega) | exact .osl0 | exact .snil_sl | exact .to_any | exact LeV.nineA | exact LeV.noA | refine .aggL ?_ | refine ⟨?_, ?_⟩)) | (refine .aggL ?_; repeat' (first | exact True.intro | exact .bool_of (by rw [coversP, h1, h2, h3, show 32 - p.len.toNat = hostN p from rfl, bits_and_mask _ (host_le p), cover_eq h1]; rfl) | exact .ptr rfl (by omega) | exact .osl_of rfl (by omega) rfl | exact .fr rfl | exact LeL.fr rfl | exact .yld rfl (by omega) | exact .eptr rfl (by omega) | exact .osl0 | exact .snil_sl | exact .to_any | exact LeV.nineA | exact LeV.noA | refine ⟨?_, ?_⟩))) (by simp))
end Go.Proofs.YtehhligadnlijaaGreatDoor
set_option linter.unusedVariables false
set_option linter.unusedSimpArgs false
namespace Go.Proofs.YtehhligadnlijaaGreatDoor
open Go.RowKit
open Go.Proofs.Tryz (prog)
attribute [local irreducible] CallV RoundV
def cmpI (a b : Int) : Int := if a < b then -1 else if b < a then 1 else 0
def orI (l : List Int) : Int := (l.find? (· != 0)).getD 0
def cmpP (p q : Prefix) : Int := orI [cmpI p.addr.toNat q.addr.toNat, cmpI p.len.toNat q.len.toNat]
end Go.Proofs.YtehhligadnlijaaGreatDoor
set_option linter.unusedVariables false
set_option linter.unusedSimpArgs false
namespace Go.Proofs.YtehhligadnlijaaGreatDoor
open Go.RowKit
open Go.Proofs.Tryz (prog)
attribute [local irreducible] CallV RoundV
theorem tab_of {G : Gh} {h : Heap} {nx : Nat} {w : World} (hr : HR G h nx w) : Lib.TabIs prog w "internal/strconv.uint64pow10" .u64 Lib.pow10Tab := by
  obtain ⟨_, o, ho, t, fz, rfl⟩ := hr.gl (3, tabHolds .u64 Lib.pow10Tab) (by simp [glob])
  have ho : w.heap[3]? = some (.cells (Lib.pow10Tab.map fun z => Value.int .u64 z).toArray t fz) := ho
  unfold Lib.TabIs World.var?
  rw [show prog.globalNamed "internal/strconv.uint64pow10" = some 3 by kernel_rfl]
  simp only [Option.bind_some, ho]
theorem first_of {w : World} {g : Nat} {p : Value → Prop} (h : ∃ o, w.heap[g]? = some o ∧ firstIs p o) : ∃ v, w.cell? ⟨g, 0, none⟩ = some v ∧ p v := by
  obtain ⟨o, ho, cs, t, fz, v, rfl, hv, hp⟩ := h
  exact ⟨v, by simp [World.cell?, ho, hv], hp⟩
theorem max_of {G : Gh} {h : Heap} {nx : Nat} {w : World} (hr : HR G h nx w) : ∃ m, w.cell? ⟨0, 0, none⟩ = some (.int .i64 m) := by
  obtain ⟨v, h, m, rfl⟩ := first_of (hr.gl (0, firstIs fun v => ∃ m, v = .int .i64 m) (by simp [glob])).2
  exact ⟨m, h⟩
theorem err1_of {G : Gh} {h : Heap} {nx : Nat} {w : World} (hr : HR G h nx w) : ∃ v, w.cell? ⟨1, 0, none⟩ = some v ∧ anErr v := first_of (hr.gl (1, firstIs anErr) (by simp [glob])).2
theorem err2_of {G : Gh} {h : Heap} {nx : Nat} {w : World} (hr : HR G h nx w) : ∃ v, w.cell? ⟨2, 0, none⟩ = some v ∧ anErr v := first_of (hr.gl (2, firstIs anErr) (by simp [glob])).2
abbrev rowsS (l : List ByteArray) : List (List V) := l.map fun s => [V.str s]
def encS (fr : Bool) (l : List ByteArray) : V := .sl fr 1 (rowsS l)
theorem rowsS_all (l : List ByteArray) : ∀ x ∈ rowsS l, ∀ v ∈ x, Free v ∧ Cold v ∧ Fresh v := by
  intro x hx v hv
  obtain ⟨n, _, rfl⟩ := List.mem_map.1 hx
  simp at hv; subst hv; exact ⟨.str, .str, .str⟩
theorem rowsS_free (l : List ByteArray) : ∀ x ∈ rowsS l, ∀ v ∈ x, Free v := fun x hx v hv => (rowsS_all l x hx v hv).1
theorem encS_free (fr : Bool) (l : List ByteArray) : Free (encS fr l) := .sl (rowsS_free l)
theorem encS_cold (l : List ByteArray) : Cold (encS false l) := .sl fun x hx v hv => (rowsS_all l x hx v hv).2.1
theorem flat1 {α : Type} (f : α → V) : ∀ l : List α, (l.map fun x => [f x]).flatten = l.map f
  | [] => rfl
  | x :: l => by simp [flat1 f l]
theorem idxS {l : List ByteArray} {i : Nat} (h : i < l.length) : (rowsS l)[(i : Int).toNat]? = some [.str l[i]] := by simp [rowsS, h]
def itoaS (n : Int) : ByteArray := ⟨(Lib.itoa n).toArray⟩
theorem itoa_ok (n : Int) (h0 : -9223372036854775808 ≤ n) (h1 : n ≤ 9223372036854775807) : PCon prog 47 [.int .i64 n] (.str (itoaS n)) := by
  refine pcon_calls (fn := Go.Proofs.Tryz.f47) Go.Proofs.Tryz.func47 rfl (by decide) fun G w us hr hv => ?_
  obtain ⟨u, rfl, hu⟩ := vrs_one hv
  cases hu
  refine (Go.Proofs.Tryz.strconv_Itoa n h0 h1 w (tab_of hr)).mono ?_
  rintro e w' ⟨rfl, k, os, rfl⟩
  exact ⟨_, rfl, below_grow k os (Nat.le_refl _), .str _⟩
def joinS (l : List ByteArray) (sep : ByteArray) : ByteArray := ⟨(Lib.join (l.map (·.data.toList)) sep.data.toList).toArray⟩
theorem join_ok (fr : Bool) (l : List ByteArray) (sep : ByteArray) (hN : l.length ≤ 140737488355328) (hlen : (Lib.join (l.map (·.data.toList)) sep.data.toList).length ≤ 140737488355328) : PCon prog 48 [encS fr l, .str sep] (.str (joinS l sep)) := by
  refine pcon_calls (fn := Go.Proofs.Tryz.f48) Go.Proofs.Tryz.func48 rfl (by decide) fun G w us hr hv => ?_
  obtain ⟨u, u', rfl, hu, hu'⟩ := vrs_two hv
  cases hu'
  cases hu with
  | sl _ _ _ A cap us hcap hm hA hrow hc hvv =>
    by_cases h0 : l = []
    · subst h0
      refine (Go.Proofs.Tryz.strings_Join_none A cap sep w).mono ?_
      rintro e w' ⟨rfl, rfl⟩
      exact ⟨_, rfl, Below.refl _ _, .str _⟩
    · obtain ⟨⟨bk, o, sp⟩, rfl, hs⟩ := hA (by simpa using h0)
      have hs : sp = none := hs
      subst hs
      have hcell : ∀ (j : Nat) x, l[j]? = some x → imm G w fr ⟨bk, o + j, none⟩ (.string x) := by
        intro j x hj
        have hf : (rowsS l).flatten[j]? = some (.str x) := by rw [flat1]; simp [hj]
        have h1 := hvv j _ hf
        have h2 := hc j _ hf _ rfl
        cases h1' : us j <;> rw [h1'] at h1 <;> cases h1
        rw [h1'] at h2
        exact h2
      obtain ⟨x, l', rfl⟩ : ∃ x l', l = x :: l' := by cases l with | nil => exact absurd rfl h0 | cons x l' => exact ⟨x, l', rfl⟩
      have e : (rowsS (x :: l')).length = (x :: l').length := by simp
      rw [e] at hcap ⊢
      refine (Go.Proofs.Tryz.strings_Join bk o cap (x :: l') sep w (fun j y hj => (rd_cell rfl).symm.trans (hcell j y hj).1) (hr.amb_lt _ (hcell 0 x rfl).2.1) hN hcap hlen).mono ?_
      rintro e w' ⟨rfl, hB⟩
      exact ⟨_, rfl, hB, .str _⟩
def cutS (s sep : ByteArray) : V := .tup [.str ⟨(Lib.cut s.data.toList sep.data.toList).1.toArray⟩, .str ⟨(Lib.cut s.data.toList sep.data.toList).2.1.toArray⟩, .bool (Lib.cut s.data.toList sep.data.toList).2.2]
theorem cut_ok (s sep : ByteArray) (hs : s.size < 4294967281) : PCon prog 43 [.str s, .str sep] (cutS s sep) := by
  refine pcon_calls (fn := Go.Proofs.Tryz.f43) Go.Proofs.Tryz.func43 rfl (by decide) fun G w us hr hv => ?_
  obtain ⟨u, u', rfl, hu, hu'⟩ := vrs_two hv
  cases hu; cases hu'
  obtain ⟨m, hm⟩ := max_of hr
  refine (Go.Proofs.Tryz.strings_Cut s sep m w hs hm).mono ?_
  rintro e w' ⟨rfl, n, rfl⟩
  refine ⟨_, rfl, below_drewN n, .tup _ [_, _, _] rfl fun j v u h1 h2 => ?_⟩
  match j with
  | 0 => cases h1; cases h2; exact .str _
  | 1 => cases h1; cases h2; exact .str _
  | 2 => cases h1; cases h2; exact .bool _
  | j + 3 => cases h1
def splitS (s sep : ByteArray) : List ByteArray := Lib.splitB sep 0 (Lib.countB s sep) s
theorem split_ok (s sep : ByteArray) (hs : s.size < 4294967281) (h1 : 1 ≤ sep.size) (hl : (splitS s sep).length = Lib.countB s sep + 1) (hm : Lib.countB s sep + 1 ≤ maxLen) : PCon prog 44 [.str s, .str sep] (encS true (splitS s sep)) := by
  refine pcon_calls (fn := Go.Proofs.Tryz.f44) Go.Proofs.Tryz.func44 rfl (by decide) fun G w us hr hv => ?_
  obtain ⟨u, u', rfl, hu, hu'⟩ := vrs_two hv
  cases hu; cases hu'
  obtain ⟨m, hmx⟩ := max_of hr
  refine (Go.Proofs.Tryz.strings_Split s sep m w hs hmx h1).mono ?_
  rintro e w' ⟨rfl, rfl⟩
  refine ⟨_, rfl, (Below.refl _ _).alloc (Nat.le_refl _) _, ?_⟩
  have hn : (rowsS (splitS s sep)).length = Lib.countB s sep + 1 := by simp [hl]
  rw [← hn]
  have hk : ∀ (j : Nat) (v : V), (rowsS (splitS s sep)).flatten[j]? = some v → ∃ x, (splitS s sep)[j]? = some x ∧ v = .str x := by
    intro j v hj
    rw [flat1] at hj
    simp only [List.getElem?_map, Option.map_eq_some_iff] at hj
    obtain ⟨x, hx, rfl⟩ := hj
    exact ⟨x, hx, rfl⟩
  refine .sl true 1 _ _ _ (fun j => .string ((splitS s sep)[j]?.getD default)) (Nat.le_refl _) (by rw [hn]; exact hm) (fun _ => ⟨_, rfl, rfl⟩) (fun x hx => by obtain ⟨y, _, rfl⟩ := List.mem_map.1 hx; rfl) (fun j v hj ad had => ?_) (fun j v hj => ?_)
  · cases had
    obtain ⟨x, hx, rfl⟩ := hk j v hj
    have hh : (w.alloc (.cells ((splitS s sep).map Value.string).toArray 9)).heap[w.heap.size]? = some (.cells ((splitS s sep).map Value.string).toArray 9 (0, 0)) := heap_alloc_new w _
    refine ⟨?_, .inr ⟨Nat.le_refl _, by simp⟩, fun _ => ⟨hr.B_le, ?_⟩, fun _ => ?_⟩
    · rw [rd_cell rfl]
      show World.cell? _ ⟨w.heap.size, 0 + j, none⟩ = _
      have hx : (Lib.splitB sep 0 (Lib.countB s sep) s)[j]? = some x := hx
      simp only [World.cell?, Nat.zero_add]
      erw [hh]
      simp [hx, splitS]
    · simp only [World.frozen?]
      erw [hh]
      rfl
    · rfl
  · obtain ⟨x, hx, rfl⟩ := hk j v hj
    simp only [hx, Option.getD_some]
    exact .str x
def puV (s : ByteArray) : V := match Lib.parseUintB 8 s.data.toList with
  | .ok u => .tup [.int .u64 u, .nili]
  | .range => .tup [.int .u64 255, .ifc 155 .any]
  | _ => .tup [.int .u64 0, .ifc 155 .any]
theorem below_bytes {w : World} {e : TypeId} {s : ByteArray} : Below w.heap.size w (Lib.bytesWorld w e s) := by
  unfold Lib.bytesWorld
  exact Lib.below_freeze ((Below.drew (Below.refl _ _)).alloc (Nat.le_refl _) _) (Nat.le_refl _) _
theorem parseU_ok (s : ByteArray) (hs : s.size ≤ 281474976710656) : PCon prog 45 [.str s, .int .i64 10, .int .i64 8] (puV s) := by
  refine pcon_calls (fn := Go.Proofs.Tryz.f45) Go.Proofs.Tryz.func45 rfl (by decide) fun G w us hr hv => ?_
  obtain ⟨u, u', u2, rfl, hu, hu', hu2⟩ := vrs_three hv
  cases hu; cases hu'; cases hu2
  have two : ∀ {G : Gh} {w : World} {v v' : V} {x x' : Value}, vr G w v x → vr G w v' x' → vr G w (.tup [v, v']) (.tuple #[x, x']) := by
    intro G w v v' x x' h h'
    refine .tup _ [_, _] rfl fun j v u h1 h2 => ?_
    match j with
    | 0 => cases h1; cases h2; exact h
    | 1 => cases h1; cases h2; exact h'
    | j + 2 => cases h1
  unfold puV
  cases hp : Lib.parseUintB 8 s.data.toList with
  | ok u =>
    refine (Go.Proofs.Tryz.strconv_ParseUint_10_at8_ok s (by omega) u hp w).mono ?_
    rintro e w' ⟨rfl, hw⟩
    refine ⟨_, rfl, ?_, two (.int _ _) .nili⟩
    rcases hw with rfl | rfl
    · exact Below.refl _ _
    · exact below_bytes
  | range =>
    obtain ⟨ev, h1, h2⟩ := err2_of hr
    refine (Go.Proofs.Tryz.strconv_ParseUint_10_at8_range s hs hp ev w h1 h2).mono ?_
    rintro e w' ⟨N, rfl, _, _, hB⟩
    exact ⟨_, rfl, hB, two (.int _ _) (.ifc _ _ _ (.any _))⟩
  | _ =>
    obtain ⟨ev, h1, h2⟩ := err1_of hr
    refine (Go.Proofs.Tryz.strconv_ParseUint_10_at8_syntax s hs hp ev w h1 h2).mono ?_
    rintro e w' ⟨N, rfl, _, _, hB⟩
    exact ⟨_, rfl, hB, two (.int _ _) (.ifc _ _ _ (.any _))⟩
end Go.Proofs.YtehhligadnlijaaGreatDoor
set_option linter.unusedVariables false
set_option linter.unusedSimpArgs false
namespace Go.Proofs.YtehhligadnlijaaGreatDoor
open Go.RowKit
open Go.Proofs.Tryz (prog)
attribute [local irreducible] CallV RoundV
set_option maxRecDepth 100000 in
theorem uhigh_ok (x : UInt32) : PCon prog 46 [cW x, .int .i64 4] (encB true (fourB x)) := by
  refine callV_of (fn := Go.Proofs.Tryz.f46) (body := _) tab_ok mixed rfl rfl (by decide) (by simp [Go.Proofs.Tryz.f46]) ?_
  (conv => whnf)
  refine ⟨⟨by omega, by omega, by simp [tab, tabOf, nth], by omega⟩, ?_⟩
  (conv => whnf)
  refine callV_of (fn := Go.Proofs.Tryz.f82) (body := _) tab_ok mixed rfl rfl (by decide) (by simp [Go.Proofs.Tryz.f82]) ?_
  (conv => whnf)
  refine ⟨_, _, _, Ends.here, ?_⟩
  (conv => whnf)
  refine callV_loop [(2, .ptr 0 0), (5, .ptr 2 0)] ⟨rfl, rfl, trivial⟩ fun asg' body' hasg hbody => ?_
  refine callV_of (fn := Go.Proofs.Tryz.f122) (body := _) tab_ok mixed rfl rfl (by decide) (by simp [Go.Proofs.Tryz.f122]) ?_
  (conv => whnf)
  intro _
  (conv => whnf)
  refine vcg_loop tab_ok mixed (fun k : {k : Nat // k ≤ 4} => ⟨[(0, .yld 4), (1, .ptr 3 0), (3, .int .i64 (3 - k.1))], [(4, some (.loop 23 [(2, .ptr 0 0), (5, .ptr 2 0)] [11, 12] asg' body' .ready none)), (0, some (.var true 22 [.int .u32 (shr8 x k.1)])), (1, some (.arr true true 5 1 (highRows x k.1))), (2, some (.var true 50 [.osl 1 1 0 4])), (3, some (.var true 50 [.osl 1 1 0 4]))], 5⟩) (fun k => 4 - k.1) ⟨0, by omega⟩ ?_ (fun k => ?_)
  · refine Wk.of id [] ⟨?_, ?_, ?_, trivial⟩ (LeH.of ⟨⟨by omega, .inl ⟨by simp, _, rfl, ?_⟩⟩, ⟨by omega, .inl ⟨by simp, _, rfl, ?_⟩⟩, ⟨by omega, .inl ⟨by simp, _, rfl, ?_⟩⟩, ⟨by omega, .inl ⟨by simp, _, rfl, ?_⟩⟩, ⟨by omega, .inl ⟨by simp, _, rfl, ?_⟩⟩, trivial⟩ (fun _ _ _ _ h => h) (fun _ _ => rfl) (by omega) (by simp))
    · exact .yld rfl (by omega)
    · exact .ptr rfl (by omega)
    · exact .int_of rfl
    · exact ⟨rfl, rfl, rfl, rfl, rfl, rfl, .ptr rfl (by omega), .ptr rfl (by omega), trivial⟩
    · exact ⟨id, rfl, .int_of rfl, trivial⟩
    · exact LeB.free (blk := .arr true true 5 1 (highRows x 0)) (highRows_free x 0)
    · exact ⟨id, rfl, .osl_of rfl (by omega) rfl, trivial⟩
    · exact ⟨id, rfl, .osl_of rfl (by omega) rfl, trivial⟩
  obtain ⟨k, hk⟩ := k
  rcases k with _ | _ | _ | _ | _ | k
  case succ.succ.succ.succ.succ => omega
  case succ.succ.succ.succ.zero =>
    (conv => whnf)
    refine ⟨_, _, _, Ends.here, ?_⟩
    (conv => whnf)
    refine Ends.pure [1] ?_ ?_
    · refine LeV.freeze_of (by simp) rfl (by simp [highRows]) (highRows_free x 4) ?_
      simp [highRows, fourB]
    · intro z hz
      obtain rfl := List.mem_singleton.1 hz
      exact ne_none_of rfl
  · (conv => whnf)
    refine ⟨rfl, ⟨by simp, by simp⟩, ?_⟩
    (conv => whnf)
    refine ⟨rfl, _, rfl, ?_⟩
    (conv => whnf)
    subst hasg hbody
    refine roundV_of tab_ok mixed rfl (by simp) (show 4 < 5 by omega) ?_
    (conv => whnf)
    refine ⟨rfl, ?_⟩
    (conv => whnf)
    refine ⟨rfl, ⟨by simp, by simp⟩, ?_⟩
    (conv => whnf)
    refine ⟨rfl, _, rfl, ?_⟩
    (conv => whnf)
    refine ⟨by decide, ?_⟩
    (conv => whnf)
    refine ⟨rfl, ?_⟩
    (conv => whnf)
    refine ⟨⟨1, by omega⟩, Wk.of id [] ⟨.yld rfl (by omega), .ptr rfl (by omega), .int_of ?_, trivial⟩ (LeH.of ⟨⟨by omega, .inl ⟨by simp, _, rfl, rfl, rfl, rfl, rfl, rfl, rfl, .ptr rfl (by omega), .ptr rfl (by omega), trivial⟩⟩, ⟨by omega, .inl ⟨by simp, _, rfl, id, rfl, .int_of ?_, trivial⟩⟩, ⟨by omega, .inl ⟨by simp, _, rfl, LeB.eq_of ?_ (highRows_free x 1)⟩⟩, ⟨by omega, .inl ⟨by simp, _, rfl, id, rfl, .osl_of rfl (by omega) rfl, trivial⟩⟩, ⟨by omega, .inl ⟨by simp, _, rfl, id, rfl, .osl_of rfl (by omega) rfl, trivial⟩⟩, trivial⟩ (fun _ _ _ _ h => h) (fun _ _ => rfl) (by omega) (by simp)), ?_⟩
    · simp [wrap64']
    · refine sh_step ?_
      have := x.toNat_lt
      simp [UInt32.toNat_shiftRight, Nat.shiftRight_eq_div_pow, Nat.div_div_eq_div_mul] <;> omega
    · simp [highRows, shr8, cB, wrap8]
    · simp
  · (conv => whnf)
    refine ⟨rfl, ⟨by simp, by simp⟩, ?_⟩
    (conv => whnf)
    refine ⟨rfl, _, rfl, ?_⟩
    (conv => whnf)
    subst hasg hbody
    refine roundV_of tab_ok mixed rfl (by simp) (show 4 < 5 by omega) ?_
    (conv => whnf)
    refine ⟨rfl, ?_⟩
    (conv => whnf)
    refine ⟨rfl, ⟨by simp, by simp⟩, ?_⟩
    (conv => whnf)
    refine ⟨rfl, _, rfl, ?_⟩
    (conv => whnf)
    refine ⟨by decide, ?_⟩
    (conv => whnf)
    refine ⟨rfl, ?_⟩
    (conv => whnf)
    refine ⟨⟨2, by omega⟩, Wk.of id [] ⟨.yld rfl (by omega), .ptr rfl (by omega), .int_of ?_, trivial⟩ (LeH.of ⟨⟨by omega, .inl ⟨by simp, _, rfl, rfl, rfl, rfl, rfl, rfl, rfl, .ptr rfl (by omega), .ptr rfl (by omega), trivial⟩⟩, ⟨by omega, .inl ⟨by simp, _, rfl, id, rfl, .int_of ?_, trivial⟩⟩, ⟨by omega, .inl ⟨by simp, _, rfl, LeB.eq_of ?_ (highRows_free x 2)⟩⟩, ⟨by omega, .inl ⟨by simp, _, rfl, id, rfl, .osl_of rfl (by omega) rfl, trivial⟩⟩, ⟨by omega, .inl ⟨by simp, _, rfl, id, rfl, .osl_of rfl (by omega) rfl, trivial⟩⟩, trivial⟩ (fun _ _ _ _ h => h) (fun _ _ => rfl) (by omega) (by simp)), ?_⟩
    · simp [wrap64']
    · refine sh_step ?_
      have := x.toNat_lt
      simp [UInt32.toNat_shiftRight, Nat.shiftRight_eq_div_pow, Nat.div_div_eq_div_mul] <;> omega
    · simp [highRows, shr8, cB, wrap8]
    · simp
  · (conv => whnf)
    refine ⟨rfl, ⟨by simp, by simp⟩, ?_⟩
    (conv => whnf)
    refine ⟨rfl, _, rfl, ?_⟩
    (conv => whnf)
    subst hasg hbody
    refine roundV_of tab_ok mixed rfl (by simp) (show 4 < 5 by omega) ?_
    (conv => whnf)
    refine ⟨rfl, ?_⟩
    (conv => whnf)
    refine ⟨rfl, ⟨by simp, by simp⟩, ?_⟩
    (conv => whnf)
    refine ⟨rfl, _, rfl, ?_⟩
    (conv => whnf)
    refine ⟨by decide, ?_⟩
    (conv => whnf)
    refine ⟨rfl, ?_⟩
    (conv => whnf)
    refine ⟨⟨3, by omega⟩, Wk.of id [] ⟨.yld rfl (by omega), .ptr rfl (by omega), .int_of ?_, trivial⟩ (LeH.of ⟨⟨by omega, .inl ⟨by simp, _, rfl, rfl, rfl, rfl, rfl, rfl, rfl, .ptr rfl (by omega), .ptr rfl (by omega), trivial⟩⟩, ⟨by omega, .inl ⟨by simp, _, rfl, id, rfl, .int_of ?_, trivial⟩⟩, ⟨by omega, .inl ⟨by simp, _, rfl, LeB.eq_of ?_ (highRows_free x 3)⟩⟩, ⟨by omega, .inl ⟨by simp, _, rfl, id, rfl, .osl_of rfl (by omega) rfl, trivial⟩⟩, ⟨by omega, .inl ⟨by simp, _, rfl, id, rfl, .osl_of rfl (by omega) rfl, trivial⟩⟩, trivial⟩ (fun _ _ _ _ h => h) (fun _ _ => rfl) (by omega) (by simp)), ?_⟩
    · simp [wrap64']
    · refine sh_step ?_
      have := x.toNat_lt
      simp [UInt32.toNat_shiftRight, Nat.shiftRight_eq_div_pow, Nat.div_div_eq_div_mul] <;> omega
    · simp [highRows, shr8, cB, wrap8]
    · simp
  · (conv => whnf)
    refine ⟨rfl, ⟨by simp, by simp⟩, ?_⟩
    (conv => whnf)
    refine ⟨rfl, _, rfl, ?_⟩
    (conv => whnf)
    subst hasg hbody
    refine roundV_of tab_ok mixed rfl (by simp) (show 4 < 5 by omega) ?_
    (conv => whnf)
    refine ⟨rfl, ?_⟩
    (conv => whnf)
    refine ⟨rfl, ⟨by simp, by simp⟩, ?_⟩
    (conv => whnf)
    refine ⟨rfl, _, rfl, ?_⟩
    (conv => whnf)
    refine ⟨by decide, ?_⟩
    (conv => whnf)
    refine ⟨rfl, ?_⟩
    (conv => whnf)
    refine ⟨⟨4, by omega⟩, Wk.of id [] ⟨.yld rfl (by omega), .ptr rfl (by omega), .int_of ?_, trivial⟩ (LeH.of ⟨⟨by omega, .inl ⟨by simp, _, rfl, rfl, rfl, rfl, rfl, rfl, rfl, .ptr rfl (by omega), .ptr rfl (by omega), trivial⟩⟩, ⟨by omega, .inl ⟨by simp, _, rfl, id, rfl, .int_of ?_, trivial⟩⟩, ⟨by omega, .inl ⟨by simp, _, rfl, LeB.eq_of ?_ (highRows_free x 4)⟩⟩, ⟨by omega, .inl ⟨by simp, _, rfl, id, rfl, .osl_of rfl (by omega) rfl, trivial⟩⟩, ⟨by omega, .inl ⟨by simp, _, rfl, id, rfl, .osl_of rfl (by omega) rfl, trivial⟩⟩, trivial⟩ (fun _ _ _ _ h => h) (fun _ _ => rfl) (by omega) (by simp)), ?_⟩
    · simp [wrap64']
    · refine sh_step ?_
      have := x.toNat_lt
      simp [UInt32.toNat_shiftRight, Nat.shiftRight_eq_div_pow, Nat.div_div_eq_div_mul] <;> omega
    · simp [highRows, shr8, cB, wrap8]
    · simp
set_option maxRecDepth 100000 in
theorem uhighI_ok (n : Nat) (hn : n < 65536) : PCon prog 93 [cI n, .int .i64 2] (encB true (twoB n)) := by
  refine callV_of (fn := Go.Proofs.Tryz.f93) (body := _) tab_ok mixed rfl rfl (by decide) (by simp [Go.Proofs.Tryz.f93]) ?_
  (conv => whnf)
  refine ⟨⟨by omega, by omega, by simp [tab, tabOf, nth], by omega⟩, ?_⟩
  (conv => whnf)
  refine callV_of (fn := Go.Proofs.Tryz.f82) (body := _) tab_ok mixed rfl rfl (by decide) (by simp [Go.Proofs.Tryz.f82]) ?_
  (conv => whnf)
  refine ⟨_, _, _, Ends.here, ?_⟩
  (conv => whnf)
  refine callV_loop [(2, .ptr 0 0), (5, .ptr 2 0)] ⟨rfl, rfl, trivial⟩ fun asg' body' hasg hbody => ?_
  refine callV_of (fn := Go.Proofs.Tryz.f122) (body := _) tab_ok mixed rfl rfl (by decide) (by simp [Go.Proofs.Tryz.f122]) ?_
  (conv => whnf)
  intro _
  (conv => whnf)
  refine vcg_loop tab_ok mixed (fun k : {k : Nat // k ≤ 2} => ⟨[(0, .yld 4), (1, .ptr 3 0), (3, .int .i64 (1 - k.1))], [(4, some (.loop 23 [(2, .ptr 0 0), (5, .ptr 2 0)] [11, 12] asg' body' .ready none)), (0, some (.var true 3 [.int .i64 (shrI n k.1)])), (1, some (.arr true true 5 1 (twoRows n k.1))), (2, some (.var true 50 [.osl 1 1 0 2])), (3, some (.var true 50 [.osl 1 1 0 2]))], 5⟩) (fun k => 2 - k.1) ⟨0, by omega⟩ ?_ (fun k => ?_)
  · refine Wk.of id [] ⟨?_, ?_, ?_, trivial⟩ (LeH.of ⟨⟨by omega, .inl ⟨by simp, _, rfl, ?_⟩⟩, ⟨by omega, .inl ⟨by simp, _, rfl, ?_⟩⟩, ⟨by omega, .inl ⟨by simp, _, rfl, ?_⟩⟩, ⟨by omega, .inl ⟨by simp, _, rfl, ?_⟩⟩, ⟨by omega, .inl ⟨by simp, _, rfl, ?_⟩⟩, trivial⟩ (fun _ _ _ _ h => h) (fun _ _ => rfl) (by omega) (by simp))
    · exact .yld rfl (by omega)
    · exact .ptr rfl (by omega)
    · exact .int_of rfl
    · exact ⟨rfl, rfl, rfl, rfl, rfl, rfl, .ptr rfl (by omega), .ptr rfl (by omega), trivial⟩
    · exact ⟨id, rfl, .int_of rfl, trivial⟩
    · exact LeB.free (blk := .arr true true 5 1 (twoRows n 0)) (twoRows_free n 0)
    · exact ⟨id, rfl, .osl_of rfl (by omega) rfl, trivial⟩
    · exact ⟨id, rfl, .osl_of rfl (by omega) rfl, trivial⟩
  obtain ⟨k, hk⟩ := k
  rcases k with _ | _ | _ | k
  case succ.succ.succ => omega
  case succ.succ.zero =>
    (conv => whnf)
    refine ⟨_, _, _, Ends.here, ?_⟩
    (conv => whnf)
    refine Ends.pure [1] ?_ ?_
    · refine LeV.freeze_of (by simp) rfl (by simp [twoRows]) (twoRows_free n 2) ?_
      simp [twoRows, twoB]
    · intro z hz
      obtain rfl := List.mem_singleton.1 hz
      exact ne_none_of rfl
  · (conv => whnf)
    refine ⟨rfl, ⟨by simp, by simp⟩, ?_⟩
    (conv => whnf)
    refine ⟨rfl, _, rfl, ?_⟩
    (conv => whnf)
    subst hasg hbody
    refine roundV_of tab_ok mixed rfl (by simp) (show 4 < 5 by omega) ?_
    (conv => whnf)
    refine ⟨rfl, ?_⟩
    (conv => whnf)
    refine ⟨rfl, ⟨by simp, by simp⟩, ?_⟩
    (conv => whnf)
    refine ⟨rfl, _, rfl, ?_⟩
    (conv => whnf)
    refine ⟨by decide, ?_⟩
    (conv => whnf)
    refine ⟨rfl, ?_⟩
    (conv => whnf)
    refine ⟨⟨1, by omega⟩, Wk.of id [] ⟨.yld rfl (by omega), .ptr rfl (by omega), .int_of ?_, trivial⟩ (LeH.of ⟨⟨by omega, .inl ⟨by simp, _, rfl, rfl, rfl, rfl, rfl, rfl, rfl, .ptr rfl (by omega), .ptr rfl (by omega), trivial⟩⟩, ⟨by omega, .inl ⟨by simp, _, rfl, id, rfl, .int_of ?_, trivial⟩⟩, ⟨by omega, .inl ⟨by simp, _, rfl, LeB.eq_of ?_ (twoRows_free n 1)⟩⟩, ⟨by omega, .inl ⟨by simp, _, rfl, id, rfl, .osl_of rfl (by omega) rfl, trivial⟩⟩, ⟨by omega, .inl ⟨by simp, _, rfl, id, rfl, .osl_of rfl (by omega) rfl, trivial⟩⟩, trivial⟩ (fun _ _ _ _ h => h) (fun _ _ => rfl) (by omega) (by simp)), ?_⟩
    · simp [wrap64']
    · exact shI_step _ (by simp [Nat.div_div_eq_div_mul]) (by omega)
    · simp [twoRows, shrI, cB, wrap8]
    · simp
  · (conv => whnf)
    refine ⟨rfl, ⟨by simp, by simp⟩, ?_⟩
    (conv => whnf)
    refine ⟨rfl, _, rfl, ?_⟩
    (conv => whnf)
    subst hasg hbody
    refine roundV_of tab_ok mixed rfl (by simp) (show 4 < 5 by omega) ?_
    (conv => whnf)
    refine ⟨rfl, ?_⟩
    (conv => whnf)
    refine ⟨rfl, ⟨by simp, by simp⟩, ?_⟩
    (conv => whnf)
    refine ⟨rfl, _, rfl, ?_⟩
    (conv => whnf)
    refine ⟨by decide, ?_⟩
    (conv => whnf)
    refine ⟨rfl, ?_⟩
    (conv => whnf)
    refine ⟨⟨2, by omega⟩, Wk.of id [] ⟨.yld rfl (by omega), .ptr rfl (by omega), .int_of ?_, trivial⟩ (LeH.of ⟨⟨by omega, .inl ⟨by simp, _, rfl, rfl, rfl, rfl, rfl, rfl, rfl, .ptr rfl (by omega), .ptr rfl (by omega), trivial⟩⟩, ⟨by omega, .inl ⟨by simp, _, rfl, id, rfl, .int_of ?_, trivial⟩⟩, ⟨by omega, .inl ⟨by simp, _, rfl, LeB.eq_of ?_ (twoRows_free n 2)⟩⟩, ⟨by omega, .inl ⟨by simp, _, rfl, id, rfl, .osl_of rfl (by omega) rfl, trivial⟩⟩, ⟨by omega, .inl ⟨by simp, _, rfl, id, rfl, .osl_of rfl (by omega) rfl, trivial⟩⟩, trivial⟩ (fun _ _ _ _ h => h) (fun _ _ => rfl) (by omega) (by simp)), ?_⟩
    · simp [wrap64']
    · exact shI_step _ (by simp [Nat.div_div_eq_div_mul]) (by omega)
    · simp [twoRows, shrI, cB, wrap8]
    · simp
end Go.Proofs.YtehhligadnlijaaGreatDoor
set_option linter.unusedVariables false
set_option linter.unusedSimpArgs false
namespace Go.Proofs.YtehhligadnlijaaGreatDoor
open Go.RowKit
open Go.Proofs.Tryz (prog)
attribute [local irreducible] CallV RoundV aggK
abbrev rowsP (l : List Prefix) : List (List V) := l.map cellsP
def encPs (fr : Bool) (l : List Prefix) : V := .sl fr 2 (rowsP l)
theorem cellsP_all (p : Prefix) : ∀ v ∈ cellsP p, Free v ∧ Cold v ∧ Fresh v := by
  intro v hv
  simp only [cellsP, List.mem_cons, List.not_mem_nil, or_false] at hv
  rcases hv with rfl | rfl <;> exact ⟨.int, .int, .int⟩
theorem rowsP_all (l : List Prefix) : ∀ x ∈ rowsP l, ∀ v ∈ x, Free v ∧ Cold v ∧ Fresh v := by
  intro x hx v hv
  obtain ⟨r, _, rfl⟩ := List.mem_map.1 hx
  exact cellsP_all r v hv
theorem rowsP_free (l : List Prefix) : ∀ x ∈ rowsP l, ∀ v ∈ x, Free v := fun x hx v hv => (rowsP_all l x hx v hv).1
theorem encPs_free (fr : Bool) (l : List Prefix) : Free (encPs fr l) := .sl (rowsP_free l)
theorem encPs_cold (l : List Prefix) : Cold (encPs false l) := .sl fun x hx v hv => (rowsP_all l x hx v hv).2.1
theorem encPs_fresh (l : List Prefix) : Fresh (encPs true l) := .sl fun x hx v hv => (rowsP_all l x hx v hv).2.2
theorem idxP {l : List Prefix} {i : Nat} (h : i < l.length) : (rowsP l)[(i : Int).toNat]? = some (cellsP l[i]) := by simp [rowsP, h]
theorem wfW (x : UInt32) : (Lit.int .u32 (x.toNat : Int)).wf = true := by
  have := x.toNat_lt
  simp only [Lit.wf, Bool.and_eq_true, decide_eq_true_eq]
  exact ⟨by simp [IntKind.min, IntKind.signed]; try omega, by simp [IntKind.max, IntKind.signed, IntKind.bits]; omega⟩
theorem wfB (x : UInt8) : (Lit.int .u8 (x.toNat : Int)).wf = true := by
  have := x.toNat_lt
  simp only [Lit.wf, Bool.and_eq_true, decide_eq_true_eq]
  exact ⟨by simp [IntKind.min, IntKind.signed]; try omega, by simp [IntKind.max, IntKind.signed, IntKind.bits]; omega⟩
def litsP (p : Prefix) : List Lit := [.int .u32 (p.addr.toNat : Int), .int .u8 (p.len.toNat : Int)]
theorem litsP_inj {p q : Prefix} : litsP p = litsP q ↔ p = q := by
  constructor
  · intro h
    obtain ⟨a, b⟩ := p
    obtain ⟨c, d⟩ := q
    simp only [litsP, List.cons.injEq, Lit.int.injEq, true_and, and_true] at h
    rw [UInt32.toNat_inj.1 (by omega : a.toNat = c.toNat), UInt8.toNat_inj.1 (by omega : b.toNat = d.toNat)]
  · exact fun h => by rw [h]
set_option maxRecDepth 100000 in
theorem litP (p : Prefix) {K : List Lit → Prop} (h : K (litsP p)) : litK tab 60 24 (cellsP p) K := And.intro (wfW _) (And.intro (wfB _) h)
theorem aggK_neq {T : Tab} {t : Nat} {fs : List (Nat × Nat)} (hk : (T t).key = true) (hs : (T t).k = .struct fs) {cs ds : List V} {K : V → Prop}
    (h : litK T 60 t cs fun la => litK T 60 t ds fun lb => ∃ r : Bool, (r = true ↔ la = lb) ∧ K (.bool (!r))) : aggK T .neq t cs ds K := by
  rw [aggK, hk, hs]
  exact h
theorem aggK_eql {T : Tab} {t : Nat} {fs : List (Nat × Nat)} (hk : (T t).key = true) (hs : (T t).k = .struct fs) {cs ds : List V} {K : V → Prop}
    (h : litK T 60 t cs fun la => litK T 60 t ds fun lb => ∃ r : Bool, (r = true ↔ la = lb) ∧ K (.bool r)) : aggK T .eql t cs ds K := by
  rw [aggK, hk, hs]
  exact h
theorem neqP (r s : Prefix) {K : V → Prop} (h : K (.bool (!decide (r = s)))) : aggK tab .neq 24 (cellsP r) (cellsP s) K := by
  refine aggK_neq rfl rfl ?_
  refine litP r ?_
  refine litP s ?_
  exact ⟨decide (r = s), by rw [litsP_inj]; simp, h⟩
theorem eqlP (r s : Prefix) {K : V → Prop} (h : K (.bool (decide (r = s)))) : aggK tab .eql 24 (cellsP r) (cellsP s) K := by
  refine aggK_eql rfl rfl ?_
  refine litP r ?_
  refine litP s ?_
  exact ⟨decide (r = s), by rw [litsP_inj]; simp, h⟩
theorem keyP (p : Prefix) : KeyV tab 24 (encP p) := ⟨rfl, rfl, rfl, litsP p, litP p rfl⟩
theorem cmpP_def (p q : Prefix) : cmpP p q = if p.addr.toNat < q.addr.toNat then -1 else if q.addr.toNat < p.addr.toNat then 1 else if p.len.toNat < q.len.toNat then -1 else if q.len.toNat < p.len.toNat then 1 else 0 := by
  unfold cmpP orI cmpI
  simp only [Int.ofNat_lt]
  by_cases h1 : p.addr.toNat < q.addr.toNat
  · simp [h1]
  · by_cases h2 : q.addr.toNat < p.addr.toNat
    · simp [h1, h2]
    · by_cases h3 : p.len.toNat < q.len.toNat
      · simp [h1, h2, h3]
      · by_cases h4 : q.len.toNat < p.len.toNat <;> simp [h1, h2, h3, h4]
theorem pfx_eq {p q : Prefix} (h1 : p.addr.toNat = q.addr.toNat) (h2 : p.len.toNat = q.len.toNat) : p = q := by
  obtain ⟨a, b⟩ := p
  obtain ⟨c, d⟩ := q
  obtain rfl : a = c := UInt32.toNat_inj.1 h1
  obtain rfl : b = d := UInt8.toNat_inj.1 h2
  rfl
set_option maxRecDepth 100000 in
theorem equalP_ok (fr fr' : Bool) (a b : List Prefix) : PCon prog 74 [encPs fr a, encPs fr' b] (.bool (decide (a = b))) := by
  refine callV_of (fn := Go.Proofs.Tryz.f74) (body := _) tab_ok mixed rfl rfl (by decide) (by simp [Go.Proofs.Tryz.f74]) ?_
  (conv => whnf)
  intro ha
  have ha : a.length ≤ maxLen := by simpa [gd] using ha
  (conv => whnf)
  intro hb
  (conv => whnf)
  split
  · rename_i hne
    (conv => whnf)
    refine Ends.pure [] (.bool_of ?_) (by simp)
    symm
    rw [decide_eq_false_iff_not]
    rintro rfl
    simp at hne
  · rename_i hne
    have hlen : a.length = b.length := by simp at hne; omega
    (conv => whnf)
    intro _
    (conv => whnf)
    refine vcg_loop tab_ok mixed (fun i : {i : Nat // i ≤ a.length ∧ a.take i = b.take i} => ⟨[(0, encPs fr a), (1, encPs fr' b), (12, cI a.length), (13, .int .i64 i.1)], [], 0⟩) (fun i => a.length - i.1) ⟨0, by omega, rfl⟩ (Wk.of id [] ⟨.free (encPs_free _ _), .free (encPs_free _ _), .int_of (by simp), .int_of rfl, trivial⟩ (LeH.nil (Nat.le_refl _) (fun b h => by omega) (by simp))) (fun i => ?_)
    obtain ⟨i, hi, hr⟩ := i
    (conv => whnf)
    split
    · rename_i hc
      have hc : i < a.length := by simpa using hc
      have hc' : i < b.length := by omega
      (conv => whnf)
      refine ⟨rfl, _, ⟨by first | omega | (simp only; omega), idxP hc⟩, ?_⟩
      (conv => whnf)
      refine ⟨rfl, _, ⟨by first | omega | (simp only; omega), idxP hc'⟩, ?_⟩
      (conv => whnf)
      refine neqP a[i] b[i] ?_
      (conv => whnf)
      refine ⟨by kernel_rfl, ?_⟩
      (conv => whnf)
      split
      · rename_i h1
        (conv => whnf)
        refine Ends.pure [] (.bool_of ?_) (by simp)
        symm
        rw [decide_eq_false_iff_not]
        rintro rfl
        simp at h1
      · rename_i h1
        have h1 : a[i] = b[i] := by simpa using h1
        (conv => whnf)
        exact ⟨⟨i + 1, by omega, take_step hc hc' hr h1⟩, Wk.of id [] ⟨.free (encPs_free _ _), .free (encPs_free _ _), .int_of rfl, .int_of (wrap64_succ hc ha), trivial⟩ (LeH.nil (Nat.le_refl _) (fun b h => by omega) (by simp)), by simp only; omega⟩
    · rename_i hc
      have hc : i = a.length := by simp at hc; omega
      subst hc
      rw [List.take_length, hlen, List.take_length] at hr
      (conv => whnf)
      refine Ends.pure [] (.bool_of ?_) (by simp)
      simp [hr]
end Go.Proofs.YtehhligadnlijaaGreatDoor
set_option linter.unusedVariables false
set_option linter.unusedSimpArgs false
namespace Go.Proofs.YtehhligadnlijaaGreatDoor
open Go.Shelf Go.RowKit Go.Lib Go.Sort
open Go.Proofs.Tryz (prog)
theorem k76 (x : Int) (W : World) : Calls prog 76 #[.int .u32 x] W fun e w' => e = .returned (.bool false) ∧ w' = W := by
  go_enter Go.Proofs.Tryz.func76, Go.Proofs.Tryz.ntmps76
  go_wp2
  go_ret
  exact ⟨by simp, rfl⟩
theorem k41 (x y : Int) (W : World) : Calls prog 41 #[.int .u32 x, .int .u32 y] W fun e w' => e = .returned (.int .i64 (cmpI x y)) ∧ w' = W := by
  go_enter Go.Proofs.Tryz.func41, Go.Proofs.Tryz.ntmps41
  go_wp2_with (go_at_call 76; refine (k76 _ _).mono ?_; rintro e w' ⟨rfl, rfl⟩)
  all_goals (go_ret; refine ⟨?_, rfl⟩; unfold cmpI; (repeat' split) <;> first | rfl | (exfalso; omega))
theorem k77 (x : Int) (W : World) : Calls prog 77 #[.int .u8 x] W fun e w' => e = .returned (.bool false) ∧ w' = W := by
  go_enter Go.Proofs.Tryz.func77, Go.Proofs.Tryz.ntmps77
  go_wp2
  go_ret
  exact ⟨by simp, rfl⟩
theorem k42 (x y : Int) (W : World) : Calls prog 42 #[.int .u8 x, .int .u8 y] W fun e w' => e = .returned (.int .i64 (cmpI x y)) ∧ w' = W := by
  go_enter Go.Proofs.Tryz.func42, Go.Proofs.Tryz.ntmps42
  go_wp2_with (go_at_call 77; refine (k77 _ _).mono ?_; rintro e w' ⟨rfl, rfl⟩)
  all_goals (go_ret; refine ⟨?_, rfl⟩; unfold cmpI; (repeat' split) <;> first | rfl | (exfalso; omega))
def sel2 (a b : Int) : Nat → Int
  | 0 => a
  | _ => b
def or2 (a b : Int) : Int := if a ≠ 0 then a else b
set_option maxHeartbeats 1000000 in
theorem k40 (blk c : Nat) (a b : Int) (W : World) (h0 : W.cell? ⟨blk, 0, none⟩ = some (.int .i64 a)) (h1 : W.cell? ⟨blk, 1, none⟩ = some (.int .i64 b)) :
    Calls prog 40 #[.slice (some ⟨blk, 0, none⟩) 2 c] W fun e w' => e = .returned (.int .i64 (or2 a b)) ∧ w' = W := by
  go_enter Go.Proofs.Tryz.func40, Go.Proofs.Tryz.ntmps40
  go_wp2
  go_loop [5, 8] (fun _ i => ∃ k : Nat, k ≤ 2 ∧ i = .int .i64 k ∧ (0 < k → a = 0) ∧ (1 < k → b = 0)) (fun _ i => match i with | .int _ m => 2 - m.toNat | _ => 0)
  case atStart => exact ⟨0, Nat.zero_le _, rfl, (fun h => absurd h (Nat.lt_irrefl _)), (fun h => absurd h (Nat.not_lt_zero _))⟩
  case round =>
    obtain ⟨k, hk, rfl, q0, q1⟩ := hrel
    have hcell : (k : Int) < 2 → W.cell? ⟨blk, k, none⟩ = some (.int .i64 (sel2 a b k)) := fun h => by
      rcases k with _ | _ | k
      · exact h0
      · exact h1
      · omega
    go_wp2
    · have hlt : (k : Int) < 2 := by assumption
      have heq : (sel2 a b k != 0) = true := by assumption
      go_ret
      refine ⟨?_, rfl⟩
      rcases k with _ | _ | k
      · have : a ≠ 0 := by simpa [sel2] using heq
        show _ = Ending.returned (.int .i64 (or2 a b))
        rw [or2, if_pos this]
        rfl
      · rw [or2, if_neg (by simp [q0 (by omega)])]
        rfl
      · omega
    · have hlt : (k : Int) < 2 := by assumption
      have hneq : (sel2 a b k != 0) = false := by assumption
      have hs : sel2 a b k = 0 := by simpa using hneq
      refine ⟨⟨k + 1, by omega, rfl, fun hj => ?_, fun hj => ?_⟩, by show 2 - ((k : Int) + 1).toNat < 2 - (k : Int).toNat; omega⟩
      · rcases k with _ | _ | k
        · exact hs
        · exact q0 (by omega)
        · omega
      · rcases k with _ | _ | k
        · omega
        · exact hs
        · omega
    · have hge : 2 ≤ (k : Int) := by assumption
      have e2 : k = 2 := by omega
      subst e2
      go_ret
      refine ⟨?_, rfl⟩
      rw [or2, if_neg (by simp [q0 (by omega)]), q1 (by omega)]
      rfl
theorem k40v (W : World) (r s : Int) (ty : TypeId) : Calls prog 40 #[.slice (some ⟨W.heap.size, 0, none⟩) 2 2] (W.alloc (.cells #[.int .i64 r, .int .i64 s] ty)).drew fun e w' => e = .returned (.int .i64 (or2 r s)) ∧ w' = (W.alloc (.cells #[.int .i64 r, .int .i64 s] ty)).drew := by
  have h : (W.alloc (.cells #[.int .i64 r, .int .i64 s] ty)).heap[W.heap.size]? = some (.cells #[.int .i64 r, .int .i64 s] ty (0, 0)) := heap_alloc_new W _
  refine k40 _ _ r s _ ?_ ?_
  · show World.cell? (W.alloc (.cells #[.int .i64 r, .int .i64 s] ty)) _ = _
    simp only [World.cell?]
    erw [h]
    rfl
  · show World.cell? (W.alloc (.cells #[.int .i64 r, .int .i64 s] ty)) _ = _
    simp only [World.cell?]
    erw [h]
    rfl
def cmp2 (a b c d : Int) : Int := or2 (cmpI a c) (cmpI b d)
set_option maxRecDepth 100000 in
set_option maxHeartbeats 2000000 in
theorem k16 (a b c d : Int) (W : World) : Calls prog 16 #[.agg #[.int .u32 a, .int .u8 b], .agg #[.int .u32 c, .int .u8 d]] W fun e w' => e = .returned (.int .i64 (cmp2 a b c d)) ∧ ∃ q os', w' = grow (W.drewN q) os' := by
  have g41 := k41 a c
  have g42 := k42 b d
  unfold cmp2
  generalize cmpI a c = r at g41 ⊢
  generalize cmpI b d = s at g42 ⊢
  go_enter Go.Proofs.Tryz.func16, Go.Proofs.Tryz.ntmps16
  go_wp2
  have f0 : ((W.alloc (Obj.cells #[Value.int IntKind.u32 a, Value.int IntKind.u8 b] 24)).alloc (Obj.cells #[Value.int IntKind.u32 c, Value.int IntKind.u8 d] 24)).heap[W.heap.size]? = some (Obj.cells #[Value.int IntKind.u32 a, Value.int IntKind.u8 b] 24) := by
    rw [Below.heap_alloc _ _ _ (by simp)]; exact heap_alloc_new W _
  have f1 : ((W.alloc (Obj.cells #[Value.int IntKind.u32 a, Value.int IntKind.u8 b] 24)).alloc (Obj.cells #[Value.int IntKind.u32 c, Value.int IntKind.u8 d] 24)).heap[W.heap.size + 1]? = some (Obj.cells #[Value.int IntKind.u32 c, Value.int IntKind.u8 d] 24) := by
    have := heap_alloc_new (W.alloc (Obj.cells #[Value.int IntKind.u32 a, Value.int IntKind.u8 b] 24)) (Obj.cells #[Value.int IntKind.u32 c, Value.int IntKind.u8 d] 24)
    simpa using this
  have fs : ((W.alloc (Obj.cells #[Value.int IntKind.u32 a, Value.int IntKind.u8 b] 24)).alloc (Obj.cells #[Value.int IntKind.u32 c, Value.int IntKind.u8 d] 24)) = grow W #[Obj.cells #[Value.int IntKind.u32 a, Value.int IntKind.u8 b] 24, Obj.cells #[Value.int IntKind.u32 c, Value.int IntKind.u8 d] 24] := by
    rw [alloc_eq_grow, alloc_eq_grow, grow_grow]; rfl
  generalize ((W.alloc (Obj.cells #[Value.int IntKind.u32 a, Value.int IntKind.u8 b] 24)).alloc (Obj.cells #[Value.int IntKind.u32 c, Value.int IntKind.u8 d] 24)) = W2 at f0 f1 fs ⊢
  replace fs := fs.symm
  have c0 : W2.cell? ⟨W.heap.size, 0, none⟩ = some (.int .u32 a) := by simp [World.cell?, f0]
  have c1 : W2.cell? ⟨W.heap.size, 1, none⟩ = some (.int .u8 b) := by simp [World.cell?, f0]
  have c2 : W2.cell? ⟨W.heap.size + 1, 0, none⟩ = some (.int .u32 c) := by simp [World.cell?, f1]
  have c3 : W2.cell? ⟨W.heap.size + 1, 1, none⟩ = some (.int .u8 d) := by simp [World.cell?, f1]
  refine wp_region_still_tail 10 (show prog.follows .mixedOrders = true from rfl) (by kernel_rfl) ?_
  change wpStill _ _ W2.drew _ _ _
  simp only [List.take_succ_cons, List.take_zero, List.drop_succ_cons, List.drop_zero]
  still_step
  still_step
  still_step
  still_step
  still_call (g41 _)
  still_step
  still_step
  still_step
  still_step
  still_call (g42 _)
  refine wpStill_nil ?_
  change wpList _ _ _ _ _ W2.drew
  go_wp2_with (go_at_call 40; refine (k40v _ _ _ _).mono ?_; rintro e w' ⟨rfl, rfl⟩)
  go_ret
  refine ⟨rfl, 1, #[Obj.cells #[Value.int IntKind.u32 a, Value.int IntKind.u8 b] 24, Obj.cells #[Value.int IntKind.u32 c, Value.int IntKind.u8 d] 24, Obj.cells #[Value.int IntKind.i64 r, Value.int IntKind.i64 s] 3], ?_⟩
  subst fs
  show (World.alloc _ _).drew = _
  rw [alloc_eq_grow, grow_grow]
  rfl
end Go.Proofs.YtehhligadnlijaaGreatDoor
set_option linter.unusedVariables false
set_option linter.unusedSimpArgs false
namespace Go.Proofs.YtehhligadnlijaaGreatDoor
open Go.RowKit
open Go.Proofs.Tryz (prog)
attribute [local irreducible] CallV RoundV
instance : Inhabited Prefix := ⟨⟨0, 0⟩⟩
def pkey (p : Prefix) : Nat := p.addr.toNat * 256 + p.len.toNat
theorem pkey_inj {p q : Prefix} (h : pkey p = pkey q) : p = q := by
  have h1 := p.len.toNat_lt
  have h2 := q.len.toNat_lt
  unfold pkey at h
  exact pfx_eq (by omega) (by omega)
theorem cmpP_lt (p q : Prefix) : cmpP p q < 0 ↔ pkey p < pkey q := by
  have h1 := p.len.toNat_lt
  have h2 := q.len.toNat_lt
  rw [cmpP_def]
  unfold pkey
  repeat' split
  all_goals first | (constructor <;> intro _ <;> omega)
theorem cmp2_P (p q : Prefix) : cmp2 p.addr.toNat p.len.toNat q.addr.toNat q.len.toNat = cmpP p q := by
  unfold cmp2 or2 cmpP orI
  by_cases h : cmpI p.addr.toNat q.addr.toNat = 0
  · by_cases h' : cmpI p.len.toNat q.len.toNat = 0 <;> simp [h, h']
  · simp [h]
theorem ltP (p q : Prefix) : ltOf cmpP p q = decide (pkey p < pkey q) := by
  unfold ltOf
  rw [Bool.eq_iff_iff]
  simp only [decide_eq_true_eq]
  exact cmpP_lt p q
theorem swoP : Go.Sort.SWO (ltOf cmpP) where
  irrefl x := by rw [ltP]; simp
  trans x y z h1 h2 := by rw [ltP] at *; simp at *; omega
  ntrans x y z h1 h2 := by rw [ltP] at *; simp at *; omega
theorem totP (x y : Prefix) (h1 : ltOf cmpP x y = false) (h2 : ltOf cmpP y x = false) : x = y := by
  rw [ltP] at *
  simp at h1 h2
  exact pkey_inj (by omega)
def valP (p : Prefix) : List Value := [.int .u32 p.addr.toNat, .int .u8 p.len.toNat]
def sortPs (l : List Prefix) : List Prefix := l.mergeSort fun x y => !(ltOf cmpP) y x
theorem sortPs_len (l : List Prefix) : (sortPs l).length = l.length := by unfold sortPs; exact List.length_mergeSort l
theorem flatP_len : ∀ l : List Prefix, (rowsP l).flatten.length = l.length * 2
  | [] => rfl
  | p :: l => by
    have := flatP_len l
    simp only [rowsP, List.map_cons, List.flatten_cons, List.length_append, List.length_cons] at this ⊢
    rw [this]
    simp [cellsP]
    omega
theorem flatP : ∀ (l : List Prefix) (j : Nat) (v : V), (rowsP l).flatten[j]? = some v → j < l.length * 2 ∧ ∀ (G : Gh) (w : World) (u : Value), vr G w v u ↔ u = (valP (l.toArray[j / 2]!))[j % 2]!
  | [], j, v, h => by simp at h
  | p :: l, 0, v, h => by
    simp [cellsP] at h
    subst h
    exact ⟨by simp <;> omega, fun G w u => ⟨fun h => by cases h; simp [valP], fun h => by subst h; simp [valP]; exact .int _ _⟩⟩
  | p :: l, 1, v, h => by
    simp [cellsP] at h
    subst h
    exact ⟨by simp <;> omega, fun G w u => ⟨fun h => by cases h; simp [valP], fun h => by subst h; simp [valP]; exact .int _ _⟩⟩
  | p :: l, j + 2, v, h => by
    have h' : (rowsP l).flatten[j]? = some v := by simpa [cellsP] using h
    obtain ⟨h1, h2⟩ := flatP l j v h'
    refine ⟨by simp <;> omega, fun G w u => ?_⟩
    rw [h2 G w u]
    have e1 : (j + 2) / 2 = j / 2 + 1 := by omega
    have e2 : (j + 2) % 2 = j % 2 := by omega
    rw [e1, e2]
    simp
theorem flatP_at (l : List Prefix) (j : Nat) (h : j < l.length * 2) : ∃ v, (rowsP l).flatten[j]? = some v :=
  ⟨_, List.getElem?_eq_getElem (by rw [flatP_len]; exact h)⟩
theorem oneP (p : Prefix) (i : Nat) : ((valP p)[i]!).oneCell' = true := by
  rcases i with _ | _ | i
  · rfl
  · rfl
  · simp [valP]; rfl
section
variable {w : World} {c : Nat} {cs : Array Value} {ty : TypeId} (hh : w.heap[c]? = some (.cells cs ty (0, 0)))
include hh
theorem sw_at (n : Nat) (d : Array Prefix) (os : Array Obj) : (sortWorldK valP 2 w c 0 n d os).heap[c]? = some (.cells (Go.Sort.putCells id 0 (Go.Sort.flatK valP 2 d) cs) ty (0, 0)) := by
  have hlt : c < w.heap.size := (Array.getElem?_eq_some_iff.1 hh).1
  unfold sortWorldK Go.Sort.grow Go.Sort.putRowK Go.Sort.putRow Go.Sort.mapBlock
  show ((w.heap.modify c _) ++ os)[c]? = _
  rw [Array.getElem?_append_left (by simpa using hlt)]
  simp [Array.getElem?_modify, hh, Go.Sort.onCells]
end
theorem sw_other {w : World} {c : Nat} (n : Nat) (d : Array Prefix) (os : Array Obj) {k : Nat} (hk : k < w.heap.size) (hne : k ≠ c) : (sortWorldK valP 2 w c 0 n d os).heap[k]? = w.heap[k]? := by
  unfold sortWorldK Go.Sort.grow Go.Sort.putRowK Go.Sort.putRow Go.Sort.mapBlock
  show ((w.heap.modify c _) ++ os)[k]? = _
  rw [Array.getElem?_append_left (by simpa using hk)]
  simp [Array.getElem?_modify, Ne.symm hne]
theorem sw_size {w : World} {c : Nat} (n : Nat) (d : Array Prefix) (os : Array Obj) : w.heap.size ≤ (sortWorldK valP 2 w c 0 n d os).heap.size := by
  unfold sortWorldK Go.Sort.grow Go.Sort.putRowK Go.Sort.putRow Go.Sort.mapBlock
  show _ ≤ ((w.heap.modify c _) ++ os).size
  simp
set_option maxRecDepth 100000 in
theorem sortF_ok (fr ex : Bool) (l : List Prefix) (hl : l.length < 4611686018427387904) :
    CallV prog 88 [.osl 0 2 0 l.length, .fn (.func 16) [] []] [(0, some (.arr fr ex 24 2 (rowsP l)))] 1 (fun v' h' nx' => v' = .tup [] ∧ h' = [(0, some (.arr fr ex 24 2 (rowsP (sortPs l))))] ∧ nx' = 1) := by
  unfold CallV
  refine ⟨⟨_, Go.Proofs.Tryz.func88⟩, fun G w us hr hv => .inl ⟨⟨_, Go.Proofs.Tryz.func88, rfl, by decide⟩, ?_⟩⟩
  obtain ⟨u, u', rfl, hu, hu'⟩ := vrs_two hv
  obtain rfl : u' = .func (.func 16) #[] #[] := by
    cases hu' with
    | fn _ _ _ us ws h1 h2 _ _ =>
      cases us with
      | nil => cases ws with
        | nil => rfl
        | cons _ _ => simp at h2
      | cons _ _ => simp at h1
  have htup : ∀ {G : Gh} {w : World}, vr G w (.tup []) (.tuple #[]) := fun {G w} => .tup [] [] rfl (fun j v u h => by simp at h)
  have hown := hr.own 0 _ rfl
  by_cases h0 : l = []
  · subst h0
    obtain ⟨A, cap, rfl⟩ : ∃ A cap, u = .slice A 0 cap := by
      cases hu with
      | osl _ _ _ _ c cap m _ _ _ _ _ => exact ⟨_, _, rfl⟩
      | oslz _ _ _ A => exact ⟨_, _, rfl⟩
    refine (AnyF.slices_SortFunc_none Go.Proofs.Tryz.sortPfx A cap _ w).mono ?_
    rintro e w' ⟨rfl, rfl⟩
    refine ⟨_, _, _, _, G, rfl, ⟨rfl, rfl, rfl⟩, htup, ?_, Evo.refl _ _ _, Nat.le_refl _⟩
    have : sortPs [] = [] := by simp [sortPs]
    rw [this]
    exact hr
  have hpos : 0 < l.length := List.length_pos_iff.2 h0
  obtain ⟨hrow, hH⟩ : (∀ x, x ∈ rowsP l → x.length = 2) ∧ ((G.ι 0 = none ∧ rowsP l = []) ∨ Holds G w 0 fr ex 24 (rowsP l).flatten) := hown
  obtain ⟨c, cs, hι, hh, hle, hex, hfr, hcell, hone⟩ : Holds G w 0 fr ex 24 (rowsP l).flatten := by
    rcases hH with ⟨_, h⟩ | h
    · exact absurd (by simpa using h) h0
    · exact h
  obtain ⟨cap, rfl⟩ : ∃ cap, u = .slice (some ⟨c, 0, none⟩) l.toArray.size cap := by
    generalize hn : l.length = n at hu
    cases hu with
    | osl _ _ _ _ c' cap m hc _ _ _ _ =>
      rw [hι] at hc
      obtain rfl := Option.some.inj hc
      exact ⟨cap, by simp [hn]⟩
    | oslz _ _ _ A => omega
  have hclt : c < w.heap.size := hr.lt 0 c hι
  have hHK : Go.Sort.HoldsK valP 2 w c 0 l.toArray := by
    intro j hj
    rw [Go.Sort.size_flatK] at hj
    have hj' : j < l.length * 2 := by simpa using hj
    obtain ⟨v, hv⟩ := flatP_at l j hj'
    obtain ⟨u, hu, _, hvu⟩ := hcell j v hv
    rw [(flatP l j v hv).2 G w u] at hvu
    refine ⟨?_, ?_⟩
    · rw [Go.Sort.get_flatK _ _ _ _ hj, ← hvu]
      simp [World.cell?, hh, hu]
    · simp only [World.frozen?, hh]
      rfl
  have hcmp : CmpLays prog 16 #[] valP 2 cmpP c 0 l.toArray.size w := by
    intro m os dk _ x y
    have := k16 x.addr.toNat x.len.toNat y.addr.toNat y.len.toNat (sortWorldK valP 2 w c 0 m dk os)
    rw [cmp2_P] at this
    exact this
  have eg : ∀ args w, (callFunc 16 args).run prog w = .ok (.enter 16 args) w := enters_of Go.Proofs.Tryz.func16 (by kernel_rfl) rfl
  refine (AnyQ.slices_SortFunc_total Go.Proofs.Tryz.sortPfx 2 Go.Proofs.Tryz.isAgg24 Go.Proofs.Tryz.sizeOf24 valP (fun _ => rfl) (fun x v hv => by simp [valP] at hv; rcases hv with rfl | rfl <;> rfl) cmpP swoP 16 #[] c 0 cap l.toArray w eg hcmp hHK hclt (by simpa using hl) totP).mono ?_
  rintro e w' ⟨rfl, n, os, rfl⟩
  have el : (l.toArray.toList.mergeSort fun x y => !(ltOf cmpP) y x) = sortPs l := rfl
  rw [el]
  have hapart : ∀ k, G.amb k → k ≠ c := fun k hk e => hr.apart 0 _ c rfl hι (e ▸ hk)
  have hat := sw_at hh n (sortPs l).toArray os
  have hkeep : ∀ k, G.amb k → (sortWorldK valP 2 w c 0 n (sortPs l).toArray os).heap[k]? = w.heap[k]? := fun k hk => sw_other n _ os (hr.amb_lt k hk) (hapart k hk)
  have hsz := sw_size (w := w) (c := c) n (sortPs l).toArray os
  have hcs : (Go.Sort.putCells id 0 (Go.Sort.flatK valP 2 (sortPs l).toArray) cs).size = cs.size := by simp [Go.Sort.putCells]
  have hgot : ∀ j u, (Go.Sort.putCells id 0 (Go.Sort.flatK valP 2 (sortPs l).toArray) cs)[j]? = some u → (j < l.length * 2 ∧ u = (valP ((sortPs l).toArray[j / 2]!))[j % 2]!) ∨ cs[j]? = some u := by
    intro j u hj
    simp only [Go.Sort.putCells, Array.getElem?_mapIdx, Option.map_eq_some_iff] at hj
    obtain ⟨x, hx, hj⟩ := hj
    split at hj
    · rename_i hlt
      rw [Go.Sort.size_flatK] at hlt
      have h2 := hlt.2
      rw [Nat.zero_add] at h2
      left
      refine ⟨by simpa [sortPs_len] using h2, ?_⟩
      rw [← hj, Nat.sub_zero, Go.Sort.get_flatK _ _ _ _ h2]
      rfl
    · right; rw [hx, hj]
  refine ⟨_, _, _, _, G, rfl, ⟨rfl, rfl, rfl⟩, htup, ⟨fun k hk => Nat.lt_of_lt_of_le (hr.amb_lt k hk) hsz, Nat.le_trans hr.B_le hsz, hr.dom, fun b blk hb => ?_, fun b b' k k' c' hb hb' _ _ => ?_, fun b k c' hb hc' => ?_, fun b c' hc' => Nat.lt_of_lt_of_le (hr.lt b c' hc') hsz, fun b k hb => ?_, hr.gl.to (fun _ h => h) hkeep⟩,
    ⟨rfl, rfl, rfl, hsz, rfl, fun _ h => h, hkeep, fun k m hm => ?_, fun _ _ _ h => h, fun k hk hn => sw_other n _ os hk (fun e => hn 0 (e ▸ hι)), fun k hk _ => .inl hk, fun b k hk _ => ⟨b, hk⟩⟩, Nat.le_refl _⟩
  · rw [hget_cons] at hb
    split at hb
    · rename_i e
      subst e
      cases hb
      refine ⟨fun x hx => ?_, .inr ⟨c, _, hι, hat, ?_, fun he => ?_, hfr, fun j v hj => ?_, fun j u hu => ?_⟩⟩
      · obtain ⟨p, _, rfl⟩ := List.mem_map.1 hx; rfl
      · rw [hcs, flatP_len, sortPs_len, ← flatP_len]; exact hle
      · rw [hcs, flatP_len, sortPs_len, ← flatP_len]; exact hex he
      · obtain ⟨hj', hvr⟩ := flatP _ j v hj
        rw [sortPs_len] at hj'
        have hlt : j < cs.size := by rw [flatP_len] at hle; omega
        obtain ⟨x, hx⟩ : ∃ x, (Go.Sort.putCells id 0 (Go.Sort.flatK valP 2 (sortPs l).toArray) cs)[j]? = some x := ⟨_, Array.getElem?_eq_getElem (by rw [hcs]; exact hlt)⟩
        have hxe : x = (valP ((sortPs l).toArray[j / 2]!))[j % 2]! := by
          simp only [Go.Sort.putCells, Array.getElem?_mapIdx, Option.map_eq_some_iff] at hx
          obtain ⟨y, hy, hx⟩ := hx
          have hj2 : j < (sortPs l).toArray.size * 2 := by simpa [sortPs_len] using hj'
          rw [if_pos ⟨Nat.zero_le _, by rw [Go.Sort.size_flatK, Nat.zero_add]; exact hj2⟩, Nat.sub_zero, Go.Sort.get_flatK _ _ _ _ hj2] at hx
          exact hx.symm
        exact ⟨x, hx, by rw [hxe]; exact oneP _ _, (hvr _ _ _).2 hxe⟩
      · rcases hgot j u hu with ⟨_, rfl⟩ | h
        · exact oneP _ _
        · exact hone j u h
    · simp [hget] at hb
  · rw [hget_cons] at hb hb'
    split at hb
    · split at hb'
      · omega
      · simp [hget] at hb'
    · simp [hget] at hb
  · rw [hget_cons] at hb
    split at hb
    · rename_i e
      subst e
      exact hr.apart 0 _ c' rfl hc'
    · simp [hget] at hb
  · rw [hget_cons] at hb
    split at hb
    · omega
    · simp [hget] at hb
  · by_cases e : k = c
    · subst e
      unfold csz at hm ⊢
      rw [hat]
      rw [hh] at hm
      simpa [hcs] using hm
    · have hlt : k < w.heap.size := by
        unfold csz at hm
        split at hm
        · rename_i e; exact (Array.getElem?_eq_some_iff.1 e).1
        · cases hm
      unfold csz at hm ⊢
      rw [sw_other n _ os hlt e]
      exact hm
end Go.Proofs.YtehhligadnlijaaGreatDoor
set_option linter.unusedVariables false
set_option linter.unusedSimpArgs false
namespace Go.Proofs.YtehhligadnlijaaGreatDoor
open Go.RowKit
open Go.Proofs.Tryz (prog)
attribute [local irreducible] CallV RoundV aggK
def ddS (ds : List Prefix) (p : Prefix) : List Prefix := if prefOk p then (if p ∈ ds then ds else ds ++ [p]) else ds
def dd (l : List Prefix) : List Prefix := l.foldl ddS []
theorem dd_succ {l : List Prefix} {i : Nat} (h : i < l.length) : dd (l.take (i + 1)) = ddS (dd (l.take i)) l[i] := by
  unfold dd
  rw [List.take_succ_eq_append_getElem h, List.foldl_append]
  rfl
theorem ddS_len (ds : List Prefix) (p : Prefix) : (ddS ds p).length ≤ ds.length + 1 := by
  unfold ddS
  split
  · split <;> simp
  · omega
theorem dd_len (l : List Prefix) : (dd l).length ≤ l.length := by
  have key : ∀ (l acc : List Prefix), (l.foldl ddS acc).length ≤ acc.length + l.length := by
    intro l
    induction l with
    | nil => intro acc; simp
    | cons p l ih =>
      intro acc
      have := ih (ddS acc p)
      have := ddS_len acc p
      simp only [List.foldl_cons, List.length_cons]
      omega
  have := key l []
  simpa [dd] using this
def esP (ds : List Prefix) : List (V × V) := ds.map fun p => (encP p, .bool true)
theorem esP_free (ds : List Prefix) : ∀ kv ∈ esP ds, Free kv.1 ∧ Free kv.2 := by
  intro kv h
  obtain ⟨p, _, rfl⟩ := List.mem_map.1 h
  exact ⟨encP_free p, .bool⟩
theorem esP_keys (ds : List Prefix) : KeysV tab 24 (esP ds) := by
  intro kv h
  obtain ⟨p, _, rfl⟩ := List.mem_map.1 h
  exact keyP p
theorem encP_inj {p q : Prefix} (h : encP p = encP q) : p = q := by
  simp only [encP, cellsP, V.agg.injEq, List.cons.injEq, V.int.injEq, true_and, and_true] at h
  exact pfx_eq (by omega) (by omega)
theorem set_self {α : Type} : ∀ {l : List α} {i : Nat} {x : α}, l[i]? = some x → l.set i x = l
  | [], _, _, h => by simp at h
  | a :: l, 0, x, h => by simp at h; subst h; rfl
  | a :: l, i + 1, x, h => by simp at h; simp [set_self h]
theorem put_ok (ds : List Prefix) (p : Prefix) (hp : prefOk p = true) : ∃ r, MPos (esP ds) (encP p) r ∧ mput (esP ds) (encP p) (.bool true) r = esP (ddS ds p) := by
  by_cases h : p ∈ ds
  · obtain ⟨i, hi⟩ := List.getElem?_of_mem h
    have hi' : (esP ds)[i]? = some (encP p, .bool true) := by simp [esP, hi]
    exact ⟨some i, ⟨_, hi'⟩, by simp only [mput, set_self hi']; rw [ddS, if_pos hp, if_pos h]⟩
  · refine ⟨none, fun kv hkv e => ?_, ?_⟩
    · obtain ⟨q, hq, rfl⟩ := List.mem_map.1 hkv
      exact h (encP_inj e ▸ hq)
    · rw [ddS, if_pos hp, if_neg h]
      simp [mput, esP]
theorem sortPs_sorted (l : List Prefix) : (sortPs l).Pairwise (fun x y => pkey x ≤ pkey y) := by
  have := List.pairwise_mergeSort (le := fun x y : Prefix => !(ltOf cmpP) y x) (fun a b c h1 h2 => by simp [ltP] at *; omega) (fun a b => by simp [ltP]; omega) l
  exact this.imp fun h => by simpa [ltP] using h
theorem sorted_eq : ∀ {a b : List Prefix}, a.Perm b → a.Pairwise (fun x y => pkey x ≤ pkey y) → b.Pairwise (fun x y => pkey x ≤ pkey y) → a = b
  | [], b, h, _, _ => by simpa using h.length_eq.symm
  | x :: a, [], h, _, _ => by have := h.length_eq; simp at this
  | x :: a, y :: b, h, h1, h2 => by
    rw [List.pairwise_cons] at h1 h2
    have e : x = y := by
      have m1 : x ∈ y :: b := h.mem_iff.1 (by simp)
      have m2 : y ∈ x :: a := h.mem_iff.2 (by simp)
      rcases List.mem_cons.1 m1 with e | m1
      · exact e
      · rcases List.mem_cons.1 m2 with e | m2
        · exact e.symm
        · have q1 := h1.1 y m2
          have q2 := h2.1 x m1
          exact pkey_inj (by omega)
    subst e
    rw [sorted_eq (List.Perm.cons_inv h) h1.2 h2.2]
theorem sortPs_perm {a b : List Prefix} (h : a.Perm b) : sortPs a = sortPs b :=
  sorted_eq (((List.mergeSort_perm a _).trans h).trans (List.mergeSort_perm b _).symm) (sortPs_sorted a) (sortPs_sorted b)
theorem esP_erase : ∀ (l : List Prefix) (k : Nat), (esP l).eraseIdx k = esP (l.eraseIdx k)
  | [], _ => by simp [esP]
  | p :: l, 0 => by simp [esP]
  | p :: l, k + 1 => by simpa [esP] using esP_erase l k
theorem perm_erase : ∀ {l : List Prefix} {k : Nat} {p : Prefix}, l[k]? = some p → (p :: l.eraseIdx k).Perm l
  | [], _, _, h => by simp at h
  | a :: l, 0, p, h => by simp at h; subst h; simp
  | a :: l, k + 1, p, h => by
    have h : l[k]? = some p := by simpa using h
    rw [List.eraseIdx_cons_succ]
    exact (List.Perm.swap a p _).trans ((perm_erase h).cons a)
theorem perm_step {xs rest : List Prefix} {k : Nat} {p : Prefix} (h : rest[k]? = some p) : ((xs ++ [p]) ++ rest.eraseIdx k).Perm (xs ++ rest) := by
  rw [List.append_assoc]
  refine List.Perm.append_left xs ?_
  exact perm_erase h
set_option maxRecDepth 100000 in
theorem sort_ok (fr : Bool) (l : List Prefix) (hb : l.length ≤ 1000) : PCon prog 24 [encPs fr l] (encPs true (sortPs (dd l))) := by
  refine callV_of (fn := Go.Proofs.Tryz.f24) (body := _) tab_ok mixed rfl rfl (by decide) (by simp [Go.Proofs.Tryz.f24]) ?_
  (conv => whnf)
  intro hl
  have hl : l.length ≤ maxLen := by simpa [gd] using hl
  (conv => whnf)
  refine vcg_loop tab_ok mixed (fun i : {i : Nat // i ≤ l.length} => ⟨[(3, .mapp 0), (7, encPs fr l), (8, cI l.length), (9, cI i.1)], [(0, some (.map (esP (dd (l.take i.1)))))], 1⟩) (fun i => l.length - i.1) ⟨0, by omega⟩ (Wk.of id [] ⟨.mapp rfl (by omega), .free (encPs_free _ _), .int_of (by simp), .int_of rfl, trivial⟩ (LeH.of ⟨⟨by omega, .inl ⟨by simp, _, rfl, LeB.map rfl (by simp)⟩⟩, trivial⟩ (fun _ _ _ _ h => h) (fun _ _ => rfl) (by omega) (by simp))) (fun i => ?_)
  obtain ⟨i, hi⟩ := i
  (conv => whnf)
  split
  · rename_i hc
    have hc : i < l.length := by simpa using hc
    (conv => whnf)
    refine ⟨rfl, _, ⟨by first | omega | (simp only; omega), idxP hc⟩, ?_⟩
    (conv => whnf)
    refine callV_pure (uRight_ok l[i]) ⟨.free (encP_free _), trivial⟩ ?_
    (conv => whnf)
    split
    · rename_i hp
      (conv => whnf)
      refine ⟨esP_keys _, keyP _, ?_⟩
      obtain ⟨r, hr, hput⟩ := put_ok (dd (l.take i)) l[i] hp
      refine ⟨r, hr, ?_⟩
      have hput : mput (esP (dd (l.take i))) (encP l[i]) (.bool true) r = esP (dd (l.take (i + 1))) := by rw [dd_succ hc]; exact hput
      (conv => whnf)
      exact ⟨⟨i + 1, by omega⟩, Wk.of id [] ⟨.mapp rfl (by omega), .free (encPs_free _ _), .int_of rfl, .int_of (wrap64_succ hc hl), trivial⟩ (LeH.of ⟨⟨by omega, .inl ⟨by simp, _, rfl, LeB.map hput (by have := esP_free (dd (l.take (i + 1))); rw [← hput] at this; exact this)⟩⟩, trivial⟩ (fun _ _ _ _ h => h) (fun _ _ => rfl) (by omega) (by simp)), by simp only; omega⟩
    · rename_i hp
      (conv => whnf)
      refine ⟨⟨i + 1, by omega⟩, Wk.of id [] ⟨.mapp rfl (by omega), .free (encPs_free _ _), .int_of rfl, .int_of (wrap64_succ hc hl), trivial⟩ (LeH.of ⟨⟨by omega, .inl ⟨by simp, _, rfl, LeB.map ?_ (esP_free _)⟩⟩, trivial⟩ (fun _ _ _ _ h => h) (fun _ _ => rfl) (by omega) (by simp)), by simp only; omega⟩
      rw [dd_succ hc, ddS, if_neg (by simpa using hp)]
  · rename_i hc
    have hc : i = l.length := by simp at hc; omega
    subst hc
    (conv => whnf)
    refine callV_freeze (args' := [.imap false (esP (dd l))]) [0] (h' := []) (LeH.nil (by omega) (fun _ _ => rfl) (one_none rfl)) ⟨.freezeM (by simp) rfl (by simp only [List.take_length]) (esP_free _), trivial⟩ ?_
    refine callV_of (fn := Go.Proofs.Tryz.f51) (body := _) tab_ok mixed rfl rfl (by decide) (by simp [Go.Proofs.Tryz.f51]) ?_
    (conv => whnf)
    refine ⟨_, _, _, Ends.here, ?_⟩
    (conv => whnf)
    refine callV_of (fn := Go.Proofs.Tryz.f50) (body := _) tab_ok mixed rfl rfl (by decide) (by simp [Go.Proofs.Tryz.f50]) ?_
    (conv => whnf)
    refine callV_of (fn := Go.Proofs.Tryz.f87) (body := _) tab_ok mixed rfl rfl (by decide) (by simp [Go.Proofs.Tryz.f87]) ?_
    (conv => whnf)
    refine callV_of (fn := Go.Proofs.Tryz.f126) (body := _) tab_ok mixed rfl rfl (by decide) (by simp [Go.Proofs.Tryz.f126]) ?_
    (conv => whnf)
    refine callV_loop [(2, .ptr 2 0)] ⟨rfl, trivial⟩ fun asg' body' hasg hbody => ?_
    refine callV_of (fn := Go.Proofs.Tryz.f89) (body := _) tab_ok mixed rfl rfl (by decide) (by simp [Go.Proofs.Tryz.f89]) ?_
    (conv => whnf)
    refine vcg_loop tab_ok mixed (fun p : {p : List Prefix × List Prefix // (p.1 ++ p.2).Perm (dd l)} => ⟨[(0, .yld 3), (5, .ptr 4 0)], [(3, some (.loop 13 [(2, .ptr 2 0)] [7] asg' body' .ready none)), (2, some (.var true 37 [.osl 5 2 0 p.1.1.length])), (4, some (.iter none (esP p.1.2))), (5, some (.arr true false 24 2 (rowsP p.1.1)))], 6⟩) (fun p => p.1.2.length) ⟨([], dd l), by simp⟩ ?_ (fun p => ?_)
    · refine Wk.of id [] ⟨.yld rfl (by omega), .ptr rfl (by omega), trivial⟩ (LeH.of ⟨⟨by omega, .inl ⟨by simp, _, rfl, rfl, rfl, rfl, rfl, rfl, rfl, .ptr rfl (by omega), trivial⟩⟩, ⟨by omega, .inl ⟨by simp, _, rfl, id, rfl, .osl0, trivial⟩⟩, ⟨by omega, .inl ⟨by simp, _, rfl, LeB.iter rfl (esP_free _)⟩⟩, ⟨by omega, .inr ⟨by simp, _, _, _, _, rfl⟩⟩, trivial⟩ (fun _ _ _ _ h => h) (fun _ _ => rfl) (by omega) (by simp))
    obtain ⟨⟨xs, rest⟩, hp⟩ := p
    (conv => whnf)
    refine ⟨fun h0 => ?_, fun k kv hk => ?_⟩
    · have h0 : rest = [] := by simpa [esP] using h0
      subst h0
      rw [List.append_nil] at hp
      (conv => whnf)
      refine ⟨_, _, _, Ends.here, ?_⟩
      (conv => whnf)
      refine ⟨_, _, _, Ends.here, ?_⟩
      (conv => whnf)
      refine ⟨_, _, _, Ends.here, ?_⟩
      (conv => whnf)
      have hxl : xs.length ≤ 1000 := by
        have h1 : xs.length = (dd l).length := by have := hp.length_eq; simpa using this
        have h2 := dd_len l
        omega
      refine callV_frame (nx := 6) (n0 := 1) (renOf [(0, 5)]) (sortF_ok true false xs (by omega)) (by repeat' (first | exact True.intro | exact .osl_of rfl (by omega) rfl | exact .free (.fn (by simp) (by simp)) | exact LeB.arrE rfl (rowsP_free _) id id | exact .ptr rfl (by omega) | exact .osl_of rfl (by omega) rfl | exact .fr rfl | exact LeL.fr rfl | exact .yld rfl (by omega) | exact .eptr rfl (by omega) | exact .osl0 | exact .snil_sl | exact .to_any | refine ⟨?_, ?_⟩)) (LeH.of (by repeat' (first | exact True.intro | exact id | exact rfl | decide | exact Nat.le_of_ble_eq_true rfl | exact .osl_of rfl (by omega) rfl | exact .free (.fn (by simp) (by simp)) | exact LeB.arrE rfl (rowsP_free _) id id | exact .ptr rfl (by omega) | exact .osl_of rfl (by omega) rfl | exact .fr rfl | exact LeL.fr rfl | exact .yld rfl (by omega) | exact .eptr rfl (by omega) | exact .osl0 | exact .snil_sl | exact .to_any | exact LeB.fr rfl id id | exact LeB.fr (by simp; done) id id | refine Or.inl ⟨by simp, _, rfl, ?_⟩ | exact Or.inr ⟨by simp, _, _, _, _, rfl⟩ | refine ⟨rfl, rfl, rfl, rfl, rfl, rfl, ?_⟩ | refine ⟨?_, ?_⟩)) (show ∀ b ∈ ([0] : List Nat), ∀ b' ∈ ([0] : List Nat), (renOf [(0, 5)]) b = (renOf [(0, 5)]) b' → b = b' by decide) (fun _ h => by omega) (by omega) (by simp)) (fun b hb => by match b, hb with | 0, _ => exact ne_none_of rfl) (by decide) ?_
      rintro v h' nx' ⟨rfl, rfl, rfl⟩ _
      refine ⟨.tup [], [(5, some (.arr true false 24 2 (rowsP (sortPs xs))))], .free (.tup (by simp)), (by repeat' (first | exact True.intro | exact Or.inr ⟨by decide, rfl⟩ | exact Or.inl ⟨0, rfl, by omega, _, rfl, RenB.arr (rowsP_free _)⟩ | refine ⟨?_, ?_⟩)), ?_⟩
      (conv => whnf)
      refine ⟨_, _, _, Ends.here, ?_⟩
      (conv => whnf)
      have hs : sortPs xs = sortPs (dd l) := sortPs_perm (by simpa using hp)
      exact Ends.pure [5] (LeV.freeze_of (by simp) rfl (by simp [sortPs_len]) (rowsP_free _) (by rw [hs]; exact List.take_of_length_le (by simp [sortPs_len, ← hs]))) (one_none rfl)
    · obtain ⟨p, hpk, rfl⟩ : ∃ p, rest[k]? = some p ∧ kv = (encP p, .bool true) := by
        simp only [esP, List.getElem?_map, Option.map_eq_some_iff] at hk
        obtain ⟨p, h1, h2⟩ := hk
        exact ⟨p, h1, h2.symm⟩
      (conv => whnf)
      subst hasg hbody
      refine roundV_of tab_ok mixed rfl (by simp) (show 3 < 7 by omega) ?_
      (conv => whnf)
      have hlen : xs.length + 1 ≤ 1000 := by
        have h1 := hp.length_eq
        have h2 := dd_len l
        have h3 : k < rest.length := (List.getElem?_eq_some_iff.1 hpk).1
        simp only [List.length_append] at h1
        omega
      refine ⟨rfl, by first | rfl | (simp; done), by first | rfl | (simp; done), ⟨rfl, rfl, rfl, rfl, by decide⟩, by simp [rowsP], ⟨by simp [tab, tabOf, nth]; omega, by simp; omega⟩, ?_⟩
      (conv => whnf)
      refine ⟨rfl, ?_⟩
      (conv => whnf)
      have hperm : ((xs ++ [p]) ++ rest.eraseIdx k).Perm (dd l) := (perm_step hpk).trans hp
      refine ⟨⟨(xs ++ [p], rest.eraseIdx k), hperm⟩, Wk.of (renOf [(5, 9)]) [] ⟨.yld rfl (by omega), .ptr rfl (by omega), trivial⟩ (LeH.of ⟨⟨by omega, .inl ⟨by simp, _, rfl, rfl, rfl, rfl, rfl, rfl, rfl, .ptr rfl (by omega), trivial⟩⟩, ⟨by omega, .inl ⟨by simp, _, rfl, id, rfl, .osl_of rfl (by omega) (by simp), trivial⟩⟩, ⟨by omega, .inl ⟨by simp, _, rfl, LeB.iter (esP_erase rest k) (fun kv h => esP_free _ kv (List.mem_of_mem_eraseIdx h))⟩⟩, ⟨by omega, .inl ⟨by simp, _, rfl, LeB.arrE (by simp [rowsP]; exact ⟨List.take_of_length_le (by simp), rfl⟩) (fun x hx v hv => by
        rcases List.mem_append.1 hx with h | h
        · exact rowsP_free xs x (List.mem_of_mem_take h) v hv
        · simp at h; subst h; simp at hv; rcases hv with rfl | rfl <;> exact .int) id id⟩⟩, trivial⟩ (show ∀ b ∈ ([3, 2, 4, 5] : List Nat), ∀ b' ∈ ([3, 2, 4, 5] : List Nat), renOf [(5, 9)] b = renOf [(5, 9)] b' → b = b' by decide) (show ∀ b, b < 4 → renOf [(5, 9)] b = b by decide) (by omega) (by simp)), ?_⟩
      show (rest.eraseIdx k).length < rest.length
      have := (List.getElem?_eq_some_iff.1 hpk).1
      rw [List.length_eraseIdx]
      split <;> omega
end Go.Proofs.YtehhligadnlijaaGreatDoor
set_option linter.unusedVariables false
set_option linter.unusedSimpArgs false
namespace Go.Proofs.YtehhligadnlijaaGreatDoor
open Go.RowKit
open Go.Proofs.Tryz (prog)
attribute [local irreducible] CallV RoundV aggK
theorem LeB.arrY {h : Heap} {nx nx' : Nat} {ρ : Nat → Nat} {Z : List Nat} {fr fr' ex ex' : Bool} {ty sz : Nat} {xs ys : List (List V)} (e : xs = ys) (hf : ∀ x ∈ ys, ∀ v ∈ x, Free v) (h1 : fr' = true → fr = true) (h2 : ex' = true → ex = true) : LeB h nx ρ nx' Z (.arr fr ex ty sz xs) (.arr fr' ex' ty sz ys) := by
  subst e; exact LeB.arrE rfl hf h1 h2
end Go.Proofs.YtehhligadnlijaaGreatDoor
set_option linter.unusedVariables false
set_option linter.unusedSimpArgs false
namespace Go.Proofs.YtehhligadnlijaaGreatDoor
open Go.RowKit
open Go.Proofs.Tryz (prog)
attribute [local irreducible] CallV RoundV aggK
theorem mem_sortPs {l : List Prefix} {p : Prefix} : p ∈ sortPs l ↔ p ∈ l := (List.mergeSort_perm l _).mem_iff
end Go.Proofs.YtehhligadnlijaaGreatDoor
set_option linter.unusedVariables false
set_option linter.unusedSimpArgs false
namespace Go.Proofs.YtehhligadnlijaaGreatDoor
open Go.RowKit
open Go.Proofs.Tryz (prog)
def riseOk (l : List Prefix) : Prop := ∀ (j : Nat) (h : j < l.length), prefOk l[j] = true ∧ ∀ h0 : 0 < j, pkey l[j - 1] < pkey l[j]
def riseP (l : List Prefix) : Bool := decide (sortPs (dd l) = l)
theorem strict_of_rise : ∀ {l : List Prefix}, riseOk l → l.Pairwise (fun x y => pkey x < pkey y)
  | [], _ => .nil
  | [x], _ => by simp
  | x :: y :: l, h => by
    have ht : riseOk (y :: l) := fun j hj => ⟨(h (j + 1) (by simp at hj ⊢; omega)).1, fun h0 => by
      have := (h (j + 1) (by simp at hj ⊢; omega)).2 (by omega)
      obtain ⟨j', rfl⟩ : ∃ j', j = j' + 1 := ⟨j - 1, by omega⟩
      simpa using this⟩
    have hs := strict_of_rise ht
    have h1 : pkey x < pkey y := (h 1 (by simp)).2 (by omega)
    rw [List.pairwise_cons] at hs ⊢
    refine ⟨fun z hz => ?_, List.pairwise_cons.2 hs⟩
    rcases List.mem_cons.1 hz with rfl | hz
    · exact h1
    · have := hs.1 z hz; omega
theorem rise_of_strict {l : List Prefix} (hr : ∀ p ∈ l, prefOk p = true) (hs : l.Pairwise (fun x y => pkey x < pkey y)) : riseOk l := fun j h =>
  ⟨hr _ (List.getElem_mem h), fun h0 => List.pairwise_iff_getElem.1 hs (j - 1) j (by omega) h (by omega)⟩
theorem dd_mem {l : List Prefix} {p : Prefix} (h : p ∈ dd l) : p ∈ l ∧ prefOk p = true := by
  have key : ∀ (l acc : List Prefix), p ∈ l.foldl ddS acc → p ∈ acc ∨ (p ∈ l ∧ prefOk p = true) := by
    intro l
    induction l with
    | nil => intro acc h; exact .inl h
    | cons x l ih =>
      intro acc h
      rcases ih _ h with h1 | ⟨h1, h2⟩
      · unfold ddS at h1
        split at h1
        · rename_i hx
          split at h1
          · exact .inl h1
          · rcases List.mem_append.1 h1 with h1 | h1
            · exact .inl h1
            · obtain rfl := List.mem_singleton.1 h1
              exact .inr ⟨by simp, hx⟩
        · exact .inl h1
      · exact .inr ⟨by simp [h1], h2⟩
  rcases key l [] h with h | h
  · cases h
  · exact h
theorem dd_nodup (l : List Prefix) : (dd l).Nodup := by
  have key : ∀ (l acc : List Prefix), acc.Nodup → (l.foldl ddS acc).Nodup := by
    intro l
    induction l with
    | nil => intro acc h; exact h
    | cons x l ih =>
      intro acc h
      refine ih _ ?_
      unfold ddS
      split
      · split
        · exact h
        · rename_i hn
          rw [List.nodup_append]
          exact ⟨h, by simp, fun a ha b hb e => by simp at hb; subst hb; subst e; exact hn ha⟩
      · exact h
  exact key l [] (by simp)
theorem dd_self {l : List Prefix} (hr : ∀ p ∈ l, prefOk p = true) (hn : l.Nodup) : dd l = l := by
  have key : ∀ (l acc : List Prefix), (∀ p ∈ l, prefOk p = true) → (acc ++ l).Nodup → l.foldl ddS acc = acc ++ l := by
    intro l
    induction l with
    | nil => intro acc _ _; simp
    | cons x l ih =>
      intro acc hr hn
      have hx : x ∉ acc := fun hm => by
        rw [List.nodup_append] at hn
        exact hn.2.2 x hm x (by simp) rfl
      rw [List.foldl_cons, ddS, if_pos (hr x (by simp)), if_neg hx, ih _ (fun p hp => hr p (by simp [hp])) (by simpa using hn)]
      simp
  exact key l [] hr (by simpa using hn)
theorem nodup_of_strict {l : List Prefix} (hs : l.Pairwise (fun x y => pkey x < pkey y)) : l.Nodup := hs.imp fun h e => by subst e; exact Nat.lt_irrefl _ h
theorem riseP_iff {l : List Prefix} : riseP l = true ↔ riseOk l := by
  unfold riseP
  rw [decide_eq_true_eq]
  constructor
  · intro h
    have hr : ∀ p ∈ l, prefOk p = true := fun p hp => by
      rw [← h] at hp
      exact (dd_mem (mem_sortPs.1 hp)).2
    have hn : l.Nodup := by
      rw [← h]
      exact (List.mergeSort_perm (dd l) _).nodup_iff.2 (dd_nodup l)
    have hs := sortPs_sorted (dd l)
    rw [h] at hs
    refine rise_of_strict hr ?_
    have := List.pairwise_and_iff.2 ⟨hs, hn⟩
    exact this.imp fun ⟨h1, h2⟩ => by
      rcases Nat.lt_or_ge (pkey _) (pkey _) with h | h
      · exact h
      · exact absurd (pkey_inj (by omega)) h2
  · intro h
    have hs := strict_of_rise h
    have hr : ∀ p ∈ l, prefOk p = true := fun p hp => by
      obtain ⟨j, hj, rfl⟩ := List.getElem_of_mem hp
      exact (h j hj).1
    rw [dd_self hr (nodup_of_strict hs)]
    exact sorted_eq (List.mergeSort_perm l _) (sortPs_sorted l) (hs.imp fun h => Nat.le_of_lt h)
end Go.Proofs.YtehhligadnlijaaGreatDoor
set_option linter.unusedVariables false
set_option linter.unusedSimpArgs false
namespace Go.Proofs.YtehhligadnlijaaGreatDoor
open Go.RowKit
open Go.Proofs.Tryz (prog)
attribute [local irreducible] CallV RoundV aggK
set_option maxRecDepth 100000 in
theorem urise_ok (fr : Bool) (l : List Prefix) (hb : l.length ≤ 1000) : PCon prog 60 [encPs fr l] (.bool (riseP l)) := by
  refine callV_of (fn := Go.Proofs.Tryz.f60) (body := _) tab_ok mixed rfl rfl (by decide) (by simp [Go.Proofs.Tryz.f60]) ?_
  (conv => whnf)
  refine callV_pure (sort_ok fr l hb) ⟨.free (encPs_free _ _), trivial⟩ ?_
  (conv => whnf)
  refine callV_pure (equalP_ok true fr (sortPs (dd l)) l) ⟨.free (encPs_free _ _), .free (encPs_free _ _), trivial⟩ ?_
  (conv => whnf)
  exact (Ends.pure [] (by first | exact .ptr rfl (by omega) | exact .osl_of rfl (by omega) rfl | exact .fr rfl | exact LeL.fr rfl | exact .yld rfl (by omega) | exact .eptr rfl (by omega) | exact .osl0 | exact .snil_sl | exact .to_any) (by simp))
theorem any_none {l : List Prefix} {q : Prefix → Bool} {i : Nat} (hc : i < l.length) (hz : (l.take i).any q = false) (h : q l[i] = false) : (l.take (i + 1)).any q = false := by
  rw [List.take_succ_eq_append_getElem hc, List.any_append, hz]
  simpa using h
set_option maxRecDepth 100000 in
theorem indexP_ok (fr : Bool) (l : List Prefix) (p : Prefix) : ∃ n : Int, PCon prog 139 [encPs fr l, encP p] (.int .i64 n) ∧ (0 ≤ n ↔ l.any (fun x => decide (p = x)) = true) := by
  refine ⟨if l.any (fun x => decide (p = x)) then (l.findIdx (fun x => decide (p = x)) : Nat) else -1, ?_, by split <;> rename_i h <;> simp [h]⟩
  refine callV_of (fn := Go.Proofs.Tryz.f139) (body := _) tab_ok mixed rfl rfl (by decide) (by simp [Go.Proofs.Tryz.f139]) ?_
  (conv => whnf)
  intro hl
  have hl : l.length ≤ maxLen := by simpa [gd] using hl
  (conv => whnf)
  refine vcg_loop tab_ok mixed (fun i : {i : Nat // i ≤ l.length ∧ (l.take i).any (fun x => decide (p = x)) = false} => ⟨[(0, encPs fr l), (3, .ptr 0 0), (7, cI l.length), (8, cI i.1)], [(0, some (.var true 24 (cellsP p)))], 1⟩) (fun i => l.length - i.1) ⟨0, by omega, by simp⟩ (Wk.of id [] ⟨.free (encPs_free _ _), .ptr rfl (by omega), .int_of (by simp), .int_of rfl, trivial⟩ (LeH.same ⟨⟨rfl, cellsP_free p, by omega⟩, trivial⟩ (by omega))) (fun i => ?_)
  obtain ⟨i, hi, hz⟩ := i
  (conv => whnf)
  split
  · rename_i hc
    have hc : i < l.length := by simpa using hc
    (conv => whnf)
    refine ⟨rfl, _, ⟨by first | omega | (simp only; omega), idxP hc⟩, ?_⟩
    (conv => whnf)
    refine eqlP p l[i] ?_
    (conv => whnf)
    refine ⟨by kernel_rfl, ?_⟩
    (conv => whnf)
    split
    · rename_i h1
      have h1 : p = l[i] := by simpa using h1
      (conv => whnf)
      refine Ends.pure [] (.int_of ?_) (by simp)
      have ha : l.any (fun x => decide (p = x)) = true := List.any_eq_true.2 ⟨l[i], List.getElem_mem hc, by simp [h1]⟩
      rw [if_pos ha]
      congr 1
      symm
      rw [List.findIdx_eq hc]
      refine ⟨by simp [h1], fun j hj => ?_⟩
      have := List.any_eq_false.1 hz (l[j]'(by omega)) (by rw [List.mem_take_iff_getElem]; exact ⟨j, by omega, rfl⟩)
      simpa using this
    · rename_i h1
      have h1 : decide (p = l[i]) = false := by simpa using h1
      (conv => whnf)
      exact ⟨⟨i + 1, by omega, any_none hc hz h1⟩, Wk.of id [] ⟨.free (encPs_free _ _), .ptr rfl (by omega), .int_of rfl, .int_of (wrap64_succ hc hl), trivial⟩ (LeH.same ⟨⟨rfl, cellsP_free p, by omega⟩, trivial⟩ (by omega)), by simp only; omega⟩
  · rename_i hc
    have hc : i = l.length := by simp at hc; omega
    subst hc
    rw [List.take_length] at hz
    (conv => whnf)
    refine Ends.pure [] (.int_of ?_) (by simp)
    rw [if_neg (by simp only [hz]; decide)]
set_option maxRecDepth 100000 in
theorem containsP_ok (fr : Bool) (l : List Prefix) (p : Prefix) : PCon prog 106 [encPs fr l, encP p] (.bool (l.any (fun x => decide (p = x)))) := by
  obtain ⟨n, hn, hiff⟩ := indexP_ok fr l p
  refine callV_of (fn := Go.Proofs.Tryz.f106) (body := _) tab_ok mixed rfl rfl (by decide) (by simp [Go.Proofs.Tryz.f106]) ?_
  (conv => whnf)
  refine callV_pure hn ⟨.free (encPs_free _ _), .free (encP_free _), trivial⟩ ?_
  (conv => whnf)
  refine (Ends.pure [] (by first | exact .bool_of (by rw [Bool.eq_iff_iff, ← hiff]; simp) | exact .ptr rfl (by omega) | exact .osl_of rfl (by omega) rfl | exact .fr rfl | exact LeL.fr rfl | exact .yld rfl (by omega) | exact .eptr rfl (by omega) | exact .osl0 | exact .snil_sl | exact .to_any | (refine .tupL ?_; repeat' (first | exact True.intro | exact .bool_of (by rw [Bool.eq_iff_iff, ← hiff]; simp) | exact .ptr rfl (by omega) | exact .osl_of rfl (by omega) rfl | exact .fr rfl | exact LeL.fr rfl | exact .yld rfl (by omega) | exact .eptr rfl (by omega) | exact .osl0 | exact .snil_sl | exact .to_any | refine .aggL ?_ | refine ⟨?_, ?_⟩)) | (refine .aggL ?_; repeat' (first | exact True.intro | exact .bool_of (by rw [Bool.eq_iff_iff, ← hiff]; simp) | exact .ptr rfl (by omega) | exact .osl_of rfl (by omega) rfl | exact .fr rfl | exact LeL.fr rfl | exact .yld rfl (by omega) | exact .eptr rfl (by omega) | exact .osl0 | exact .snil_sl | exact .to_any | refine ⟨?_, ?_⟩))) (by simp))
set_option maxRecDepth 100000 in
theorem indexFuncP_ok (fr : Bool) (l : List Prefix) (g : FuncId) (caps : List V) (q : Prefix → Bool) (hg : ∀ p, PCon prog g ([] ++ [encP p] ++ caps) (.bool (q p))) (hf : ∀ v ∈ caps, Free v) : ∃ n : Int, PCon prog 138 [encPs fr l, .fn (.func g) [] caps] (.int .i64 n) ∧ (0 ≤ n ↔ l.any q = true) := by
  refine ⟨if l.any q then (l.findIdx q : Nat) else -1, ?_, by split <;> rename_i h <;> simp [h]⟩
  refine callV_of (fn := Go.Proofs.Tryz.f138) (body := _) tab_ok mixed rfl rfl (by decide) (by simp [Go.Proofs.Tryz.f138]) ?_
  (conv => whnf)
  intro hl
  have hl : l.length ≤ maxLen := by simpa [gd] using hl
  (conv => whnf)
  refine vcg_loop tab_ok mixed (fun i : {i : Nat // i ≤ l.length ∧ (l.take i).any q = false} => ⟨[(0, encPs fr l), (1, .fn (.func g) [] caps), (7, cI l.length), (8, cI i.1)], [], 0⟩) (fun i => l.length - i.1) ⟨0, by omega, by simp⟩ (Wk.of id [] ⟨.free (encPs_free _ _), .free (.fn (by simp) hf), .int_of (by simp), .int_of rfl, trivial⟩ (LeH.nil (Nat.le_refl _) (fun b h => by omega) (by simp))) (fun i => ?_)
  obtain ⟨i, hi, hz⟩ := i
  (conv => whnf)
  split
  · rename_i hc
    have hc : i < l.length := by simpa using hc
    have hq := hg l[i]
    (conv => whnf)
    refine ⟨rfl, _, ⟨by first | omega | (simp only; omega), idxP hc⟩, ?_⟩
    (conv => whnf)
    refine callV_pure hq (LeL.freeV (fun v hv => ?_)) ?_
    · rcases List.mem_append.1 hv with h | h
      · obtain rfl := List.mem_singleton.1 h; exact encP_free _
      · exact hf v h
    (conv => whnf)
    split
    · rename_i h1
      (conv => whnf)
      refine Ends.pure [] (.int_of ?_) (by simp)
      have ha : l.any q = true := List.any_eq_true.2 ⟨l[i], List.getElem_mem hc, h1⟩
      rw [if_pos ha]
      congr 1
      symm
      rw [List.findIdx_eq hc]
      refine ⟨h1, fun j hj => ?_⟩
      have := List.any_eq_false.1 hz (l[j]'(by omega)) (by rw [List.mem_take_iff_getElem]; exact ⟨j, by omega, rfl⟩)
      simpa using this
    · rename_i h1
      (conv => whnf)
      exact ⟨⟨i + 1, by omega, any_none hc hz (by simpa using h1)⟩, Wk.of id [] ⟨.free (encPs_free _ _), .free (.fn (by simp) hf), .int_of rfl, .int_of (wrap64_succ hc hl), trivial⟩ (LeH.nil (Nat.le_refl _) (fun b h => by omega) (by simp)), by simp only; omega⟩
  · rename_i hc
    have hc : i = l.length := by simp at hc; omega
    subst hc
    rw [List.take_length] at hz
    (conv => whnf)
    refine Ends.pure [] (.int_of ?_) (by simp)
    rw [if_neg (by simp [hz])]
set_option maxRecDepth 100000 in
theorem containsFuncP_ok (fr : Bool) (l : List Prefix) (g : FuncId) (caps : List V) (q : Prefix → Bool) (hg : ∀ p, PCon prog g ([] ++ [encP p] ++ caps) (.bool (q p))) (hf : ∀ v ∈ caps, Free v) : PCon prog 104 [encPs fr l, .fn (.func g) [] caps] (.bool (l.any q)) := by
  obtain ⟨n, hn, hiff⟩ := indexFuncP_ok fr l g caps q hg hf
  refine callV_of (fn := Go.Proofs.Tryz.f104) (body := _) tab_ok mixed rfl rfl (by decide) (by simp [Go.Proofs.Tryz.f104]) ?_
  (conv => whnf)
  refine callV_pure hn ⟨.free (encPs_free _ _), .free (.fn (by simp) hf), trivial⟩ ?_
  (conv => whnf)
  refine (Ends.pure [] (by first | exact .bool_of (by rw [Bool.eq_iff_iff, ← hiff]; simp) | exact .ptr rfl (by omega) | exact .osl_of rfl (by omega) rfl | exact .fr rfl | exact LeL.fr rfl | exact .yld rfl (by omega) | exact .eptr rfl (by omega) | exact .osl0 | exact .snil_sl | exact .to_any | (refine .tupL ?_; repeat' (first | exact True.intro | exact .bool_of (by rw [Bool.eq_iff_iff, ← hiff]; simp) | exact .ptr rfl (by omega) | exact .osl_of rfl (by omega) rfl | exact .fr rfl | exact LeL.fr rfl | exact .yld rfl (by omega) | exact .eptr rfl (by omega) | exact .osl0 | exact .snil_sl | exact .to_any | refine .aggL ?_ | refine ⟨?_, ?_⟩)) | (refine .aggL ?_; repeat' (first | exact True.intro | exact .bool_of (by rw [Bool.eq_iff_iff, ← hiff]; simp) | exact .ptr rfl (by omega) | exact .osl_of rfl (by omega) rfl | exact .fr rfl | exact LeL.fr rfl | exact .yld rfl (by omega) | exact .eptr rfl (by omega) | exact .osl0 | exact .snil_sl | exact .to_any | refine ⟨?_, ?_⟩))) (by simp))
end Go.Proofs.YtehhligadnlijaaGreatDoor
set_option linter.unusedVariables false
set_option linter.unusedSimpArgs false
namespace Go.Proofs.YtehhligadnlijaaGreatDoor
open Go.RowKit
open Go.Proofs.Tryz (prog)
attribute [local irreducible] CallV RoundV aggK
theorem LeV.fzP {h : Heap} {nx nx' : Nat} {ρ : Nat → Nat} {Z : List Nat} {b : Nat} {fr : Bool} {ty : TypeId} {cells : List V} (hz : b ∈ Z) (hb : hget h b = some (.var fr ty cells)) (hf : ∀ v ∈ cells, Free v) : LeV h nx ρ nx' Z (.ptr b 0) (.iptr fr cells) := LeV.freezeP (col := 0) hz hb hf
def apartP (a b : List Prefix) : Bool := !a.any (fun x => b.any (fun y => decide (x = y)))
set_option maxRecDepth 100000 in
theorem apart1_ok (fr : Bool) (b : List Prefix) (p : Prefix) : PCon prog 105 ([] ++ [encP p] ++ [.iptr true [encPs fr b]]) (.bool (b.any (fun y => decide (p = y)))) := by
  show PCon prog 105 [encP p, .iptr true [encPs fr b]] _
  refine callV_of (fn := Go.Proofs.Tryz.f105) (body := _) tab_ok mixed rfl rfl (by decide) (by simp [Go.Proofs.Tryz.f105]) ?_
  (conv => whnf)
  refine callV_pure (containsP_ok fr b p) ⟨.free (encPs_free _ _), .free (encP_free _), trivial⟩ ?_
  (conv => whnf)
  exact (Ends.pure [] (by first | exact .ptr rfl (by omega) | exact .osl_of rfl (by omega) rfl | exact .fr rfl | exact LeL.fr rfl | exact .yld rfl (by omega) | exact .eptr rfl (by omega) | exact .osl0 | exact .snil_sl | exact .to_any) (by simp))
set_option maxRecDepth 100000 in
theorem uapart_ok (fr fr' : Bool) (a b : List Prefix) : PCon prog 61 [encPs fr a, encPs fr' b] (.bool (apartP a b)) := by
  refine callV_of (fn := Go.Proofs.Tryz.f61) (body := _) tab_ok mixed rfl rfl (by decide) (by simp [Go.Proofs.Tryz.f61]) ?_
  (conv => whnf)
  refine callV_freeze (args' := [encPs fr a, .fn (.func 105) [] [.iptr true [encPs fr' b]]]) [0] (h' := []) (LeH.nil (by omega) (fun _ _ => rfl) (one_none rfl)) ⟨.free (encPs_free _ _), .fnL trivial ⟨.fzP (by simp) rfl (by intro v hv; obtain rfl := List.mem_singleton.1 hv; exact encPs_free _ _), trivial⟩, trivial⟩ ?_
  refine callV_pure (containsFuncP_ok fr a 105 [.iptr true [encPs fr' b]] (fun x => b.any (fun y => decide (x = y))) (fun p => apart1_ok fr' b p) (by intro v hv; obtain rfl := List.mem_singleton.1 hv; exact .iptr (by intro v hv; obtain rfl := List.mem_singleton.1 hv; exact encPs_free _ _))) ⟨.free (encPs_free _ _), .free (.fn (by simp) (by intro v hv; obtain rfl := List.mem_singleton.1 hv; exact .iptr (by intro v hv; obtain rfl := List.mem_singleton.1 hv; exact encPs_free _ _))), trivial⟩ ?_
  (conv => whnf)
  exact (Ends.pure [] (by first | exact .ptr rfl (by omega) | exact .osl_of rfl (by omega) rfl | exact .fr rfl | exact LeL.fr rfl | exact .yld rfl (by omega) | exact .eptr rfl (by omega) | exact .osl0 | exact .snil_sl | exact .to_any) (by simp))
end Go.Proofs.YtehhligadnlijaaGreatDoor
set_option linter.unusedVariables false
set_option linter.unusedSimpArgs false
namespace Go.Proofs.YtehhligadnlijaaGreatDoor
open Go.RowKit
open Go.Proofs.Tryz (prog)
attribute [local irreducible] CallV RoundV aggK
structure Upd where
  gone : List Prefix
  new : List Prefix
  attrs : Attrs
deriving DecidableEq
def cellsU (fr : Bool) (u : Upd) : List V := encPs fr u.gone :: encPs fr u.new :: cellsA fr u.attrs
def encU (fr : Bool) (u : Upd) : V := .agg (cellsU fr u)
theorem cellsU_free (fr : Bool) (u : Upd) : ∀ v ∈ cellsU fr u, Free v := by
  intro v hv
  rcases List.mem_cons.1 hv with rfl | hv
  · exact encPs_free _ _
  rcases List.mem_cons.1 hv with rfl | hv
  · exact encPs_free _ _
  · exact cellsA_free _ _ v hv
theorem encU_free (fr : Bool) (u : Upd) : Free (encU fr u) := .agg (cellsU_free fr u)
def sameU (a b : Upd) : Bool := decide (a.gone = b.gone) && decide (a.new = b.new) && sameA a.attrs b.attrs
set_option maxRecDepth 100000 in
theorem usame_ok (fr fr' : Bool) (a b : Upd) : PCon prog 36 [encU fr a, encU fr' b] (.bool (sameU a b)) := by
  have e1 := equalP_ok fr fr' a.gone b.gone
  have e2 := equalP_ok fr fr' a.new b.new
  have e3 := same_ok fr fr' a.attrs b.attrs
  refine callV_of (fn := Go.Proofs.Tryz.f36) (body := _) tab_ok mixed rfl rfl (by decide) (by simp [Go.Proofs.Tryz.f36]) ?_
  (conv => whnf)
  refine callV_pure e1 ⟨.free (encPs_free _ _), .free (encPs_free _ _), trivial⟩ ?_
  cases h1 : decide (a.gone = b.gone) with
  | false =>
    (conv => whnf)
    exact (Ends.pure [] (by first | exact .bool_of (by simp [sameU, h1]) | exact .ptr rfl (by omega) | exact .osl_of rfl (by omega) rfl | exact .fr rfl | exact LeL.fr rfl | exact .yld rfl (by omega) | exact .eptr rfl (by omega) | exact .osl0 | exact .snil_sl | exact .to_any | (refine .tupL ?_; repeat' (first | exact True.intro | exact .bool_of (by simp [sameU, h1]) | exact .ptr rfl (by omega) | exact .osl_of rfl (by omega) rfl | exact .fr rfl | exact LeL.fr rfl | exact .yld rfl (by omega) | exact .eptr rfl (by omega) | exact .osl0 | exact .snil_sl | exact .to_any | refine .aggL ?_ | refine ⟨?_, ?_⟩)) | (refine .aggL ?_; repeat' (first | exact True.intro | exact .bool_of (by simp [sameU, h1]) | exact .ptr rfl (by omega) | exact .osl_of rfl (by omega) rfl | exact .fr rfl | exact LeL.fr rfl | exact .yld rfl (by omega) | exact .eptr rfl (by omega) | exact .osl0 | exact .snil_sl | exact .to_any | refine ⟨?_, ?_⟩))) (by simp))
  | true =>
  (conv => whnf)
  refine callV_pure e2 ⟨.free (encPs_free _ _), .free (encPs_free _ _), trivial⟩ ?_
  cases h2 : decide (a.new = b.new) with
  | false =>
    (conv => whnf)
    exact (Ends.pure [] (by first | exact .bool_of (by simp only [sameU, h1, h2]; rfl) | exact .ptr rfl (by omega) | exact .osl_of rfl (by omega) rfl | exact .fr rfl | exact LeL.fr rfl | exact .yld rfl (by omega) | exact .eptr rfl (by omega) | exact .osl0 | exact .snil_sl | exact .to_any | (refine .tupL ?_; repeat' (first | exact True.intro | exact .bool_of (by simp only [sameU, h1, h2]; rfl) | exact .ptr rfl (by omega) | exact .osl_of rfl (by omega) rfl | exact .fr rfl | exact LeL.fr rfl | exact .yld rfl (by omega) | exact .eptr rfl (by omega) | exact .osl0 | exact .snil_sl | exact .to_any | refine .aggL ?_ | refine ⟨?_, ?_⟩)) | (refine .aggL ?_; repeat' (first | exact True.intro | exact .bool_of (by simp only [sameU, h1, h2]; rfl) | exact .ptr rfl (by omega) | exact .osl_of rfl (by omega) rfl | exact .fr rfl | exact LeL.fr rfl | exact .yld rfl (by omega) | exact .eptr rfl (by omega) | exact .osl0 | exact .snil_sl | exact .to_any | refine ⟨?_, ?_⟩))) (by simp))
  | true =>
  (conv => whnf)
  refine callV_pure e3 ⟨.free (encA_free _ _), .free (encA_free _ _), trivial⟩ ?_
  (conv => whnf)
  exact (Ends.pure [] (by first | exact .bool_of (by simp only [sameU, h1, h2]; rfl) | exact .ptr rfl (by omega) | exact .osl_of rfl (by omega) rfl | exact .fr rfl | exact LeL.fr rfl | exact .yld rfl (by omega) | exact .eptr rfl (by omega) | exact .osl0 | exact .snil_sl | exact .to_any | (refine .tupL ?_; repeat' (first | exact True.intro | exact .bool_of (by simp only [sameU, h1, h2]; rfl) | exact .ptr rfl (by omega) | exact .osl_of rfl (by omega) rfl | exact .fr rfl | exact LeL.fr rfl | exact .yld rfl (by omega) | exact .eptr rfl (by omega) | exact .osl0 | exact .snil_sl | exact .to_any | refine .aggL ?_ | refine ⟨?_, ?_⟩)) | (refine .aggL ?_; repeat' (first | exact True.intro | exact .bool_of (by simp only [sameU, h1, h2]; rfl) | exact .ptr rfl (by omega) | exact .osl_of rfl (by omega) rfl | exact .fr rfl | exact LeL.fr rfl | exact .yld rfl (by omega) | exact .eptr rfl (by omega) | exact .osl0 | exact .snil_sl | exact .to_any | refine ⟨?_, ?_⟩))) (by simp))
end Go.Proofs.YtehhligadnlijaaGreatDoor
set_option linter.unusedVariables false
set_option linter.unusedSimpArgs false
namespace Go.Proofs.YtehhligadnlijaaGreatDoor
open Go.RowKit
open Go.Proofs.Tryz (prog)
attribute [local irreducible] CallV RoundV aggK
set_option maxRecDepth 100000 in
theorem num_ok (e : Int) : PCon prog 22 [.int .i64 e] (.int .i64 e) := by
  refine callV_of (fn := Go.Proofs.Tryz.f22) (body := _) tab_ok mixed rfl rfl (by decide) (by simp [Go.Proofs.Tryz.f22]) ?_
  (conv => whnf)
  exact (Ends.pure [] (by first | exact .ptr rfl (by omega) | exact .osl_of rfl (by omega) rfl | exact .fr rfl | exact LeL.fr rfl | exact .yld rfl (by omega) | exact .eptr rfl (by omega) | exact .osl0 | exact .snil_sl | exact .to_any) (by simp))
end Go.Proofs.YtehhligadnlijaaGreatDoor
set_option linter.unusedVariables false
set_option linter.unusedSimpArgs false
namespace Go.Proofs.YtehhligadnlijaaGreatDoor
open Go.RowKit
open Go.Proofs.Tryz (prog)
attribute [local irreducible] CallV RoundV aggK
abbrev bytesS (l : List UInt8) : ByteArray := ⟨l.toArray⟩
theorem catS_mk (a b : List UInt8) : catS (bytesS a) (bytesS b) = bytesS (a ++ b) := by simp [catS, bytesS]
theorem bytesS_size (a : List UInt8) : (bytesS a).size = a.length := by simp [bytesS, ByteArray.size]
theorem itoa_len : ∀ n : Nat, n < 256 → (Lib.itoa n).length ≤ 3 := by decide +kernel
theorem itoa_lenB (x : UInt8) : (Lib.itoa (x.toNat : Int)).length ≤ 3 := itoa_len x.toNat x.toNat_lt
theorem catS_dot (a : List UInt8) (b : UInt8) : catS (bytesS a) ⟨#[b]⟩ = bytesS (a ++ [b]) := catS_mk a [b]
def dot1 (p : Prefix) : List UInt8 := Lib.itoa (((p.addr >>> 24).toUInt8).toNat : Int)
def dot2 (p : Prefix) : List UInt8 := dot1 p ++ [(46 : UInt8)] ++ Lib.itoa (((p.addr >>> 16).toUInt8).toNat : Int)
def dot3 (p : Prefix) : List UInt8 := dot2 p ++ [(46 : UInt8)] ++ Lib.itoa (((p.addr >>> 8).toUInt8).toNat : Int)
def dot4 (p : Prefix) : List UInt8 := dot3 p ++ [(46 : UInt8)] ++ Lib.itoa ((p.addr.toUInt8).toNat : Int)
def textB (p : Prefix) : List UInt8 := if prefOk p then dot4 p ++ [(47 : UInt8)] ++ Lib.itoa (p.len.toNat : Int) else []
theorem dot_len (p : Prefix) : (dot1 p).length ≤ 3 ∧ (dot2 p).length ≤ 7 ∧ (dot3 p).length ≤ 11 ∧ (dot4 p).length ≤ 15 := by
  have h1 := itoa_lenB (p.addr >>> 24).toUInt8
  have h2 := itoa_lenB (p.addr >>> 16).toUInt8
  have h3 := itoa_lenB (p.addr >>> 8).toUInt8
  have h4 := itoa_lenB p.addr.toUInt8
  simp only [dot4, dot3, dot2, dot1, List.length_append, List.length_cons, List.length_nil]
  omega
theorem wrapI (x : UInt8) : IntKind.i64.wrap (x.toNat : Int) = x.toNat := by
  have := x.toNat_lt
  exact wrap64 (by omega) (by omega)
theorem itoaB_ok (x : UInt8) : PCon prog 47 [.int .i64 (x.toNat : Int)] (.str (bytesS (Lib.itoa (x.toNat : Int)))) := by
  have := x.toNat_lt
  exact itoa_ok (x.toNat : Int) (by omega) (by omega)
end Go.Proofs.YtehhligadnlijaaGreatDoor
set_option linter.unusedVariables false
set_option linter.unusedSimpArgs false
namespace Go.Proofs.YtehhligadnlijaaGreatDoor
open Go.RowKit
open Go.Proofs.Tryz (prog)
attribute [local irreducible] CallV RoundV aggK
def numS (p : Prefix) : List ByteArray := (fourB p.addr).map fun x => bytesS (Lib.itoa (x.toNat : Int))
theorem join4 (p : Prefix) : Lib.join ((numS p).map (·.data.toList)) [46] = dot4 p := by
  simp [numS, fourB, bytesS, Lib.join, dot4, dot3, dot2, dot1]
theorem joinP_ok (p : Prefix) : PCon prog 48 [encS false (numS p), .str ⟨#[46]⟩] (.str (bytesS (dot4 p))) := by
  have e : Lib.join ((numS p).map (·.data.toList)) (⟨#[46]⟩ : ByteArray).data.toList = dot4 p := join4 p
  have := join_ok false (numS p) ⟨#[46]⟩ (by simp [numS, fourB]) (by rw [e]; have := (dot_len p).2.2.2; omega)
  unfold joinS at this
  rw [e] at this
  exact this
set_option maxRecDepth 100000 in
theorem uText_ok (p : Prefix) : PCon prog 21 [encP p] (.str (bytesS (textB p))) := by
  have hI1 := itoaB_ok (p.addr >>> 24).toUInt8
  have hI2 := itoaB_ok (p.addr >>> 16).toUInt8
  have hI3 := itoaB_ok (p.addr >>> 8).toUInt8
  have hI4 := itoaB_ok p.addr.toUInt8
  have hIl := itoaB_ok p.len
  refine callV_of (fn := Go.Proofs.Tryz.f21) (body := _) tab_ok mixed rfl rfl (by decide) (by simp [Go.Proofs.Tryz.f21]) ?_
  (conv => whnf)
  refine callV_pure (uRight_ok p) ⟨.free (encP_free _), trivial⟩ ?_
  (conv => whnf)
  split
  · rename_i h
    have h : prefOk p = false := by simpa using h
    (conv => whnf)
    exact (Ends.pure [] (by first | exact LeV.eq_of (by simp [textB, h, bytesS]; try rfl) .str | exact .ptr rfl (by omega) | exact .osl_of rfl (by omega) rfl | exact .fr rfl | exact LeL.fr rfl | exact .yld rfl (by omega) | exact .eptr rfl (by omega) | exact .osl0 | exact .snil_sl | exact .to_any | (refine .tupL ?_; repeat' (first | exact True.intro | exact LeV.eq_of (by simp [textB, h, bytesS]; try rfl) .str | exact .ptr rfl (by omega) | exact .osl_of rfl (by omega) rfl | exact .fr rfl | exact LeL.fr rfl | exact .yld rfl (by omega) | exact .eptr rfl (by omega) | exact .osl0 | exact .snil_sl | exact .to_any | refine .aggL ?_ | refine ⟨?_, ?_⟩)) | (refine .aggL ?_; repeat' (first | exact True.intro | exact LeV.eq_of (by simp [textB, h, bytesS]; try rfl) .str | exact .ptr rfl (by omega) | exact .osl_of rfl (by omega) rfl | exact .fr rfl | exact LeL.fr rfl | exact .yld rfl (by omega) | exact .eptr rfl (by omega) | exact .osl0 | exact .snil_sl | exact .to_any | refine ⟨?_, ?_⟩))) (by simp))
  rename_i h
  have h : prefOk p = true := by simpa using h
  (conv => whnf)
  refine callV_pure (uhigh_ok p.addr) ⟨.free .int, .free .int, trivial⟩ ?_
  (conv => whnf)
  intro _
  (conv => whnf)
  refine vcg_loop tab_ok mixed (fun k : {k : Nat // k ≤ 4} => ⟨[(1, .ptr 0 0), (3, .osl 1 1 0 k.1), (11, encB true (fourB p.addr)), (12, cI 4), (13, cI k.1)], [(0, some (.var true 24 (cellsP p))), (1, some (.arr true false 9 1 (rowsS ((numS p).take k.1))))], 2⟩) (fun k => 4 - k.1) ⟨0, by omega⟩ ?_ (fun k => ?_)
  · refine Wk.of id [] ⟨.ptr rfl (by omega), .osl0, .free (encB_free _ _), .int_of rfl, .int_of rfl, trivial⟩ (LeH.of ⟨⟨by omega, .inl ⟨by simp, _, rfl, id, rfl, .freeV (cellsP_free p)⟩⟩, ⟨by omega, .inr ⟨by simp, _, _, _, _, rfl⟩⟩, trivial⟩ (fun _ _ _ _ h => h) (fun _ _ => rfl) (by omega) (by simp))
  obtain ⟨k, hk⟩ := k
  obtain rfl | rfl | rfl | rfl | rfl : k = 0 ∨ k = 1 ∨ k = 2 ∨ k = 3 ∨ k = 4 := by omega
  · (conv => whnf)
    refine ⟨rfl, _, ⟨by first | omega | (simp only; omega), rfl⟩, ?_⟩
    (conv => whnf)
    refine callV_pure hI1 ⟨.int_of (wrapI _), trivial⟩ ?_
    (conv => whnf)
    refine ⟨rfl, by first | rfl | (simp; done), by first | rfl | decide | (simp; done), by simp [rowsS, numS, fourB], ⟨by simp [tab, tabOf, nth], by simp⟩, ?_⟩
    (conv => whnf)
    exact ⟨⟨1, by omega⟩, Wk.of (renOf [(1, 3)]) [] ⟨.ptr rfl (by omega), .osl_of rfl (by omega) rfl, .free (encB_free _ _), .int_of rfl, .int_of rfl, trivial⟩ (LeH.of ⟨⟨by omega, .inl ⟨by simp, _, rfl, id, rfl, .freeV (cellsP_free p)⟩⟩, ⟨by omega, .inl ⟨by simp, _, rfl, LeB.arrY (ys := rowsS ((numS p).take 1)) rfl (rowsS_free _) id id⟩⟩, trivial⟩ (show ∀ b ∈ ([0, 1] : List Nat), ∀ b' ∈ ([0, 1] : List Nat), renOf [(1, 3)] b = renOf [(1, 3)] b' → b = b' by decide) (fun _ h => by omega) (by omega) (by simp)), by simp only; omega⟩
  · (conv => whnf)
    refine ⟨rfl, _, ⟨by first | omega | (simp only; omega), rfl⟩, ?_⟩
    (conv => whnf)
    refine callV_pure hI2 ⟨.int_of (wrapI _), trivial⟩ ?_
    (conv => whnf)
    refine ⟨rfl, by first | rfl | (simp; done), by first | rfl | decide | (simp; done), by simp [rowsS, numS, fourB], ⟨by simp [tab, tabOf, nth], by simp⟩, ?_⟩
    (conv => whnf)
    exact ⟨⟨2, by omega⟩, Wk.of (renOf [(1, 3)]) [] ⟨.ptr rfl (by omega), .osl_of rfl (by omega) rfl, .free (encB_free _ _), .int_of rfl, .int_of rfl, trivial⟩ (LeH.of ⟨⟨by omega, .inl ⟨by simp, _, rfl, id, rfl, .freeV (cellsP_free p)⟩⟩, ⟨by omega, .inl ⟨by simp, _, rfl, LeB.arrY (ys := rowsS ((numS p).take 2)) rfl (rowsS_free _) id id⟩⟩, trivial⟩ (show ∀ b ∈ ([0, 1] : List Nat), ∀ b' ∈ ([0, 1] : List Nat), renOf [(1, 3)] b = renOf [(1, 3)] b' → b = b' by decide) (fun _ h => by omega) (by omega) (by simp)), by simp only; omega⟩
  · (conv => whnf)
    refine ⟨rfl, _, ⟨by first | omega | (simp only; omega), rfl⟩, ?_⟩
    (conv => whnf)
    refine callV_pure hI3 ⟨.int_of (wrapI _), trivial⟩ ?_
    (conv => whnf)
    refine ⟨rfl, by first | rfl | (simp; done), by first | rfl | decide | (simp; done), by simp [rowsS, numS, fourB], ⟨by simp [tab, tabOf, nth], by simp⟩, ?_⟩
    (conv => whnf)
    exact ⟨⟨3, by omega⟩, Wk.of (renOf [(1, 3)]) [] ⟨.ptr rfl (by omega), .osl_of rfl (by omega) rfl, .free (encB_free _ _), .int_of rfl, .int_of rfl, trivial⟩ (LeH.of ⟨⟨by omega, .inl ⟨by simp, _, rfl, id, rfl, .freeV (cellsP_free p)⟩⟩, ⟨by omega, .inl ⟨by simp, _, rfl, LeB.arrY (ys := rowsS ((numS p).take 3)) rfl (rowsS_free _) id id⟩⟩, trivial⟩ (show ∀ b ∈ ([0, 1] : List Nat), ∀ b' ∈ ([0, 1] : List Nat), renOf [(1, 3)] b = renOf [(1, 3)] b' → b = b' by decide) (fun _ h => by omega) (by omega) (by simp)), by simp only; omega⟩
  · (conv => whnf)
    refine ⟨rfl, _, ⟨by first | omega | (simp only; omega), rfl⟩, ?_⟩
    (conv => whnf)
    refine callV_pure hI4 ⟨.int_of (wrapI _), trivial⟩ ?_
    (conv => whnf)
    refine ⟨rfl, by first | rfl | (simp; done), by first | rfl | decide | (simp; done), by simp [rowsS, numS, fourB], ⟨by simp [tab, tabOf, nth], by simp⟩, ?_⟩
    (conv => whnf)
    exact ⟨⟨4, by omega⟩, Wk.of (renOf [(1, 3)]) [] ⟨.ptr rfl (by omega), .osl_of rfl (by omega) rfl, .free (encB_free _ _), .int_of rfl, .int_of rfl, trivial⟩ (LeH.of ⟨⟨by omega, .inl ⟨by simp, _, rfl, id, rfl, .freeV (cellsP_free p)⟩⟩, ⟨by omega, .inl ⟨by simp, _, rfl, LeB.arrY (ys := rowsS ((numS p).take 4)) rfl (rowsS_free _) id id⟩⟩, trivial⟩ (show ∀ b ∈ ([0, 1] : List Nat), ∀ b' ∈ ([0, 1] : List Nat), renOf [(1, 3)] b = renOf [(1, 3)] b' → b = b' by decide) (fun _ h => by omega) (by omega) (by simp)), by simp only; omega⟩
  · (conv => whnf)
    have hj := joinP_ok p
    have q4 := (dot_len p).2.2.2
    have hl := itoa_lenB p.len
    refine ⟨.str (bytesS (dot4 p)), [(1, some (.arr true false 9 1 (rowsS (numS p))))], fun h nx hrd => ?_, ?_, ?_⟩
    · have h1 := hrd 1 _ (List.mem_singleton.2 rfl)
      exact pureV_lend [1] hj ⟨LeV.fresh_off (LeV.freeze_of (ys := rowsS (numS p)) (by simp) h1 (by simp [numS, fourB]) (rowsS_free _) rfl), .free .str, trivial⟩ (by intro v hv; simp only [List.mem_cons, List.not_mem_nil, or_false] at hv; rcases hv with rfl | rfl; exact encS_cold _; exact .str) (one_none h1) .str
    · intro b ob hm
      obtain ⟨rfl, rfl⟩ : b = 1 ∧ ob = _ := by simpa using hm
      rfl
    (conv => whnf)
    refine ⟨by show (((bytesS (dot4 p)).size + (⟨#[47]⟩ : ByteArray).size : Nat) : Int) ≤ 9223372036854775807; rw [bytesS_size, show (⟨#[47]⟩ : ByteArray).size = 1 from rfl]; omega, ?_⟩
    (conv => whnf)
    refine ⟨_, [], fun h nx _ => pureV_pure hIl ⟨.int_of (wrapI _), trivial⟩, by simp, ?_⟩
    (conv => whnf)
    refine ⟨by show (((catS (bytesS (dot4 p)) ⟨#[47]⟩).size + (bytesS (Lib.itoa (p.len.toNat : Int))).size : Nat) : Int) ≤ 9223372036854775807; rw [catS_dot, bytesS_size, bytesS_size, List.length_append, List.length_cons, List.length_nil]; omega, ?_⟩
    (conv => whnf)
    refine ⟨by kernel_rfl, ?_⟩
    (conv => whnf)
    exact (Ends.pure [] (by first | exact LeV.eq_of (show V.str (catS (catS (bytesS (dot4 p)) ⟨#[47]⟩) (bytesS (Lib.itoa (p.len.toNat : Int)))) = V.str (bytesS (textB p)) by rw [catS_dot, catS_mk, textB, if_pos h]) .str | exact .ptr rfl (by omega) | exact .osl_of rfl (by omega) rfl | exact .fr rfl | exact LeL.fr rfl | exact .yld rfl (by omega) | exact .eptr rfl (by omega) | exact .osl0 | exact .snil_sl | exact .to_any | (refine .tupL ?_; repeat' (first | exact True.intro | exact LeV.eq_of (show V.str (catS (catS (bytesS (dot4 p)) ⟨#[47]⟩) (bytesS (Lib.itoa (p.len.toNat : Int)))) = V.str (bytesS (textB p)) by rw [catS_dot, catS_mk, textB, if_pos h]) .str | exact .ptr rfl (by omega) | exact .osl_of rfl (by omega) rfl | exact .fr rfl | exact LeL.fr rfl | exact .yld rfl (by omega) | exact .eptr rfl (by omega) | exact .osl0 | exact .snil_sl | exact .to_any | refine .aggL ?_ | refine ⟨?_, ?_⟩)) | (refine .aggL ?_; repeat' (first | exact True.intro | exact LeV.eq_of (show V.str (catS (catS (bytesS (dot4 p)) ⟨#[47]⟩) (bytesS (Lib.itoa (p.len.toNat : Int)))) = V.str (bytesS (textB p)) by rw [catS_dot, catS_mk, textB, if_pos h]) .str | exact .ptr rfl (by omega) | exact .osl_of rfl (by omega) rfl | exact .fr rfl | exact LeL.fr rfl | exact .yld rfl (by omega) | exact .eptr rfl (by omega) | exact .osl0 | exact .snil_sl | exact .to_any | refine ⟨?_, ?_⟩))) (by simp))
end Go.Proofs.YtehhligadnlijaaGreatDoor
set_option linter.unusedVariables false
set_option linter.unusedSimpArgs false
namespace Go.Proofs.YtehhligadnlijaaGreatDoor
open Go.RowKit
open Go.Proofs.Tryz (prog)
attribute [local irreducible] CallV RoundV aggK
def legFew (p : Leg) : Bool := decide ((p.ns.length : Int) ≤ 60)
def fewU (u : Upd) : Bool := u.attrs.path.all legFew && decide ((u.gone.length : Int) ≤ 150) && decide ((u.new.length : Int) ≤ 150) && decide ((u.attrs.path.length : Int) ≤ 20) && decide ((u.attrs.tags.length : Int) ≤ 60)
set_option maxRecDepth 100000 in
set_option maxHeartbeats 4000000 in
theorem few20_ok (fr : Bool) (u : Upd) : PCon prog 27 [encU fr u] (.bool (fewU u)) := by
  refine callV_of (fn := Go.Proofs.Tryz.f27) (body := _) tab_ok mixed rfl rfl (by decide) (by simp [Go.Proofs.Tryz.f27]) ?_
  have fin : ∀ {s : St} {r : Bool}, fewU u = r → ∃ v1 h' nx', Ends 0 s (.bool r) v1 h' nx' ∧ (v1 = .bool (fewU u) ∧ h' = [] ∧ nx' = 0) := fun h => Ends.pure [] (.bool_of h.symm) (by simp)
  (conv => whnf)
  refine vcg_loop tab_ok mixed (fun i : {i : Nat // i ≤ u.attrs.path.length ∧ (u.attrs.path.take i).all legFew = true} => ⟨[(1, .ptr 0 0), (3, cI i.1)], [(0, some (.var true 47 (cellsU fr u)))], 1⟩) (fun i => u.attrs.path.length - i.1) ⟨0, by omega, rfl⟩ (Wk.of id [] ⟨.ptr rfl (by omega), .int_of rfl, trivial⟩ (LeH.same ⟨⟨rfl, cellsU_free _ _, by omega⟩, trivial⟩ (by omega))) (fun i => ?_)
  obtain ⟨i, hi, hz⟩ := i
  (conv => whnf)
  intro hl
  have hl : u.attrs.path.length ≤ maxLen := by simpa [gd] using hl
  (conv => whnf)
  split
  · rename_i hc
    have hc : i < u.attrs.path.length := by simpa using hc
    (conv => whnf)
    refine ⟨rfl, _, ⟨by first | omega | (simp only; omega), idxL hc⟩, ?_⟩
    (conv => whnf)
    intro _
    (conv => whnf)
    split
    · rename_i h1
      (conv => whnf)
      refine fin ?_
      have h1 : legFew u.attrs.path[i] = false := by simpa [legFew] using h1
      have : u.attrs.path.all legFew = false := all_false (p := legFew) hc h1
      simp [fewU, this]
    · rename_i h1
      have h1 : legFew u.attrs.path[i] = true := by simpa [legFew] using h1
      (conv => whnf)
      exact ⟨⟨i + 1, by omega, by rw [all_take_succ hc, hz]; simpa using h1⟩, Wk.of id [] ⟨.ptr rfl (by omega), .int_of (wrap64_succ hc hl), trivial⟩ (LeH.same ⟨⟨rfl, cellsU_free _ _, by omega⟩, trivial⟩ (by omega)), by simp only; omega⟩
  · rename_i hc
    have hc : i = u.attrs.path.length := by simp at hc; omega
    subst hc
    rw [List.take_length] at hz
    (conv => whnf)
    repeat' first
      | refine fin ?_
      | (intro _; (conv => whnf))
      | (split <;> (conv => whnf))
    all_goals (clear fin; simp_all [fewU])
    all_goals (try (intros; exfalso; omega))
end Go.Proofs.YtehhligadnlijaaGreatDoor
set_option linter.unusedVariables false
set_option linter.unusedSimpArgs false
namespace Go.Proofs.YtehhligadnlijaaGreatDoor
open Go.RowKit
open Go.Proofs.Tryz (prog)
attribute [local irreducible] CallV RoundV aggK
instance {fr l} : FreeI (encPs fr l) := ⟨⟨encPs_free fr l⟩⟩
instance {l} : FreeRI (rowsP l) := ⟨⟨rowsP_free l⟩⟩
instance {fr u} : FreeI (encU fr u) := ⟨⟨encU_free fr u⟩⟩
instance {fr u} : FreeLI (cellsU fr u) := ⟨⟨cellsU_free fr u⟩⟩
def nP (p : Prefix) : Nat := (p.len.toNat + 7) / 8
def prefB (p : Prefix) : List UInt8 := p.len :: (fourB p.addr).take (nP p)
def prefsB (l : List Prefix) : List UInt8 := l.flatMap prefB
theorem prefsB_succ {l : List Prefix} {i : Nat} (h : i < l.length) : prefsB (l.take (i + 1)) = prefsB (l.take i) ++ prefB l[i] := by
  unfold prefsB
  rw [List.take_succ_eq_append_getElem h, List.flatMap_append, List.flatMap_cons, List.flatMap_nil, List.append_nil]
theorem prefB_len (p : Prefix) : 1 ≤ (prefB p).length ∧ (prefB p).length ≤ 5 := by
  simp [prefB, fourB]
  omega
theorem prefsB_len : ∀ l : List Prefix, (prefsB l).length ≤ 5 * l.length
  | [] => by simp [prefsB]
  | p :: l => by
    have := prefsB_len l
    have h := prefB_len p
    rw [prefsB, List.flatMap_cons, List.length_append, ← prefsB, List.length_cons]
    omega
theorem prefsB_take (l : List Prefix) (i : Nat) (h : i ≤ l.length) : (prefsB (l.take i)).length ≤ 5 * l.length := by
  have := prefsB_len (l.take i)
  rw [List.length_take] at this
  omega
theorem nP_int (p : Prefix) : (IntKind.i64.wrap ((IntKind.i64.wrap ((IntKind.i64.wrap (p.len.toNat : Int)) + 7)).tdiv 8)) = (nP p : Int) := by
  have := p.len.toNat_lt
  rw [wrap64 (n := (p.len.toNat : Int)) (by omega) (by omega), wrap64 (n := (p.len.toNat : Int) + 7) (by omega) (by omega), Int.tdiv_eq_ediv_of_nonneg (by omega), wrap64 (by omega) (by omega), nP]
  omega
theorem nP_le {p : Prefix} (h : prefOk p = true) : nP p ≤ 4 := by
  simp only [prefOk, Bool.and_eq_true, decide_eq_true_eq] at h
  unfold nP
  omega
set_option maxRecDepth 100000 in
set_option maxHeartbeats 4000000 in
theorem ulaid_ok (fr : Bool) (l : List Prefix) (hb : l.length ≤ 1000) (hr : ∀ p ∈ l, prefOk p = true) : PCon prog 90 [encPs fr l] (encB true (prefsB l)) := by
  refine callV_of (fn := Go.Proofs.Tryz.f90) (body := _) tab_ok mixed rfl rfl (by decide) (by simp [Go.Proofs.Tryz.f90]) ?_
  (conv => whnf)
  intro _
  (conv => whnf)
  refine vcg_loop tab_ok mixed (fun i : {i : Nat // i ≤ l.length} => ⟨[(2, .osl 0 1 0 (prefsB (l.take i.1)).length), (5, encPs fr l), (6, cI l.length), (7, cI i.1)], [(0, some (.arr true false 5 1 (rowsB (prefsB (l.take i.1)))))], 1⟩) (fun i => l.length - i.1) ⟨0, by omega⟩ (Wk.i (by repeat' (first | exact True.intro | exact id | exact rfl | decide | exact Nat.le_of_ble_eq_true rfl | exact .int_of (by simp) | exact .ptr rfl (by omega) | exact .osl_of rfl (by omega) rfl | exact .fr rfl | exact LeL.fr rfl | exact .yld rfl (by omega) | exact .eptr rfl (by omega) | exact .osl0 | exact .snil_sl | exact .to_any | exact LeB.fr rfl id id | exact LeB.fr (by simp; done) id id | refine Or.inl ⟨by simp, _, rfl, ?_⟩ | exact Or.inr ⟨by simp, _, _, _, _, rfl⟩ | refine ⟨rfl, rfl, rfl, rfl, rfl, rfl, ?_⟩ | refine ⟨?_, ?_⟩)) (by omega)) (fun i => ?_)
  obtain ⟨i, hi⟩ := i
  have hlen := prefsB_take l i hi
  (conv => whnf)
  split
  · rename_i hc
    have hc : i < l.length := by simpa using hc
    have hp := hr l[i] (List.getElem_mem hc)
    have h4 := nP_le hp
    (conv => whnf)
    refine ⟨rfl, _, ⟨by first | omega | (simp only; omega), idxP hc⟩, ?_⟩
    (conv => whnf)
    refine ⟨rfl, by simp, ⟨rfl, rfl, rfl, rfl, by decide⟩, by simp [rowsB], ⟨by simp [tab, tabOf, nth]; omega, by simp; omega⟩, ?_⟩
    (conv => whnf)
    refine ⟨_, [], fun h nx _ => pureV_pure (uhigh_ok _) ⟨.int_of rfl, .fr rfl, trivial⟩, by simp, ?_⟩
    (conv => whnf)
    refine ⟨by decide, ?_⟩
    (conv => whnf)
    refine ⟨rfl, ⟨trivial, by rw [nP_int]; omega, Nat.zero_le _, by rw [nP_int]; simp [fourB]; omega⟩, ?_⟩
    (conv => whnf)
    refine ⟨⟨rfl, rfl, rfl, rfl, by decide⟩, by simp [rowsB], ⟨by simp [tab, tabOf, nth, fourB]; omega, by simp [fourB]; omega⟩, ?_⟩
    (conv => whnf)
    refine ⟨by kernel_rfl, ?_⟩
    (conv => whnf)
    exact ⟨⟨i + 1, by omega⟩, (Wk.all (renOf [(0, 4)]) [] (by repeat' (first | exact True.intro | exact id | exact rfl | decide | exact Nat.le_of_ble_eq_true rfl | exact .int_of (wrap64_succ hc (by unfold maxLen; omega)) | exact .osl_of rfl (by omega) (by rw [prefsB_succ hc, nP_int]; simp [prefB, fourB]; omega) | exact LeB.fr (by rw [prefsB_succ hc, nP_int]; simp [prefB, rowsB, List.take_of_length_le]) id id | exact .ptr rfl (by omega) | exact .osl_of rfl (by omega) rfl | exact .fr rfl | exact LeL.fr rfl | exact .yld rfl (by omega) | exact .eptr rfl (by omega) | exact .osl0 | exact .snil_sl | exact .to_any | exact LeB.fr rfl id id | exact LeB.fr (by simp; done) id id | refine Or.inl ⟨by simp, _, rfl, ?_⟩ | exact Or.inr ⟨by simp, _, _, _, _, rfl⟩ | refine ⟨rfl, rfl, rfl, rfl, rfl, rfl, ?_⟩ | refine ⟨?_, ?_⟩)) (show ∀ b ∈ ([0] : List Nat), ∀ b' ∈ ([0] : List Nat), (renOf [(0, 4)]) b = (renOf [(0, 4)]) b' → b = b' by decide) (fun _ h => by omega) (by omega) (by simp)), by simp only; omega⟩
  · rename_i hc
    have hc : i = l.length := by simp at hc; omega
    subst hc
    (conv => whnf)
    exact Ends.pure [0] (LeV.freezeE (ys := rowsB (prefsB l)) (by simp) rfl (by simp [rowsB]) (by simp [rowsB, List.take_of_length_le]) (rowsB_free _)) (one_none rfl)
end Go.Proofs.YtehhligadnlijaaGreatDoor
set_option linter.unusedVariables false
set_option linter.unusedSimpArgs false
namespace Go.Proofs.YtehhligadnlijaaGreatDoor
open Go.RowKit
open Go.Proofs.Tryz (prog)
attribute [local irreducible] CallV RoundV aggK
abbrev rowsC (ls : List (List UInt8)) : List (List V) := ls.map fun l => [encB false l]
def catV (fr : Bool) (ls : List (List UInt8)) : V := .sl fr 1 (rowsC ls)
theorem rowsC_all (ls : List (List UInt8)) : ∀ x ∈ rowsC ls, ∀ v ∈ x, Free v ∧ Cold v := by
  intro x hx v hv
  obtain ⟨l, _, rfl⟩ := List.mem_map.1 hx
  simp at hv; subst hv; exact ⟨encB_free _ _, encB_cold _⟩
theorem catV_free (fr : Bool) (ls : List (List UInt8)) : Free (catV fr ls) := .sl fun x hx v hv => (rowsC_all ls x hx v hv).1
theorem catV_cold (ls : List (List UInt8)) : Cold (catV false ls) := .sl fun x hx v hv => (rowsC_all ls x hx v hv).2
instance {fr ls} : FreeI (catV fr ls) := ⟨⟨catV_free fr ls⟩⟩
theorem idxC {ls : List (List UInt8)} {i : Nat} (h : i < ls.length) : (rowsC ls)[(i : Int).toNat]? = some [encB false ls[i]] := by simp [rowsC, h]
theorem flat_succ {α : Type} {ls : List (List α)} {i : Nat} (h : i < ls.length) : (ls.take (i + 1)).flatten = (ls.take i).flatten ++ ls[i] := by
  rw [List.take_succ_eq_append_getElem h, List.flatten_append]; simp
theorem flat_le {α : Type} (ls : List (List α)) (i : Nat) : (ls.take i).flatten.length ≤ ls.flatten.length := by
  conv => rhs; rw [← List.take_append_drop i ls, List.flatten_append, List.length_append]
  omega
structure Cat (ls : List (List UInt8)) where
  i : Nat
  rows : List (List V)
  le : i ≤ ls.length
  free : ∀ x ∈ rows, ∀ v ∈ x, Free v
  len : (ls.take i).flatten.length ≤ rows.length
  eq : rows.take (ls.take i).flatten.length = rowsB (ls.take i).flatten
theorem zeros8_free (n : Nat) : ∀ r ∈ List.replicate n [V.int .u8 0], ∀ v ∈ r, Free v := by
  intro r hr v hv
  rw [List.eq_of_mem_replicate hr] at hv; simp at hv; subst hv; exact .int
set_option maxRecDepth 100000 in
set_option maxHeartbeats 4000000 in
theorem concatB_ok (ls : List (List UInt8)) (hl : ls.length ≤ 1000) (hs : ls.flatten.length ≤ 1000000) : PCon prog 92 [catV false ls] (encB true ls.flatten) := by
  have hf := flat_le ls
  refine callV_of (fn := Go.Proofs.Tryz.f92) (body := _) tab_ok mixed rfl rfl (by decide) (by simp [Go.Proofs.Tryz.f92]) ?_
  (conv => whnf)
  intro _
  (conv => whnf)
  refine vcg_loop tab_ok mixed (fun i : {i : Nat // i ≤ ls.length} => ⟨[(0, catV false ls), (3, cI (ls.take i.1).flatten.length), (9, catV false ls), (10, cI ls.length), (11, cI i.1)], [], 0⟩) (fun i => ls.length - i.1) ⟨0, by omega⟩ (Wk.i (by repeat' (first | exact True.intro | exact id | exact rfl | decide | exact Nat.le_of_ble_eq_true rfl | exact .int_of (by simp) | exact .int_of rfl | exact .ptr rfl (by omega) | exact .osl_of rfl (by omega) rfl | exact .fr rfl | exact LeL.fr rfl | exact .yld rfl (by omega) | exact .eptr rfl (by omega) | exact .osl0 | exact .snil_sl | exact .to_any | exact LeB.fr rfl id id | exact LeB.fr (by simp; done) id id | refine Or.inl ⟨by simp, _, rfl, ?_⟩ | exact Or.inr ⟨by simp, _, _, _, _, rfl⟩ | refine ⟨rfl, rfl, rfl, rfl, rfl, rfl, ?_⟩ | refine ⟨?_, ?_⟩)) (by omega)) (fun i => ?_)
  obtain ⟨i, hi⟩ := i
  have hfi := hf i
  (conv => whnf)
  split
  · rename_i hc
    have hc : i < ls.length := by simpa using hc
    have hn : (ls.take (i + 1)).flatten.length = (ls.take i).flatten.length + ls[i].length := by rw [flat_succ hc, List.length_append]
    have hf1 := hf (i + 1)
    have hw : IntKind.i64.wrap (((ls.take i).flatten.length : Int) + ((List.map (fun x => [V.int .u8 x.toNat]) ls[i]).length : Nat)) = ((ls.take (i + 1)).flatten.length : Nat) := by
      rw [List.length_map, hn, wrap64 (by omega) (by omega)]; omega
    (conv => whnf)
    refine ⟨rfl, _, ⟨by first | omega | (simp only; omega), idxC hc⟩, ?_⟩
    (conv => whnf)
    intro _
    (conv => whnf)
    split
    · rename_i h
      exfalso
      rw [hw] at h
      simp at h
      omega
    (conv => whnf)
    exact ⟨⟨i + 1, by omega⟩, (Wk.i (by repeat' (first | exact True.intro | exact id | exact rfl | decide | exact Nat.le_of_ble_eq_true rfl | exact .int_of hw | exact .int_of (wrap64_succ hc (by unfold maxLen; omega)) | exact .ptr rfl (by omega) | exact .osl_of rfl (by omega) rfl | exact .fr rfl | exact LeL.fr rfl | exact .yld rfl (by omega) | exact .eptr rfl (by omega) | exact .osl0 | exact .snil_sl | exact .to_any | exact LeB.fr rfl id id | exact LeB.fr (by simp; done) id id | refine Or.inl ⟨by simp, _, rfl, ?_⟩ | exact Or.inr ⟨by simp, _, _, _, _, rfl⟩ | refine ⟨rfl, rfl, rfl, rfl, rfl, rfl, ?_⟩ | refine ⟨?_, ?_⟩)) (by omega)), by simp only; omega⟩
  rename_i hc
  have hc : i = ls.length := by simp at hc; omega
  subst hc
  simp only [List.take_length]
  (conv => whnf)
  refine callV_of (fn := Go.Proofs.Tryz.f131) (body := _) tab_ok mixed rfl rfl (by decide) (by simp [Go.Proofs.Tryz.f131]) ?_
  (conv => whnf)
  have hn : IntKind.i64.wrap ((ls.flatten.length : Int) - IntKind.i64.wrap (0 - 0)) = (ls.flatten.length : Nat) := by
    rw [show IntKind.i64.wrap (0 - 0) = 0 by decide, wrap64 (by omega) (by omega)]; omega
  split
  · rename_i hg
    (conv => whnf)
    refine ⟨⟨trivial, by simp, rfl, rfl⟩, ?_⟩
    (conv => whnf)
    refine ⟨by rw [hn]; exact ⟨by decide, by omega, by simp only [Int.toNat_natCast]; show _ * 1 ≤ _; omega, by simp only [Int.toNat_natCast]; omega⟩, ?_⟩
    (conv => whnf)
    refine ⟨rfl, .own, ⟨trivial, by simp, by simp, by simp⟩, ?_⟩
    (conv => whnf)
    refine ⟨_, _, _, Ends.here, ?_⟩
    (conv => whnf)
    intro _
    (conv => whnf)
    refine vcg_loop tab_ok mixed (fun k : Cat ls => ⟨[(6, .osl 0 1 0 (ls.take k.i).flatten.length), (25, catV false ls), (26, cI ls.length), (27, cI k.i)], [(0, some (.arr true false 5 1 k.rows))], 1⟩) (fun k => ls.length - k.i) ⟨0, List.replicate ls.flatten.length [.int .u8 0], by omega, zeros8_free _, by simp, by simp⟩ (Wk.i (by repeat' (first | exact True.intro | exact id | exact rfl | decide | exact Nat.le_of_ble_eq_true rfl | exact LeB.arrE (by simp only [hn, Int.toNat_natCast]) (by exact zeros8_free _) id id | exact .int_of (by simp) | exact .osl_of rfl (by omega) (by simp) | exact .ptr rfl (by omega) | exact .osl_of rfl (by omega) rfl | exact .fr rfl | exact LeL.fr rfl | exact .yld rfl (by omega) | exact .eptr rfl (by omega) | exact .osl0 | exact .snil_sl | exact .to_any | exact LeB.fr rfl id id | exact LeB.fr (by simp; done) id id | refine Or.inl ⟨by simp, _, rfl, ?_⟩ | exact Or.inr ⟨by simp, _, _, _, _, rfl⟩ | refine ⟨rfl, rfl, rfl, rfl, rfl, rfl, ?_⟩ | refine ⟨?_, ?_⟩)) (by omega)) (fun k => ?_)
    obtain ⟨i, rows, hi, hfr, hln, heq⟩ := k
    have hfi := hf i
    (conv => whnf)
    split
    · rename_i hc
      have hc : i < ls.length := by simpa using hc
      have hn' : (ls.take (i + 1)).flatten.length = (ls.take i).flatten.length + ls[i].length := by rw [flat_succ hc, List.length_append]
      have hf1 := hf (i + 1)
      (conv => whnf)
      refine ⟨rfl, _, ⟨by first | omega | (simp only; omega), idxC hc⟩, ?_⟩
      (conv => whnf)
      refine ⟨⟨rfl, rfl, rfl, rfl, by decide⟩, hln, ⟨by simp only [List.length_map]; show _ * 1 ≤ _; omega, by simp only [List.length_map]; omega⟩, ?_⟩
      (conv => whnf)
      exact ⟨⟨i + 1, rowsB (ls.take (i + 1)).flatten, by omega, rowsB_free _, Nat.le_of_eq (List.length_map _).symm, List.take_of_length_le (Nat.le_of_eq (List.length_map _))⟩, (Wk.all (renOf [(0, 1)]) [] (by repeat' (first | exact True.intro | exact id | exact rfl | decide | exact Nat.le_of_ble_eq_true rfl | exact .int_of (wrap64_succ hc (by unfold maxLen; omega)) | exact .osl_of rfl (by omega) (by simp only [List.length_map]; exact hn'.symm) | exact LeB.arrE (show List.take (ls.take i).flatten.length rows ++ rowsB ls[i] = rowsB (ls.take (i + 1)).flatten by rw [heq, flat_succ hc]; simp only [rowsB, List.map_append]) (show ∀ x ∈ List.take (ls.take i).flatten.length rows ++ rowsB ls[i], ∀ v ∈ x, Free v by rw [heq, ← List.map_append]; exact rowsB_free _) id id | exact .ptr rfl (by omega) | exact .osl_of rfl (by omega) rfl | exact .fr rfl | exact LeL.fr rfl | exact .yld rfl (by omega) | exact .eptr rfl (by omega) | exact .osl0 | exact .snil_sl | exact .to_any | exact LeB.fr rfl id id | exact LeB.fr (by simp; done) id id | refine Or.inl ⟨by simp, _, rfl, ?_⟩ | exact Or.inr ⟨by simp, _, _, _, _, rfl⟩ | refine ⟨rfl, rfl, rfl, rfl, rfl, rfl, ?_⟩ | refine ⟨?_, ?_⟩)) (show ∀ b ∈ ([0] : List Nat), ∀ b' ∈ ([0] : List Nat), (renOf [(0, 1)]) b = (renOf [(0, 1)]) b' → b = b' by decide) (fun _ h => by omega) (by omega) (by simp)), by simp only; omega⟩
    · rename_i hc
      have hc : i = ls.length := by simp at hc; omega
      subst hc
      rw [List.take_length] at heq hln
      (conv => whnf)
      exact Ends.pure [0] (LeV.freezeE (ys := rowsB ls.flatten) (by simp) rfl (show 0 + (ls.take ls.length).flatten.length ≤ rows.length by rw [List.take_length, Nat.zero_add]; exact hln) (show ((rows.drop 0).take (ls.take ls.length).flatten.length) = _ by rw [List.drop_zero, List.take_length]; exact heq) (rowsB_free _)) (one_none rfl)
  · rename_i hg
    have h0 : ls.flatten.length = 0 := by have hg := of_decide_eq_false hg; rw [hn] at hg; omega
    (conv => whnf)
    refine ⟨_, _, _, Ends.here, ?_⟩
    (conv => whnf)
    intro _
    (conv => whnf)
    refine vcg_loop tab_ok mixed (fun k : Cat ls => ⟨[(6, .osl 0 1 0 (ls.take k.i).flatten.length), (25, catV false ls), (26, cI ls.length), (27, cI k.i)], [(0, some (.arr true false 5 1 k.rows))], 1⟩) (fun k => ls.length - k.i) ⟨0, [], by omega, by simp, by simp, by simp⟩ (Wk.i (by repeat' (first | exact True.intro | exact id | exact rfl | decide | exact Nat.le_of_ble_eq_true rfl | exact LeB.fr rfl id id | exact .int_of (by simp) | exact .osl_of rfl (by omega) (by simp) | exact .ptr rfl (by omega) | exact .osl_of rfl (by omega) rfl | exact .fr rfl | exact LeL.fr rfl | exact .yld rfl (by omega) | exact .eptr rfl (by omega) | exact .osl0 | exact .snil_sl | exact .to_any | exact LeB.fr rfl id id | exact LeB.fr (by simp; done) id id | refine Or.inl ⟨by simp, _, rfl, ?_⟩ | exact Or.inr ⟨by simp, _, _, _, _, rfl⟩ | refine ⟨rfl, rfl, rfl, rfl, rfl, rfl, ?_⟩ | refine ⟨?_, ?_⟩)) (by omega)) (fun k => ?_)
    obtain ⟨i, rows, hi, hfr, hln, heq⟩ := k
    have hfi := hf i
    (conv => whnf)
    split
    · rename_i hc
      have hc : i < ls.length := by simpa using hc
      have hn' : (ls.take (i + 1)).flatten.length = (ls.take i).flatten.length + ls[i].length := by rw [flat_succ hc, List.length_append]
      have hf1 := hf (i + 1)
      (conv => whnf)
      refine ⟨rfl, _, ⟨by first | omega | (simp only; omega), idxC hc⟩, ?_⟩
      (conv => whnf)
      refine ⟨⟨rfl, rfl, rfl, rfl, by decide⟩, hln, ⟨by simp only [List.length_map]; show _ * 1 ≤ _; omega, by simp only [List.length_map]; omega⟩, ?_⟩
      (conv => whnf)
      exact ⟨⟨i + 1, rowsB (ls.take (i + 1)).flatten, by omega, rowsB_free _, Nat.le_of_eq (List.length_map _).symm, List.take_of_length_le (Nat.le_of_eq (List.length_map _))⟩, (Wk.all (renOf [(0, 1)]) [] (by repeat' (first | exact True.intro | exact id | exact rfl | decide | exact Nat.le_of_ble_eq_true rfl | exact .int_of (wrap64_succ hc (by unfold maxLen; omega)) | exact .osl_of rfl (by omega) (by simp only [List.length_map]; exact hn'.symm) | exact LeB.arrE (show List.take (ls.take i).flatten.length rows ++ rowsB ls[i] = rowsB (ls.take (i + 1)).flatten by rw [heq, flat_succ hc]; simp only [rowsB, List.map_append]) (show ∀ x ∈ List.take (ls.take i).flatten.length rows ++ rowsB ls[i], ∀ v ∈ x, Free v by rw [heq, ← List.map_append]; exact rowsB_free _) id id | exact .ptr rfl (by omega) | exact .osl_of rfl (by omega) rfl | exact .fr rfl | exact LeL.fr rfl | exact .yld rfl (by omega) | exact .eptr rfl (by omega) | exact .osl0 | exact .snil_sl | exact .to_any | exact LeB.fr rfl id id | exact LeB.fr (by simp; done) id id | refine Or.inl ⟨by simp, _, rfl, ?_⟩ | exact Or.inr ⟨by simp, _, _, _, _, rfl⟩ | refine ⟨rfl, rfl, rfl, rfl, rfl, rfl, ?_⟩ | refine ⟨?_, ?_⟩)) (show ∀ b ∈ ([0] : List Nat), ∀ b' ∈ ([0] : List Nat), (renOf [(0, 1)]) b = (renOf [(0, 1)]) b' → b = b' by decide) (fun _ h => by omega) (by omega) (by simp)), by simp only; omega⟩
    · rename_i hc
      have hc : i = ls.length := by simp at hc; omega
      subst hc
      rw [List.take_length] at heq hln
      (conv => whnf)
      exact Ends.pure [0] (LeV.freezeE (ys := rowsB ls.flatten) (by simp) rfl (show 0 + (ls.take ls.length).flatten.length ≤ rows.length by rw [List.take_length, Nat.zero_add]; exact hln) (show ((rows.drop 0).take (ls.take ls.length).flatten.length) = _ by rw [List.drop_zero, List.take_length]; exact heq) (rowsB_free _)) (one_none rfl)
end Go.Proofs.YtehhligadnlijaaGreatDoor
set_option linter.unusedVariables false
set_option linter.unusedSimpArgs false
namespace Go.Proofs.YtehhligadnlijaaGreatDoor
open Go.RowKit
open Go.Proofs.Tryz (prog)
attribute [local irreducible] CallV RoundV aggK
def gB (u : Upd) : List UInt8 := prefsB u.gone
def aA (a : Attrs) : List UInt8 := if rightA a then rawP a 6 else []
theorem rawA_ok (fr : Bool) (a : Attrs) (hf : fewA a = true) : PCon prog 91 [encA fr a] (.tup [encB true (aA a), .int .i64 (checkA a)]) := raw_ok fr a hf
def aB (u : Upd) : List UInt8 := aA u.attrs
def partsU (u : Upd) : List (List UInt8) := [twoB (gB u).length, gB u, twoB (aB u).length, aB u, prefsB u.new]
def bodyB (u : Upd) : List UInt8 := (partsU u).flatten
def okPs (l : List Prefix) : Prop := ∀ p ∈ l, prefOk p = true
structure Small (u : Upd) : Prop where
  gone : u.gone.length ≤ 1000
  new : u.new.length ≤ 1000
  few : fewA u.attrs = true
theorem aB_len {u : Upd} (h : fewA u.attrs = true) : (aB u).length ≤ 20000 := by
  unfold aB aA
  split
  · have := rawA_len h
    rw [rawP_eq]; exact this
  · simp
theorem gB_len {u : Upd} (h : u.gone.length ≤ 1000) : (gB u).length ≤ 5000 := by
  have := prefsB_len u.gone
  unfold gB; omega
theorem bodyB_len {u : Upd} (h : Small u) : (bodyB u).length ≤ 100000 := by
  have h1 := aB_len h.few
  have h2 := gB_len h.gone
  have h3 := prefsB_len u.new
  have h4 := h.new
  simp only [bodyB, partsU, List.flatten_cons, List.flatten_nil, List.length_append, List.append_nil, twoB, List.length_cons, List.length_nil]
  omega
theorem less_encB {fr : Bool} {l : List UInt8} : Less (encB fr l) (encB false l) := Less.sl (by simp) rfl (by
  intro j v v' h1 h2
  rw [h1] at h2; cases h2; exact .refl _)
theorem less_catV {ls : List (List UInt8)} : Less (.sl false 1 (ls.map fun l => [encB true l])) (catV false ls) := Less.sl id (by simp) (by
  intro j v v' h1 h2
  rw [flat1] at h1 h2
  simp only [List.getElem?_map, Option.map_eq_some_iff] at h1 h2
  obtain ⟨x, hx, rfl⟩ := h1
  obtain ⟨y, hy, rfl⟩ := h2
  rw [hx] at hy; cases hy
  exact less_encB)
theorem rowsT_free (ls : List (List UInt8)) : ∀ x ∈ (ls.map fun l => [encB true l]), ∀ v ∈ x, Free v := by
  intro x hx v hv
  obtain ⟨l, _, rfl⟩ := List.mem_map.1 hx
  simp at hv; subst hv; exact encB_free _ _
set_option maxRecDepth 100000 in
set_option maxHeartbeats 4000000 in
theorem uraw_ok (fr : Bool) (u : Upd) (hs : Small u) (hg : okPs u.gone) (hn : okPs u.new) : PCon prog 53 [encU fr u] (encB true (bodyB u)) := by
  have h1 := aB_len hs.few
  have h2 := gB_len hs.gone
  have h3 := bodyB_len hs
  have ca := concatB_ok (partsU u) (by simp [partsU]) (by rw [← bodyB]; omega)
  refine callV_of (fn := Go.Proofs.Tryz.f53) (body := _) tab_ok mixed rfl rfl (by decide) (by simp [Go.Proofs.Tryz.f53]) ?_
  (conv => whnf)
  refine callV_pure (ulaid_ok fr u.gone hs.gone hg) ⟨.fr rfl, trivial⟩ ?_
  (conv => whnf)
  refine callV_pure (rawA_ok fr u.attrs hs.few) ⟨.fr rfl, trivial⟩ ?_
  (conv => whnf)
  refine ⟨_, [], fun h nx _ => pureV_pure (uhighI_ok (gB u).length (by omega)) ⟨.int_of (by simp [gB]), .fr rfl, trivial⟩, by simp, ?_⟩
  (conv => whnf)
  refine ⟨_, [], fun h nx _ => pureV_pure (uhighI_ok (aB u).length (by omega)) ⟨.int_of (by simp [aB]), .fr rfl, trivial⟩, by simp, ?_⟩
  (conv => whnf)
  refine ⟨_, [], fun h nx _ => pureV_pure (ulaid_ok fr u.new hs.new hn) ⟨.fr rfl, trivial⟩, by simp, ?_⟩
  (conv => whnf)
  refine ⟨encB true (bodyB u), [(1, some (.arr true true 50 1 ((partsU u).map fun l => [encB true l])))], fun h nx hrd => ?_, ?_, ?_⟩
  · have hb := hrd 1 _ (List.mem_singleton.2 rfl)
    exact pureV_lend [1] ca ⟨LeV.less (LeV.fresh_off (LeV.freeze_of (ys := (partsU u).map fun l => [encB true l]) (by simp) hb (by simp [partsU]) (rowsT_free _) rfl)) less_catV, trivial⟩ (by intro v hv; obtain rfl := List.mem_singleton.1 hv; exact catV_cold _) (one_none hb) (encB_fresh _)
  · intro b ob hm
    obtain ⟨rfl, rfl⟩ : b = 1 ∧ ob = _ := by simpa using hm
    rfl
  (conv => whnf)
  refine ⟨by kernel_rfl, ?_⟩
  (conv => whnf)
  exact (Ends.pure [] (by first | exact .ptr rfl (by omega) | exact .osl_of rfl (by omega) rfl | exact .fr rfl | exact LeL.fr rfl | exact .yld rfl (by omega) | exact .eptr rfl (by omega) | exact .osl0 | exact .snil_sl | exact .to_any) (by simp))
end Go.Proofs.YtehhligadnlijaaGreatDoor
set_option linter.unusedVariables false
set_option linter.unusedSimpArgs false
namespace Go.Proofs.YtehhligadnlijaaGreatDoor
open Go.RowKit
open Go.Proofs.Tryz (prog)
attribute [local irreducible] CallV RoundV aggK
def saidU (u : Upd) : Bool := if u.new = [] then sameA u.attrs noA else rightA u.attrs
def mayU (u : Upd) : Bool := riseP u.gone && riseP u.new && apartP u.gone u.new && saidU u
def checkU (u : Upd) : Int := if mayU u then (if 493 < (bodyB u).length then 3 else 0) else 2
theorem okPs_rise {l : List Prefix} (h : riseP l = true) : okPs l := fun p hp => by
  obtain ⟨j, hj, rfl⟩ := List.getElem_of_mem hp
  exact (riseP_iff.1 h j hj).1
theorem mayU_out {u : Upd} (h : mayU u = true) : riseP u.gone = true ∧ riseP u.new = true ∧ apartP u.gone u.new = true ∧ saidU u = true := by
  simp only [mayU, Bool.and_eq_true] at h
  exact ⟨h.1.1.1, h.1.1.2, h.1.2, h.2⟩
theorem noA_right : rightA noA = false := by decide
theorem saidU_nil {u : Upd} (h0 : u.new = []) (h : saidU u = true) : rightA u.attrs = false := by
  simp only [saidU, if_pos h0, sameA, decide_eq_true_eq] at h
  rw [h]; exact noA_right
theorem saidU_some {u : Upd} (h0 : u.new ≠ []) (h : saidU u = true) : rightA u.attrs = true := by
  simpa only [saidU, if_neg h0] using h
set_option maxRecDepth 100000 in
set_option maxHeartbeats 4000000 in
theorem ucheck_ok (fr : Bool) (u : Upd) (hs : Small u) : PCon prog 31 [encU fr u] (.int .i64 (checkU u)) := by
  have c1 := urise_ok fr u.gone hs.gone
  have c2 := urise_ok fr u.new hs.new
  have c3 := uapart_ok fr fr u.gone u.new
  refine callV_of (fn := Go.Proofs.Tryz.f31) (body := _) tab_ok mixed rfl rfl (by decide) (by simp [Go.Proofs.Tryz.f31]) ?_
  (conv => whnf)
  refine callV_pure (same_ok fr true u.attrs noA) ⟨.fr rfl, .noA, trivial⟩ ?_
  by_cases hn : u.new = []
  · have hlen : u.new.length = 0 := by rw [hn]; rfl
    cases hsame : sameA u.attrs noA with
    | false =>
      have hsd : saidU u = false := by simp [saidU, hn, hsame]
      (conv => whnf)
      refine fun (_ : gd none _) => ?_
      (conv => whnf)
      split
      · rename_i hc; exfalso; simp [hn] at hc
      (conv => whnf)
      refine callV_pure c1 ⟨.fr rfl, trivial⟩ ?_
      cases h1 : riseP u.gone with
      | false =>
        (conv => whnf)
        exact (Ends.pure [] (by first | exact .int_of (by simp [checkU, mayU, h1]) | exact .ptr rfl (by omega) | exact .osl_of rfl (by omega) rfl | exact .fr rfl | exact LeL.fr rfl | exact .yld rfl (by omega) | exact .eptr rfl (by omega) | exact .osl0 | exact .snil_sl | exact .to_any | (refine .tupL ?_; repeat' (first | exact True.intro | exact .int_of (by simp [checkU, mayU, h1]) | exact .ptr rfl (by omega) | exact .osl_of rfl (by omega) rfl | exact .fr rfl | exact LeL.fr rfl | exact .yld rfl (by omega) | exact .eptr rfl (by omega) | exact .osl0 | exact .snil_sl | exact .to_any | refine .aggL ?_ | refine ⟨?_, ?_⟩)) | (refine .aggL ?_; repeat' (first | exact True.intro | exact .int_of (by simp [checkU, mayU, h1]) | exact .ptr rfl (by omega) | exact .osl_of rfl (by omega) rfl | exact .fr rfl | exact LeL.fr rfl | exact .yld rfl (by omega) | exact .eptr rfl (by omega) | exact .osl0 | exact .snil_sl | exact .to_any | refine ⟨?_, ?_⟩))) (by simp))
      | true =>
        (conv => whnf)
        refine callV_pure c2 ⟨.fr rfl, trivial⟩ ?_
        cases h2 : riseP u.new with
        | false =>
          (conv => whnf)
          exact (Ends.pure [] (by first | exact .int_of (by simp [checkU, mayU, h2]) | exact .ptr rfl (by omega) | exact .osl_of rfl (by omega) rfl | exact .fr rfl | exact LeL.fr rfl | exact .yld rfl (by omega) | exact .eptr rfl (by omega) | exact .osl0 | exact .snil_sl | exact .to_any | (refine .tupL ?_; repeat' (first | exact True.intro | exact .int_of (by simp [checkU, mayU, h2]) | exact .ptr rfl (by omega) | exact .osl_of rfl (by omega) rfl | exact .fr rfl | exact LeL.fr rfl | exact .yld rfl (by omega) | exact .eptr rfl (by omega) | exact .osl0 | exact .snil_sl | exact .to_any | refine .aggL ?_ | refine ⟨?_, ?_⟩)) | (refine .aggL ?_; repeat' (first | exact True.intro | exact .int_of (by simp [checkU, mayU, h2]) | exact .ptr rfl (by omega) | exact .osl_of rfl (by omega) rfl | exact .fr rfl | exact LeL.fr rfl | exact .yld rfl (by omega) | exact .eptr rfl (by omega) | exact .osl0 | exact .snil_sl | exact .to_any | refine ⟨?_, ?_⟩))) (by simp))
        | true =>
          (conv => whnf)
          refine callV_pure c3 ⟨.fr rfl, .fr rfl, trivial⟩ ?_
          cases h3 : apartP u.gone u.new with
          | false =>
            (conv => whnf)
            exact (Ends.pure [] (by first | exact .int_of (by simp [checkU, mayU, h3]) | exact .ptr rfl (by omega) | exact .osl_of rfl (by omega) rfl | exact .fr rfl | exact LeL.fr rfl | exact .yld rfl (by omega) | exact .eptr rfl (by omega) | exact .osl0 | exact .snil_sl | exact .to_any | (refine .tupL ?_; repeat' (first | exact True.intro | exact .int_of (by simp [checkU, mayU, h3]) | exact .ptr rfl (by omega) | exact .osl_of rfl (by omega) rfl | exact .fr rfl | exact LeL.fr rfl | exact .yld rfl (by omega) | exact .eptr rfl (by omega) | exact .osl0 | exact .snil_sl | exact .to_any | refine .aggL ?_ | refine ⟨?_, ?_⟩)) | (refine .aggL ?_; repeat' (first | exact True.intro | exact .int_of (by simp [checkU, mayU, h3]) | exact .ptr rfl (by omega) | exact .osl_of rfl (by omega) rfl | exact .fr rfl | exact LeL.fr rfl | exact .yld rfl (by omega) | exact .eptr rfl (by omega) | exact .osl0 | exact .snil_sl | exact .to_any | refine ⟨?_, ?_⟩))) (by simp))
          | true =>
            (conv => whnf)
            exact (Ends.pure [] (by first | exact .int_of (by simp [checkU, mayU, hsd]) | exact .ptr rfl (by omega) | exact .osl_of rfl (by omega) rfl | exact .fr rfl | exact LeL.fr rfl | exact .yld rfl (by omega) | exact .eptr rfl (by omega) | exact .osl0 | exact .snil_sl | exact .to_any | (refine .tupL ?_; repeat' (first | exact True.intro | exact .int_of (by simp [checkU, mayU, hsd]) | exact .ptr rfl (by omega) | exact .osl_of rfl (by omega) rfl | exact .fr rfl | exact LeL.fr rfl | exact .yld rfl (by omega) | exact .eptr rfl (by omega) | exact .osl0 | exact .snil_sl | exact .to_any | refine .aggL ?_ | refine ⟨?_, ?_⟩)) | (refine .aggL ?_; repeat' (first | exact True.intro | exact .int_of (by simp [checkU, mayU, hsd]) | exact .ptr rfl (by omega) | exact .osl_of rfl (by omega) rfl | exact .fr rfl | exact LeL.fr rfl | exact .yld rfl (by omega) | exact .eptr rfl (by omega) | exact .osl0 | exact .snil_sl | exact .to_any | refine ⟨?_, ?_⟩))) (by simp))
    | true =>
      have hsd : saidU u = true := by simp [saidU, hn, hsame]
      (conv => whnf)
      refine fun (_ : gd none _) => ?_
      (conv => whnf)
      split
      · rename_i hc; exfalso; simp [hn] at hc
      (conv => whnf)
      refine callV_pure c1 ⟨.fr rfl, trivial⟩ ?_
      cases h1 : riseP u.gone with
      | false =>
        (conv => whnf)
        exact (Ends.pure [] (by first | exact .int_of (by simp [checkU, mayU, h1]) | exact .ptr rfl (by omega) | exact .osl_of rfl (by omega) rfl | exact .fr rfl | exact LeL.fr rfl | exact .yld rfl (by omega) | exact .eptr rfl (by omega) | exact .osl0 | exact .snil_sl | exact .to_any | (refine .tupL ?_; repeat' (first | exact True.intro | exact .int_of (by simp [checkU, mayU, h1]) | exact .ptr rfl (by omega) | exact .osl_of rfl (by omega) rfl | exact .fr rfl | exact LeL.fr rfl | exact .yld rfl (by omega) | exact .eptr rfl (by omega) | exact .osl0 | exact .snil_sl | exact .to_any | refine .aggL ?_ | refine ⟨?_, ?_⟩)) | (refine .aggL ?_; repeat' (first | exact True.intro | exact .int_of (by simp [checkU, mayU, h1]) | exact .ptr rfl (by omega) | exact .osl_of rfl (by omega) rfl | exact .fr rfl | exact LeL.fr rfl | exact .yld rfl (by omega) | exact .eptr rfl (by omega) | exact .osl0 | exact .snil_sl | exact .to_any | refine ⟨?_, ?_⟩))) (by simp))
      | true =>
        (conv => whnf)
        refine callV_pure c2 ⟨.fr rfl, trivial⟩ ?_
        cases h2 : riseP u.new with
        | false =>
          (conv => whnf)
          exact (Ends.pure [] (by first | exact .int_of (by simp [checkU, mayU, h2]) | exact .ptr rfl (by omega) | exact .osl_of rfl (by omega) rfl | exact .fr rfl | exact LeL.fr rfl | exact .yld rfl (by omega) | exact .eptr rfl (by omega) | exact .osl0 | exact .snil_sl | exact .to_any | (refine .tupL ?_; repeat' (first | exact True.intro | exact .int_of (by simp [checkU, mayU, h2]) | exact .ptr rfl (by omega) | exact .osl_of rfl (by omega) rfl | exact .fr rfl | exact LeL.fr rfl | exact .yld rfl (by omega) | exact .eptr rfl (by omega) | exact .osl0 | exact .snil_sl | exact .to_any | refine .aggL ?_ | refine ⟨?_, ?_⟩)) | (refine .aggL ?_; repeat' (first | exact True.intro | exact .int_of (by simp [checkU, mayU, h2]) | exact .ptr rfl (by omega) | exact .osl_of rfl (by omega) rfl | exact .fr rfl | exact LeL.fr rfl | exact .yld rfl (by omega) | exact .eptr rfl (by omega) | exact .osl0 | exact .snil_sl | exact .to_any | refine ⟨?_, ?_⟩))) (by simp))
        | true =>
          (conv => whnf)
          refine callV_pure c3 ⟨.fr rfl, .fr rfl, trivial⟩ ?_
          cases h3 : apartP u.gone u.new with
          | false =>
            (conv => whnf)
            exact (Ends.pure [] (by first | exact .int_of (by simp [checkU, mayU, h3]) | exact .ptr rfl (by omega) | exact .osl_of rfl (by omega) rfl | exact .fr rfl | exact LeL.fr rfl | exact .yld rfl (by omega) | exact .eptr rfl (by omega) | exact .osl0 | exact .snil_sl | exact .to_any | (refine .tupL ?_; repeat' (first | exact True.intro | exact .int_of (by simp [checkU, mayU, h3]) | exact .ptr rfl (by omega) | exact .osl_of rfl (by omega) rfl | exact .fr rfl | exact LeL.fr rfl | exact .yld rfl (by omega) | exact .eptr rfl (by omega) | exact .osl0 | exact .snil_sl | exact .to_any | refine .aggL ?_ | refine ⟨?_, ?_⟩)) | (refine .aggL ?_; repeat' (first | exact True.intro | exact .int_of (by simp [checkU, mayU, h3]) | exact .ptr rfl (by omega) | exact .osl_of rfl (by omega) rfl | exact .fr rfl | exact LeL.fr rfl | exact .yld rfl (by omega) | exact .eptr rfl (by omega) | exact .osl0 | exact .snil_sl | exact .to_any | refine ⟨?_, ?_⟩))) (by simp))
          | true =>
            (conv => whnf)
            refine callV_pure (uraw_ok fr u hs (okPs_rise h1) (okPs_rise h2)) ⟨.fr rfl, trivial⟩ ?_
            (conv => whnf)
            refine fun (_ : gd none _) => ?_
            (conv => whnf)
            split
            · rename_i hb
              have hb : 493 < (bodyB u).length := by have := of_decide_eq_true hb; simp only [List.length_map] at this; omega
              (conv => whnf)
              exact (Ends.pure [] (by first | exact .int_of (by simp [checkU, mayU, hsd, h1, h2, h3, hb]) | exact .ptr rfl (by omega) | exact .osl_of rfl (by omega) rfl | exact .fr rfl | exact LeL.fr rfl | exact .yld rfl (by omega) | exact .eptr rfl (by omega) | exact .osl0 | exact .snil_sl | exact .to_any | (refine .tupL ?_; repeat' (first | exact True.intro | exact .int_of (by simp [checkU, mayU, hsd, h1, h2, h3, hb]) | exact .ptr rfl (by omega) | exact .osl_of rfl (by omega) rfl | exact .fr rfl | exact LeL.fr rfl | exact .yld rfl (by omega) | exact .eptr rfl (by omega) | exact .osl0 | exact .snil_sl | exact .to_any | refine .aggL ?_ | refine ⟨?_, ?_⟩)) | (refine .aggL ?_; repeat' (first | exact True.intro | exact .int_of (by simp [checkU, mayU, hsd, h1, h2, h3, hb]) | exact .ptr rfl (by omega) | exact .osl_of rfl (by omega) rfl | exact .fr rfl | exact LeL.fr rfl | exact .yld rfl (by omega) | exact .eptr rfl (by omega) | exact .osl0 | exact .snil_sl | exact .to_any | refine ⟨?_, ?_⟩))) (by simp))
            · rename_i hb
              have hb : ¬ 493 < (bodyB u).length := by have := of_decide_eq_false hb; simp only [List.length_map] at this; omega
              (conv => whnf)
              exact (Ends.pure [] (by first | exact .int_of (by simp [checkU, mayU, hsd, h1, h2, h3, hb]) | exact .ptr rfl (by omega) | exact .osl_of rfl (by omega) rfl | exact .fr rfl | exact LeL.fr rfl | exact .yld rfl (by omega) | exact .eptr rfl (by omega) | exact .osl0 | exact .snil_sl | exact .to_any | (refine .tupL ?_; repeat' (first | exact True.intro | exact .int_of (by simp [checkU, mayU, hsd, h1, h2, h3, hb]) | exact .ptr rfl (by omega) | exact .osl_of rfl (by omega) rfl | exact .fr rfl | exact LeL.fr rfl | exact .yld rfl (by omega) | exact .eptr rfl (by omega) | exact .osl0 | exact .snil_sl | exact .to_any | refine .aggL ?_ | refine ⟨?_, ?_⟩)) | (refine .aggL ?_; repeat' (first | exact True.intro | exact .int_of (by simp [checkU, mayU, hsd, h1, h2, h3, hb]) | exact .ptr rfl (by omega) | exact .osl_of rfl (by omega) rfl | exact .fr rfl | exact LeL.fr rfl | exact .yld rfl (by omega) | exact .eptr rfl (by omega) | exact .osl0 | exact .snil_sl | exact .to_any | refine ⟨?_, ?_⟩))) (by simp))
  · have hlen : 0 < u.new.length := List.length_pos_iff.2 hn
    (conv => whnf)
    refine fun (_ : gd none _) => ?_
    (conv => whnf)
    split
    rotate_left
    · rename_i hc; exfalso; simp at hc; exact hn hc
    (conv => whnf)
    refine callV_pure (check_ok fr u.attrs) ⟨.fr rfl, trivial⟩ ?_
    cases hright : rightA u.attrs with
    | false =>
      have hsd : saidU u = false := by simp [saidU, hn, hright]
      rw [checkA_no hright]
      (conv => whnf)
      refine callV_pure c1 ⟨.fr rfl, trivial⟩ ?_
      cases h1 : riseP u.gone with
      | false =>
        (conv => whnf)
        exact (Ends.pure [] (by first | exact .int_of (by simp [checkU, mayU, h1]) | exact .ptr rfl (by omega) | exact .osl_of rfl (by omega) rfl | exact .fr rfl | exact LeL.fr rfl | exact .yld rfl (by omega) | exact .eptr rfl (by omega) | exact .osl0 | exact .snil_sl | exact .to_any | (refine .tupL ?_; repeat' (first | exact True.intro | exact .int_of (by simp [checkU, mayU, h1]) | exact .ptr rfl (by omega) | exact .osl_of rfl (by omega) rfl | exact .fr rfl | exact LeL.fr rfl | exact .yld rfl (by omega) | exact .eptr rfl (by omega) | exact .osl0 | exact .snil_sl | exact .to_any | refine .aggL ?_ | refine ⟨?_, ?_⟩)) | (refine .aggL ?_; repeat' (first | exact True.intro | exact .int_of (by simp [checkU, mayU, h1]) | exact .ptr rfl (by omega) | exact .osl_of rfl (by omega) rfl | exact .fr rfl | exact LeL.fr rfl | exact .yld rfl (by omega) | exact .eptr rfl (by omega) | exact .osl0 | exact .snil_sl | exact .to_any | refine ⟨?_, ?_⟩))) (by simp))
      | true =>
        (conv => whnf)
        refine callV_pure c2 ⟨.fr rfl, trivial⟩ ?_
        cases h2 : riseP u.new with
        | false =>
          (conv => whnf)
          exact (Ends.pure [] (by first | exact .int_of (by simp [checkU, mayU, h2]) | exact .ptr rfl (by omega) | exact .osl_of rfl (by omega) rfl | exact .fr rfl | exact LeL.fr rfl | exact .yld rfl (by omega) | exact .eptr rfl (by omega) | exact .osl0 | exact .snil_sl | exact .to_any | (refine .tupL ?_; repeat' (first | exact True.intro | exact .int_of (by simp [checkU, mayU, h2]) | exact .ptr rfl (by omega) | exact .osl_of rfl (by omega) rfl | exact .fr rfl | exact LeL.fr rfl | exact .yld rfl (by omega) | exact .eptr rfl (by omega) | exact .osl0 | exact .snil_sl | exact .to_any | refine .aggL ?_ | refine ⟨?_, ?_⟩)) | (refine .aggL ?_; repeat' (first | exact True.intro | exact .int_of (by simp [checkU, mayU, h2]) | exact .ptr rfl (by omega) | exact .osl_of rfl (by omega) rfl | exact .fr rfl | exact LeL.fr rfl | exact .yld rfl (by omega) | exact .eptr rfl (by omega) | exact .osl0 | exact .snil_sl | exact .to_any | refine ⟨?_, ?_⟩))) (by simp))
        | true =>
          (conv => whnf)
          refine callV_pure c3 ⟨.fr rfl, .fr rfl, trivial⟩ ?_
          cases h3 : apartP u.gone u.new with
          | false =>
            (conv => whnf)
            exact (Ends.pure [] (by first | exact .int_of (by simp [checkU, mayU, h3]) | exact .ptr rfl (by omega) | exact .osl_of rfl (by omega) rfl | exact .fr rfl | exact LeL.fr rfl | exact .yld rfl (by omega) | exact .eptr rfl (by omega) | exact .osl0 | exact .snil_sl | exact .to_any | (refine .tupL ?_; repeat' (first | exact True.intro | exact .int_of (by simp [checkU, mayU, h3]) | exact .ptr rfl (by omega) | exact .osl_of rfl (by omega) rfl | exact .fr rfl | exact LeL.fr rfl | exact .yld rfl (by omega) | exact .eptr rfl (by omega) | exact .osl0 | exact .snil_sl | exact .to_any | refine .aggL ?_ | refine ⟨?_, ?_⟩)) | (refine .aggL ?_; repeat' (first | exact True.intro | exact .int_of (by simp [checkU, mayU, h3]) | exact .ptr rfl (by omega) | exact .osl_of rfl (by omega) rfl | exact .fr rfl | exact LeL.fr rfl | exact .yld rfl (by omega) | exact .eptr rfl (by omega) | exact .osl0 | exact .snil_sl | exact .to_any | refine ⟨?_, ?_⟩))) (by simp))
          | true =>
            (conv => whnf)
            exact (Ends.pure [] (by first | exact .int_of (by simp [checkU, mayU, hsd]) | exact .ptr rfl (by omega) | exact .osl_of rfl (by omega) rfl | exact .fr rfl | exact LeL.fr rfl | exact .yld rfl (by omega) | exact .eptr rfl (by omega) | exact .osl0 | exact .snil_sl | exact .to_any | (refine .tupL ?_; repeat' (first | exact True.intro | exact .int_of (by simp [checkU, mayU, hsd]) | exact .ptr rfl (by omega) | exact .osl_of rfl (by omega) rfl | exact .fr rfl | exact LeL.fr rfl | exact .yld rfl (by omega) | exact .eptr rfl (by omega) | exact .osl0 | exact .snil_sl | exact .to_any | refine .aggL ?_ | refine ⟨?_, ?_⟩)) | (refine .aggL ?_; repeat' (first | exact True.intro | exact .int_of (by simp [checkU, mayU, hsd]) | exact .ptr rfl (by omega) | exact .osl_of rfl (by omega) rfl | exact .fr rfl | exact LeL.fr rfl | exact .yld rfl (by omega) | exact .eptr rfl (by omega) | exact .osl0 | exact .snil_sl | exact .to_any | refine ⟨?_, ?_⟩))) (by simp))
    | true =>
      have hsd : saidU u = true := by simp [saidU, hn, hright]
      rw [checkA_yes hright]
      (conv => whnf)
      refine callV_pure c1 ⟨.fr rfl, trivial⟩ ?_
      cases h1 : riseP u.gone with
      | false =>
        (conv => whnf)
        exact (Ends.pure [] (by first | exact .int_of (by simp [checkU, mayU, h1]) | exact .ptr rfl (by omega) | exact .osl_of rfl (by omega) rfl | exact .fr rfl | exact LeL.fr rfl | exact .yld rfl (by omega) | exact .eptr rfl (by omega) | exact .osl0 | exact .snil_sl | exact .to_any | (refine .tupL ?_; repeat' (first | exact True.intro | exact .int_of (by simp [checkU, mayU, h1]) | exact .ptr rfl (by omega) | exact .osl_of rfl (by omega) rfl | exact .fr rfl | exact LeL.fr rfl | exact .yld rfl (by omega) | exact .eptr rfl (by omega) | exact .osl0 | exact .snil_sl | exact .to_any | refine .aggL ?_ | refine ⟨?_, ?_⟩)) | (refine .aggL ?_; repeat' (first | exact True.intro | exact .int_of (by simp [checkU, mayU, h1]) | exact .ptr rfl (by omega) | exact .osl_of rfl (by omega) rfl | exact .fr rfl | exact LeL.fr rfl | exact .yld rfl (by omega) | exact .eptr rfl (by omega) | exact .osl0 | exact .snil_sl | exact .to_any | refine ⟨?_, ?_⟩))) (by simp))
      | true =>
        (conv => whnf)
        refine callV_pure c2 ⟨.fr rfl, trivial⟩ ?_
        cases h2 : riseP u.new with
        | false =>
          (conv => whnf)
          exact (Ends.pure [] (by first | exact .int_of (by simp [checkU, mayU, h2]) | exact .ptr rfl (by omega) | exact .osl_of rfl (by omega) rfl | exact .fr rfl | exact LeL.fr rfl | exact .yld rfl (by omega) | exact .eptr rfl (by omega) | exact .osl0 | exact .snil_sl | exact .to_any | (refine .tupL ?_; repeat' (first | exact True.intro | exact .int_of (by simp [checkU, mayU, h2]) | exact .ptr rfl (by omega) | exact .osl_of rfl (by omega) rfl | exact .fr rfl | exact LeL.fr rfl | exact .yld rfl (by omega) | exact .eptr rfl (by omega) | exact .osl0 | exact .snil_sl | exact .to_any | refine .aggL ?_ | refine ⟨?_, ?_⟩)) | (refine .aggL ?_; repeat' (first | exact True.intro | exact .int_of (by simp [checkU, mayU, h2]) | exact .ptr rfl (by omega) | exact .osl_of rfl (by omega) rfl | exact .fr rfl | exact LeL.fr rfl | exact .yld rfl (by omega) | exact .eptr rfl (by omega) | exact .osl0 | exact .snil_sl | exact .to_any | refine ⟨?_, ?_⟩))) (by simp))
        | true =>
          (conv => whnf)
          refine callV_pure c3 ⟨.fr rfl, .fr rfl, trivial⟩ ?_
          cases h3 : apartP u.gone u.new with
          | false =>
            (conv => whnf)
            exact (Ends.pure [] (by first | exact .int_of (by simp [checkU, mayU, h3]) | exact .ptr rfl (by omega) | exact .osl_of rfl (by omega) rfl | exact .fr rfl | exact LeL.fr rfl | exact .yld rfl (by omega) | exact .eptr rfl (by omega) | exact .osl0 | exact .snil_sl | exact .to_any | (refine .tupL ?_; repeat' (first | exact True.intro | exact .int_of (by simp [checkU, mayU, h3]) | exact .ptr rfl (by omega) | exact .osl_of rfl (by omega) rfl | exact .fr rfl | exact LeL.fr rfl | exact .yld rfl (by omega) | exact .eptr rfl (by omega) | exact .osl0 | exact .snil_sl | exact .to_any | refine .aggL ?_ | refine ⟨?_, ?_⟩)) | (refine .aggL ?_; repeat' (first | exact True.intro | exact .int_of (by simp [checkU, mayU, h3]) | exact .ptr rfl (by omega) | exact .osl_of rfl (by omega) rfl | exact .fr rfl | exact LeL.fr rfl | exact .yld rfl (by omega) | exact .eptr rfl (by omega) | exact .osl0 | exact .snil_sl | exact .to_any | refine ⟨?_, ?_⟩))) (by simp))
          | true =>
            (conv => whnf)
            refine callV_pure (uraw_ok fr u hs (okPs_rise h1) (okPs_rise h2)) ⟨.fr rfl, trivial⟩ ?_
            (conv => whnf)
            refine fun (_ : gd none _) => ?_
            (conv => whnf)
            split
            · rename_i hb
              have hb : 493 < (bodyB u).length := by have := of_decide_eq_true hb; simp only [List.length_map] at this; omega
              (conv => whnf)
              exact (Ends.pure [] (by first | exact .int_of (by simp [checkU, mayU, hsd, h1, h2, h3, hb]) | exact .ptr rfl (by omega) | exact .osl_of rfl (by omega) rfl | exact .fr rfl | exact LeL.fr rfl | exact .yld rfl (by omega) | exact .eptr rfl (by omega) | exact .osl0 | exact .snil_sl | exact .to_any | (refine .tupL ?_; repeat' (first | exact True.intro | exact .int_of (by simp [checkU, mayU, hsd, h1, h2, h3, hb]) | exact .ptr rfl (by omega) | exact .osl_of rfl (by omega) rfl | exact .fr rfl | exact LeL.fr rfl | exact .yld rfl (by omega) | exact .eptr rfl (by omega) | exact .osl0 | exact .snil_sl | exact .to_any | refine .aggL ?_ | refine ⟨?_, ?_⟩)) | (refine .aggL ?_; repeat' (first | exact True.intro | exact .int_of (by simp [checkU, mayU, hsd, h1, h2, h3, hb]) | exact .ptr rfl (by omega) | exact .osl_of rfl (by omega) rfl | exact .fr rfl | exact LeL.fr rfl | exact .yld rfl (by omega) | exact .eptr rfl (by omega) | exact .osl0 | exact .snil_sl | exact .to_any | refine ⟨?_, ?_⟩))) (by simp))
            · rename_i hb
              have hb : ¬ 493 < (bodyB u).length := by have := of_decide_eq_false hb; simp only [List.length_map] at this; omega
              (conv => whnf)
              exact (Ends.pure [] (by first | exact .int_of (by simp [checkU, mayU, hsd, h1, h2, h3, hb]) | exact .ptr rfl (by omega) | exact .osl_of rfl (by omega) rfl | exact .fr rfl | exact LeL.fr rfl | exact .yld rfl (by omega) | exact .eptr rfl (by omega) | exact .osl0 | exact .snil_sl | exact .to_any | (refine .tupL ?_; repeat' (first | exact True.intro | exact .int_of (by simp [checkU, mayU, hsd, h1, h2, h3, hb]) | exact .ptr rfl (by omega) | exact .osl_of rfl (by omega) rfl | exact .fr rfl | exact LeL.fr rfl | exact .yld rfl (by omega) | exact .eptr rfl (by omega) | exact .osl0 | exact .snil_sl | exact .to_any | refine .aggL ?_ | refine ⟨?_, ?_⟩)) | (refine .aggL ?_; repeat' (first | exact True.intro | exact .int_of (by simp [checkU, mayU, hsd, h1, h2, h3, hb]) | exact .ptr rfl (by omega) | exact .osl_of rfl (by omega) rfl | exact .fr rfl | exact LeL.fr rfl | exact .yld rfl (by omega) | exact .eptr rfl (by omega) | exact .osl0 | exact .snil_sl | exact .to_any | refine ⟨?_, ?_⟩))) (by simp))
def rawE20 (u : Upd) : V := .tup [encB true (if checkU u = 0 then bodyB u else []), .int .i64 (checkU u)]
set_option maxRecDepth 100000 in
set_option maxHeartbeats 4000000 in
theorem uRaw_ok (fr : Bool) (u : Upd) (hs : Small u) : PCon prog 29 [encU fr u] (rawE20 u) := by
  refine callV_of (fn := Go.Proofs.Tryz.f29) (body := _) tab_ok mixed rfl rfl (by decide) (by simp [Go.Proofs.Tryz.f29]) ?_
  (conv => whnf)
  refine callV_pure (ucheck_ok fr u hs) ⟨.fr rfl, trivial⟩ ?_
  (conv => whnf)
  split
  · rename_i h
    have h : checkU u ≠ 0 := by simpa using h
    (conv => whnf)
    rw [rawE20, if_neg h]
    exact Ends.pure [] (.tupL ⟨.snil_sl, .fr rfl, trivial⟩) (by simp)
  · rename_i h
    have h : checkU u = 0 := by simpa using h
    have hm : mayU u = true := by
      unfold checkU at h
      split at h
      · assumption
      · exact absurd h (by decide)
    obtain ⟨q1, q2, q3, q4⟩ := mayU_out hm
    (conv => whnf)
    refine callV_pure (uraw_ok fr u hs (okPs_rise q1) (okPs_rise q2)) ⟨.fr rfl, trivial⟩ ?_
    (conv => whnf)
    rw [rawE20, if_pos h, h]
    exact Ends.pure [] (.tupL ⟨.fr rfl, .fr rfl, trivial⟩) (by simp)
end Go.Proofs.YtehhligadnlijaaGreatDoor
set_option linter.unusedVariables false
set_option linter.unusedSimpArgs false
namespace Go.Proofs.YtehhligadnlijaaGreatDoor
open Go.RowKit
open Go.Proofs.Tryz (prog)
attribute [local irreducible] CallV RoundV aggK
def nbC (c : UInt8) : Nat := (c.toNat + 7) / 8
def addrH (v : List UInt8) : Nat → Nat
  | 0 => 0
  | k + 1 => addrH v k * 256 + (v.getD k 0).toNat
def badP : Prefix := ⟨0, 33⟩
def pfxH (c : UInt8) (v : List UInt8) : Prefix := ⟨UInt32.ofNat (addrH v 4), c⟩
def eachB (b : List UInt8) : List Prefix :=
  match b with
  | [] => []
  | c :: r => if 32 < c.toNat ∨ r.length < nbC c then [badP] else pfxH c (r.take (nbC c)) :: eachB (r.drop (nbC c))
termination_by b.length
decreasing_by simp; omega
theorem eachB_nil : eachB [] = [] := by rw [eachB]
theorem eachB_bad {c : UInt8} {r : List UInt8} (h : 32 < c.toNat ∨ r.length < nbC c) : eachB (c :: r) = [badP] := by rw [eachB, if_pos h]
theorem eachB_go {c : UInt8} {r : List UInt8} (h : ¬ (32 < c.toNat ∨ r.length < nbC c)) : eachB (c :: r) = pfxH c (r.take (nbC c)) :: eachB (r.drop (nbC c)) := by rw [eachB, if_neg h]
theorem eachB_len (b : List UInt8) : (eachB b).length ≤ b.length := by
  match b with
  | [] => rw [eachB_nil]; exact Nat.le_refl _
  | c :: r =>
    by_cases h : 32 < c.toNat ∨ r.length < nbC c
    · rw [eachB_bad h]; simp
    · rw [eachB_go h]
      have := eachB_len (r.drop (nbC c))
      simp at this ⊢
      omega
termination_by b.length
decreasing_by simp; omega
theorem addrH_lt (v : List UInt8) : ∀ k, addrH v k < 256 ^ k
  | 0 => by simp [addrH]
  | k + 1 => by
    have := addrH_lt v k
    have hc := (v.getD k 0).toNat_lt
    rw [addrH, Nat.pow_succ]
    omega
theorem addrH_zero (v : List UInt8) {n k : Nat} (h : v.length ≤ n) (hk : n ≤ k) : addrH v k = addrH v n * 256 ^ (k - n) := by
  induction k with
  | zero => obtain rfl : n = 0 := by omega
            simp
  | succ k ih =>
    rcases Nat.lt_or_ge k n with h1 | h1
    · obtain rfl : n = k + 1 := by omega
      simp
    · have h0 : v.getD k 0 = 0 := by rw [List.getD_eq_getElem?_getD, List.getElem?_eq_none (by omega)]; rfl
      rw [addrH, h0, ih h1, show k + 1 - n = (k - n) + 1 by omega, Nat.pow_succ]
      show _ + 0 = _
      rw [Nat.add_zero, Nat.mul_assoc]
theorem nbC_int (c : UInt8) : IntKind.i64.wrap (1 + IntKind.i64.wrap ((IntKind.i64.wrap (IntKind.i64.wrap (c.toNat : Int) + 7)).tdiv 8)) = ((1 + nbC c : Nat) : Int) := by
  have := c.toNat_lt
  rw [wrap64 (n := (c.toNat : Int)) (by omega) (by omega), wrap64 (n := (c.toNat : Int) + 7) (by omega) (by omega), Int.tdiv_eq_ediv_of_nonneg (by omega), wrap64 (n := _ / _) (by omega) (by omega), wrap64 (by omega) (by omega), nbC]
  omega
def accH (v : List UInt8) (k : Nat) : Int := ((addrH v k * 256 ^ (4 - k) : Nat) : Int)
theorem accH_zero (v : List UInt8) : accH v 0 = 0 := by simp [accH, addrH]
theorem accH_lt (v : List UInt8) {k : Nat} (hk : k ≤ 4) : 0 ≤ accH v k ∧ accH v k < 4294967296 := by
  have := addrH_lt v k
  have h2 : 256 ^ k * 256 ^ (4 - k) = 4294967296 := by rw [← Nat.pow_add, show k + (4 - k) = 4 by omega]
  have h3 : addrH v k * 256 ^ (4 - k) < 256 ^ k * 256 ^ (4 - k) := Nat.mul_lt_mul_of_pos_right this (Nat.pow_pos (by decide))
  unfold accH
  omega
theorem accH_end (v : List UInt8) {n : Nat} (h : v.length = n) (hn : n ≤ 4) : accH v n = ((UInt32.ofNat (addrH v 4)).toNat : Int) := by
  have h1 := addrH_zero v (Nat.le_of_eq h) hn
  have h2 := addrH_lt v 4
  unfold accH
  rw [← h1]
  simp
  omega
def shA (i : Nat) : Int := IntKind.i64.wrap (24 - IntKind.i64.wrap (8 * (i : Int)))
theorem shA_eq {i : Nat} (h : i < 4) : shA i = ((24 - 8 * i : Nat) : Int) := by
  unfold shA
  rw [wrap64 (n := 8 * (i : Int)) (by omega) (by omega), wrap64 (by omega) (by omega)]
  omega
theorem accH_step (v : List UInt8) {i : Nat} (hi : i < v.length) (h4 : v.length ≤ 4) :
    bits .or .u32 (accH v i) (IntKind.u32.wrap (IntKind.u32.wrap (v[i].toNat : Int) * 2 ^ (min (Int.toNat (shA i)) IntKind.u32.bits))) = accH v (i + 1) := by
  have hc := v[i].toNat_lt
  have h0 := accH_lt v (k := i) (by omega)
  have hg : v.getD i 0 = v[i] := by simp [List.getD_eq_getElem?_getD, hi]
  have hs : accH v (i + 1) = ((addrH v i * 256 + v[i].toNat : Nat) : Int) * ((256 ^ (3 - i) : Nat) : Int) := by
    unfold accH
    rw [addrH, hg, show 4 - (i + 1) = 3 - i by omega]
    exact Int.natCast_mul _ _
  have ha : accH v i = ((addrH v i : Nat) : Int) * ((256 ^ (4 - i) : Nat) : Int) := by
    unfold accH
    exact Int.natCast_mul _ _
  have hx := addrH_lt v i
  have e1 : IntKind.u32.wrap (v[i].toNat : Int) = v[i].toNat := by rw [wrap32]; omega
  rw [shA_eq (by omega), e1, Int.toNat_natCast, hs]
  rw [ha] at h0 ⊢
  have hb : IntKind.u32.bits = 32 := rfl
  rw [hb, show min (24 - 8 * i) 32 = 24 - 8 * i by omega]
  generalize addrH v i = A at *
  generalize v[i].toNat = C at *
  obtain rfl | rfl | rfl | rfl : i = 0 ∨ i = 1 ∨ i = 2 ∨ i = 3 := by omega
  all_goals
    simp only [Nat.reducePow, Nat.reduceSub, Nat.reduceMul, Int.reducePow, Int.cast_ofNat_Int] at h0 hx ⊢
    rw [wrap32]
    first
      | rw [bits_join .u32 32 (by decide) (fun n h0 h1 => by rw [wrap32]; omega) 32 _ _ (by omega) (by omega) (by omega) (by omega) (by omega) (by omega)]
      | rw [bits_join .u32 32 (by decide) (fun n h0 h1 => by rw [wrap32]; omega) 24 _ _ (by omega) (by omega) (by omega) (by omega) (by omega) (by omega)]
      | rw [bits_join .u32 32 (by decide) (fun n h0 h1 => by rw [wrap32]; omega) 16 _ _ (by omega) (by omega) (by omega) (by omega) (by omega) (by omega)]
      | rw [bits_join .u32 32 (by decide) (fun n h0 h1 => by rw [wrap32]; omega) 8 _ _ (by omega) (by omega) (by omega) (by omega) (by omega) (by omega)]
    omega
attribute [local irreducible] accH
def allOk (l : List Prefix) : Bool := !l.any (fun p => !prefOk p)
set_option maxRecDepth 100000 in
theorem notRight_ok (p : Prefix) : PCon prog 108 ([] ++ [encP p] ++ []) (.bool (!prefOk p)) := by
  show PCon prog 108 [encP p] _
  refine callV_of (fn := Go.Proofs.Tryz.f108) (body := _) tab_ok mixed rfl rfl (by decide) (by simp [Go.Proofs.Tryz.f108]) ?_
  (conv => whnf)
  refine callV_pure (uRight_ok p) ⟨.free (encP_free _), trivial⟩ ?_
  (conv => whnf)
  exact (Ends.pure [] (by first | exact .ptr rfl (by omega) | exact .osl_of rfl (by omega) rfl | exact .fr rfl | exact LeL.fr rfl | exact .yld rfl (by omega) | exact .eptr rfl (by omega) | exact .osl0 | exact .snil_sl | exact .to_any) (by simp))
structure Ea (b : List UInt8) where
  dn : List Prefix
  rest : List UInt8
  law : eachB b = dn ++ eachB rest
  cnt : dn.length + rest.length ≤ b.length
theorem cfun_cold (l : List Prefix) (g : FuncId) : ∀ v ∈ [encPs false l, .fn (.func g) [] []], Cold v := by
  intro v hv
  simp only [List.mem_cons, List.not_mem_nil, or_false] at hv
  rcases hv with rfl | rfl
  · exact encPs_cold _
  · exact .fn (by simp) (by simp)
set_option maxRecDepth 100000 in
set_option maxHeartbeats 4000000 in
theorem uprefixes_ok (fr : Bool) (b : List UInt8) (hb : b.length ≤ 20000) : PCon prog 65 [encB fr b] (.tup [encPs true (eachB b), .bool (allOk (eachB b))]) := by
  refine callV_of (fn := Go.Proofs.Tryz.f65) (body := _) tab_ok mixed rfl rfl (by decide) (by simp [Go.Proofs.Tryz.f65]) ?_
  (conv => whnf)
  refine callV_of (fn := Go.Proofs.Tryz.f107) (body := _) tab_ok mixed rfl rfl (by decide) (by simp [Go.Proofs.Tryz.f107]) ?_
  (conv => whnf)
  refine ⟨_, _, _, Ends.here, ?_⟩
  (conv => whnf)
  refine callV_of (fn := Go.Proofs.Tryz.f87) (body := _) tab_ok mixed rfl rfl (by decide) (by simp [Go.Proofs.Tryz.f87]) ?_
  (conv => whnf)
  refine callV_of (fn := Go.Proofs.Tryz.f126) (body := _) tab_ok mixed rfl rfl (by decide) (by simp [Go.Proofs.Tryz.f126]) ?_
  (conv => whnf)
  refine callV_loop [(2, .ptr 1 0)] ⟨rfl, trivial⟩ fun asg' body' hasg hbody => ?_
  refine callV_of (fn := Go.Proofs.Tryz.f140) (body := _) tab_ok mixed rfl rfl (by decide) (by simp [Go.Proofs.Tryz.f140]) ?_
  (conv => whnf)
  refine vcg_loop tab_ok mixed (fun k : Ea b => ⟨[(0, .yld 2), (1, .ptr 0 0)], [(2, some (.loop 13 [(2, .ptr 1 0)] [7] asg' body' .ready none)), (0, some (.var true 50 [encB fr k.rest])), (1, some (.var true 37 [.osl 3 2 0 k.dn.length])), (3, some (.arr true false 24 2 (rowsP k.dn)))], 4⟩) (fun k => k.rest.length) ⟨[], b, rfl, by simp⟩ (Wk.i (by repeat' (first | exact True.intro | exact id | exact rfl | decide | exact Nat.le_of_ble_eq_true rfl | exact .ptr rfl (by omega) | exact .osl_of rfl (by omega) rfl | exact .fr rfl | exact LeL.fr rfl | exact .yld rfl (by omega) | exact .eptr rfl (by omega) | exact .osl0 | exact .snil_sl | exact .to_any | exact LeB.fr rfl id id | exact LeB.fr (by simp; done) id id | refine Or.inl ⟨by simp, _, rfl, ?_⟩ | exact Or.inr ⟨by simp, _, _, _, _, rfl⟩ | refine ⟨rfl, rfl, rfl, rfl, rfl, rfl, ?_⟩ | refine ⟨?_, ?_⟩)) (by omega)) (fun k => ?_)
  obtain ⟨dn, rest, hlaw, hcnt⟩ := k
  (conv => whnf)
  intro _
  (conv => whnf)
  split
  · rename_i h0
    obtain ⟨c, r, rfl⟩ : ∃ c r, rest = c :: r := by
      cases rest with
      | nil => simp at h0
      | cons c r => exact ⟨c, r, rfl⟩
    have hN := nbC_int c
    (conv => whnf)
    refine ⟨rfl, _, ⟨by decide, rfl⟩, ?_⟩
    (conv => whnf)
    refine ⟨by decide, ?_⟩
    (conv => whnf)
    simp only [hN]
    refine ⟨trivial, _, ⟨by decide, rfl⟩, ?_⟩
    (conv => whnf)
    split
    · rename_i hc
      have hbad : eachB (c :: r) = [badP] := eachB_bad (.inl (by have := of_decide_eq_true hc; omega))
      (conv => whnf)
      refine roundV_eq tab_ok mixed hasg hbody rfl (by simp) (show 2 < 4 by omega) ?_
      (conv => whnf)
      refine ⟨rfl, ?_⟩
      (conv => whnf)
      refine ⟨rfl, by simp, ⟨rfl, rfl, rfl, rfl, by decide⟩, by simp [rowsP], ⟨by simp [tab, tabOf, nth]; omega, by simp; omega⟩, ?_⟩
      (conv => whnf)
      refine ⟨rfl, ?_⟩
      (conv => whnf)
      have hfin : eachB b = dn ++ [badP] := by rw [hlaw, hbad]
      refine ⟨_, _, _, Ends.here, ?_⟩
      (conv => whnf)
      refine ⟨_, _, _, Ends.here, ?_⟩
      (conv => whnf)
      refine ⟨_, _, _, Ends.here, ?_⟩
      (conv => whnf)
      have cf := containsFuncP_ok false (eachB b) 108 [] (fun p => !prefOk p) notRight_ok (by simp)
      refine callV_lend [6] cf ⟨LeV.fresh_off (LeV.freezeE (ys := rowsP (eachB b)) (by simp) rfl (by simp [rowsP]) (by rw [hfin]; simp [rowsP, cellsP, badP, List.take_of_length_le]) (rowsP_free _)), .fr rfl, trivial⟩ (cfun_cold _ _) (one_none rfl) .bool ?_
      (conv => whnf)
      exact Ends.pure [6] (.tupL ⟨LeV.freezeE (ys := rowsP (eachB b)) (by simp) rfl (by simp [rowsP]) (by rw [hfin]; simp [rowsP, cellsP, badP, List.take_of_length_le]) (rowsP_free _), .bool_of rfl, trivial⟩) (one_none rfl)
    rename_i hc
    have hc : ¬ 32 < c.toNat := by have := of_decide_eq_false hc; omega
    have h4 : nbC c ≤ 4 := by unfold nbC; omega
    (conv => whnf)
    refine fun (_ : gd none _) => ?_
    (conv => whnf)
    split
    · rename_i hl
      have hbad : eachB (c :: r) = [badP] := eachB_bad (.inr (by have := of_decide_eq_true hl; simp only [List.length_map, List.length_cons] at this; omega))
      (conv => whnf)
      refine roundV_eq tab_ok mixed hasg hbody rfl (by simp) (show 2 < 4 by omega) ?_
      (conv => whnf)
      refine ⟨rfl, ?_⟩
      (conv => whnf)
      refine ⟨rfl, by simp, ⟨rfl, rfl, rfl, rfl, by decide⟩, by simp [rowsP], ⟨by simp [tab, tabOf, nth]; omega, by simp; omega⟩, ?_⟩
      (conv => whnf)
      refine ⟨rfl, ?_⟩
      (conv => whnf)
      have hfin : eachB b = dn ++ [badP] := by rw [hlaw, hbad]
      refine ⟨_, _, _, Ends.here, ?_⟩
      (conv => whnf)
      refine ⟨_, _, _, Ends.here, ?_⟩
      (conv => whnf)
      refine ⟨_, _, _, Ends.here, ?_⟩
      (conv => whnf)
      have cf := containsFuncP_ok false (eachB b) 108 [] (fun p => !prefOk p) notRight_ok (by simp)
      refine callV_lend [6] cf ⟨LeV.fresh_off (LeV.freezeE (ys := rowsP (eachB b)) (by simp) rfl (by simp [rowsP]) (by rw [hfin]; simp [rowsP, cellsP, badP, List.take_of_length_le]) (rowsP_free _)), .fr rfl, trivial⟩ (cfun_cold _ _) (one_none rfl) .bool ?_
      (conv => whnf)
      exact Ends.pure [6] (.tupL ⟨LeV.freezeE (ys := rowsP (eachB b)) (by simp) rfl (by simp [rowsP]) (by rw [hfin]; simp [rowsP, cellsP, badP, List.take_of_length_le]) (rowsP_free _), .bool_of rfl, trivial⟩) (one_none rfl)
    rename_i hl
    have hl : nbC c ≤ r.length := by have := of_decide_eq_false hl; simp only [List.length_map, List.length_cons] at this; omega
    have hgo := eachB_go (c := c) (r := r) (by omega)
    (conv => whnf)
    refine ⟨rfl, _, ⟨by decide, rfl⟩, ?_⟩
    (conv => whnf)
    refine ⟨rfl, ⟨by decide, Int.natCast_nonneg _, by simp only [Int.toNat_natCast]; omega, by simp only [Int.toNat_natCast, List.length_map, List.length_cons]; omega⟩, ?_⟩
    have hv : V.sl fr 1 (List.drop (Int.toNat 1) (List.take (((1 + nbC c : Nat) : Int)).toNat (List.map (fun x : UInt8 => [V.int .u8 x.toNat]) (c :: r)))) = encB fr (r.take (nbC c)) := by
      simp only [Int.toNat_natCast, Nat.add_comm 1, List.map_cons, List.take_succ_cons, encB, List.map_take]
      rfl
    (conv => whnf)
    simp only [hv]
    refine fun (_ : gd none _) => ?_
    have hvl : (r.take (nbC c)).length = nbC c := by rw [List.length_take]; omega
    (conv => whnf)
    refine vcg_loop tab_ok mixed (fun i : {i : Nat // i ≤ nbC c} => ⟨[(0, .yld 2), (1, .ptr 0 0), (3, cI (1 + nbC c)), (4, .ptr 4 0), (36, encB fr (r.take (nbC c))), (37, cI (nbC c)), (38, cI i.1)], [(2, some (.loop 13 [(2, .ptr 1 0)] [7] asg' body' .ready none)), (0, some (.var true 50 [encB fr (c :: r)])), (1, some (.var true 37 [.osl 3 2 0 dn.length])), (3, some (.arr true false 24 2 (rowsP dn))), (4, some (.var true 24 [.int .u32 (accH (r.take (nbC c)) i.1), cB c]))], 5⟩) (fun i => nbC c - i.1) ⟨0, by omega⟩ (Wk.i (by repeat' (first | exact True.intro | exact id | exact rfl | decide | exact Nat.le_of_ble_eq_true rfl | exact .int_of (accH_zero _).symm | exact .int_of (by simp; omega) | exact .ptr rfl (by omega) | exact .osl_of rfl (by omega) rfl | exact .fr rfl | exact LeL.fr rfl | exact .yld rfl (by omega) | exact .eptr rfl (by omega) | exact .osl0 | exact .snil_sl | exact .to_any | exact LeB.fr rfl id id | exact LeB.fr (by simp; done) id id | refine Or.inl ⟨by simp, _, rfl, ?_⟩ | exact Or.inr ⟨by simp, _, _, _, _, rfl⟩ | refine ⟨rfl, rfl, rfl, rfl, rfl, rfl, ?_⟩ | refine ⟨?_, ?_⟩)) (by omega)) (fun i => ?_)
    obtain ⟨i, hi⟩ := i
    (conv => whnf)
    split
    · rename_i hci
      have hci : i < nbC c := by have := of_decide_eq_true hci; simp only at this; omega
      have hcv : i < (r.take (nbC c)).length := by omega
      (conv => whnf)
      refine ⟨rfl, _, ⟨by first | omega | (simp only; omega), idxB hcv⟩, ?_⟩
      (conv => whnf)
      refine ⟨by show 0 ≤ shA i; rw [shA_eq (by omega)]; omega, ?_⟩
      (conv => whnf)
      refine ⟨by kernel_rfl, ?_⟩
      (conv => whnf)
      exact ⟨⟨i + 1, by omega⟩, (Wk.i (by repeat' (first | exact True.intro | exact id | exact rfl | decide | exact Nat.le_of_ble_eq_true rfl | exact .int_of (accH_step _ hcv (by omega)) | exact .int_of (wrap64_succ hci (by unfold maxLen; omega)) | exact .ptr rfl (by omega) | exact .osl_of rfl (by omega) rfl | exact .fr rfl | exact LeL.fr rfl | exact .yld rfl (by omega) | exact .eptr rfl (by omega) | exact .osl0 | exact .snil_sl | exact .to_any | exact LeB.fr rfl id id | exact LeB.fr (by simp; done) id id | refine Or.inl ⟨by simp, _, rfl, ?_⟩ | exact Or.inr ⟨by simp, _, _, _, _, rfl⟩ | refine ⟨rfl, rfl, rfl, rfl, rfl, rfl, ?_⟩ | refine ⟨?_, ?_⟩)) (by omega)), by simp only; omega⟩
    rename_i hci
    have hci : i = nbC c := by have := of_decide_eq_false hci; simp only at this; omega
    subst hci
    have hA := accH_end _ hvl h4
    (conv => whnf)
    refine roundV_eq tab_ok mixed hasg hbody rfl (by simp) (show 2 < 5 by omega) ?_
    (conv => whnf)
    refine ⟨rfl, ?_⟩
    (conv => whnf)
    refine ⟨rfl, by simp, ⟨rfl, rfl, rfl, rfl, by decide⟩, by simp [rowsP], ⟨by simp [tab, tabOf, nth]; omega, by simp; omega⟩, ?_⟩
    (conv => whnf)
    refine ⟨rfl, ?_⟩
    (conv => whnf)
    refine ⟨rfl, ⟨Int.natCast_nonneg _, by simp only [Int.toNat_natCast, List.length_map, List.length_cons]; omega⟩, ?_⟩
    (conv => whnf)
    have hlaw' : eachB b = (dn ++ [pfxH c (r.take (nbC c))]) ++ eachB (r.drop (nbC c)) := by rw [hlaw, hgo]; simp
    exact ⟨⟨dn ++ [pfxH c (r.take (nbC c))], r.drop (nbC c), hlaw', by simp at hcnt ⊢; omega⟩, (Wk.all (renOf [(3, 7)]) [] (by repeat' (first | exact True.intro | exact id | exact rfl | decide | exact Nat.le_of_ble_eq_true rfl | exact .eq_of (by simp only [Int.toNat_natCast, Nat.add_comm 1, List.map_cons, List.drop_succ_cons, encB, List.map_drop]) (encB_free _ _) | exact .osl_of rfl (by omega) (by simp) | exact LeB.fr (by rw [hA]; simp [rowsP, cellsP, pfxH, List.take_of_length_le]) id id | exact .ptr rfl (by omega) | exact .osl_of rfl (by omega) rfl | exact .fr rfl | exact LeL.fr rfl | exact .yld rfl (by omega) | exact .eptr rfl (by omega) | exact .osl0 | exact .snil_sl | exact .to_any | exact LeB.fr rfl id id | exact LeB.fr (by simp; done) id id | refine Or.inl ⟨by simp, _, rfl, ?_⟩ | exact Or.inr ⟨by simp, _, _, _, _, rfl⟩ | refine ⟨rfl, rfl, rfl, rfl, rfl, rfl, ?_⟩ | refine ⟨?_, ?_⟩)) (show ∀ b ∈ ([2,0,1,3] : List Nat), ∀ b' ∈ ([2,0,1,3] : List Nat), (renOf [(3, 7)]) b = (renOf [(3, 7)]) b' → b = b' by decide) (show ∀ b, b < 3 → (renOf [(3, 7)]) b = b by decide) (by omega) (by simp)), by simp; omega⟩
  · rename_i h0
    have hfin : eachB b = dn := by
      rw [hlaw, show rest = [] by simpa using h0, eachB_nil, List.append_nil]
    (conv => whnf)
    refine ⟨_, _, _, Ends.here, ?_⟩
    (conv => whnf)
    refine ⟨_, _, _, Ends.here, ?_⟩
    (conv => whnf)
    refine ⟨_, _, _, Ends.here, ?_⟩
    (conv => whnf)
    have cf := containsFuncP_ok false (eachB b) 108 [] (fun p => !prefOk p) notRight_ok (by simp)
    refine callV_lend [3] cf ⟨LeV.fresh_off (LeV.freezeE (ys := rowsP (eachB b)) (by simp) rfl (by simp [rowsP]) (by rw [hfin]; simp [rowsP, cellsP, badP, List.take_of_length_le]) (rowsP_free _)), .fr rfl, trivial⟩ (cfun_cold _ _) (one_none rfl) .bool ?_
    (conv => whnf)
    exact Ends.pure [3] (.tupL ⟨LeV.freezeE (ys := rowsP (eachB b)) (by simp) rfl (by simp [rowsP]) (by rw [hfin]; simp [rowsP, cellsP, badP, List.take_of_length_le]) (rowsP_free _), .bool_of rfl, trivial⟩) (one_none rfl)
end Go.Proofs.YtehhligadnlijaaGreatDoor
set_option linter.unusedVariables false
set_option linter.unusedSimpArgs false
namespace Go.Proofs.YtehhligadnlijaaGreatDoor
open Go.RowKit
open Go.Proofs.Tryz (prog)
attribute [local irreducible] CallV RoundV aggK
theorem allOk_cons (p : Prefix) (l : List Prefix) : allOk (p :: l) = (prefOk p && allOk l) := by
  simp [allOk]
end Go.Proofs.YtehhligadnlijaaGreatDoor
set_option linter.unusedVariables false
set_option linter.unusedSimpArgs false
namespace Go.Proofs.YtehhligadnlijaaGreatDoor
open Go.RowKit
open Go.Proofs.Tryz (prog)
attribute [local irreducible] CallV RoundV aggK
def lenW (b : List UInt8) : Nat := 256 * byteN b 0 + byteN b 1
def shortW (b : List UInt8) : Bool := decide (b.length < 2) || decide (b.length < 2 + lenW b)
def chunkW (b : List UInt8) : List UInt8 := if shortW b then [] else (b.drop 2).take (lenW b)
def restW (b : List UInt8) : List UInt8 := if shortW b then b else b.drop (2 + lenW b)
theorem lenW_lt (b : List UInt8) : lenW b < 65536 := by
  have h1 := byteN_lt b 0
  have h2 := byteN_lt b 1
  unfold lenW; omega
theorem lenW_two (x y : UInt8) (r : List UInt8) : lenW (x :: y :: r) = 256 * x.toNat + y.toNat := rfl
theorem shl_len (x y : UInt8) : IntKind.i64.wrap (IntKind.i64.wrap (IntKind.i64.wrap (x.toNat : Int) * 2 ^ (min (Int.toNat 8) IntKind.i64.bits)) + IntKind.i64.wrap (y.toNat : Int)) = ((256 * x.toNat + y.toNat : Nat) : Int) := by
  have hx := x.toNat_lt
  have hy := y.toNat_lt
  have e : (2 : Int) ^ (min (Int.toNat 8) IntKind.i64.bits) = 256 := by decide
  rw [e, wrap64 (n := (x.toNat : Int)) (by omega) (by omega), wrap64 (n := (y.toNat : Int)) (by omega) (by omega), wrap64 (n := _ * _) (by omega) (by omega), wrap64 (by omega) (by omega)]
  omega
theorem shl_len2 (x y : UInt8) : IntKind.i64.wrap (IntKind.i64.wrap (2 + IntKind.i64.wrap (IntKind.i64.wrap (x.toNat : Int) * 2 ^ (min (Int.toNat 8) IntKind.i64.bits))) + IntKind.i64.wrap (y.toNat : Int)) = ((2 + (256 * x.toNat + y.toNat) : Nat) : Int) := by
  have hx := x.toNat_lt
  have hy := y.toNat_lt
  have e : (2 : Int) ^ (min (Int.toNat 8) IntKind.i64.bits) = 256 := by decide
  rw [e, wrap64 (n := (x.toNat : Int)) (by omega) (by omega), wrap64 (n := (y.toNat : Int)) (by omega) (by omega), wrap64 (n := _ * _) (by omega) (by omega), wrap64 (n := 2 + _) (by omega) (by omega), wrap64 (by omega) (by omega)]
  omega
set_option maxRecDepth 100000 in
set_option maxHeartbeats 4000000 in
theorem some_ok (fr fr' : Bool) (b : List UInt8) (hb : b.length ≤ 20000) (c1 c2 c3 c4 c5 c6 c7 c8 c9 c10 c11 : V) (hC : ∀ v ∈ [c1, c2, c3, c4, c5, c6, c7, c8, c9, c10, c11], Free v) : CallV prog 64 [.ptr 0 0] [(0, some (.var fr' 99 [encB fr b, c1, c2, c3, c4, c5, c6, c7, c8, c9, c10, c11]))] 1
    (fun v' h' nx' => v' = .tup [encB fr (chunkW b), .bool (!shortW b)] ∧ h' = [(0, some (.var fr' 99 [encB fr (restW b), c1, c2, c3, c4, c5, c6, c7, c8, c9, c10, c11]))] ∧ nx' = 1) := by
  refine callV_of (fn := Go.Proofs.Tryz.f64) (body := _) tab_ok mixed rfl rfl (by decide) (by simp [Go.Proofs.Tryz.f64]) ?_
  (conv => whnf)
  split
  · rename_i h2
    have h2 : b.length < 2 := by have := of_decide_eq_true h2; simp only [List.length_map] at this; omega
    have hs : shortW b = true := by simp [shortW, h2]
    (conv => whnf)
    refine ⟨by kernel_rfl, ?_⟩
    (conv => whnf)
    rw [chunkW, restW, if_pos hs, if_pos hs, hs]
    exact ⟨_, _, _, (Ends.all id [] (by repeat' (first | exact True.intro | exact id | exact rfl | decide | exact Nat.le_of_ble_eq_true rfl | exact LeV.tupL ⟨.snil_sl, .bool_of rfl, trivial⟩ | exact ⟨by omega, .inl ⟨by simp, _, rfl, id, rfl, .fr rfl, LeL.freeV hC⟩⟩ | exact .ptr rfl (by omega) | exact .osl_of rfl (by omega) rfl | exact .fr rfl | exact LeL.fr rfl | exact .yld rfl (by omega) | exact .eptr rfl (by omega) | exact .osl0 | exact .snil_sl | exact .to_any | exact LeB.fr rfl id id | exact LeB.fr (by simp; done) id id | refine Or.inl ⟨by simp, _, rfl, ?_⟩ | exact Or.inr ⟨by simp, _, _, _, _, rfl⟩ | refine ⟨rfl, rfl, rfl, rfl, rfl, rfl, ?_⟩ | refine ⟨?_, ?_⟩)) (fun _ _ _ _ h => h) (fun _ _ => rfl) (by omega) (by simp)), rfl, rfl, rfl⟩
  rename_i h2
  have h2 : 2 ≤ b.length := by have := of_decide_eq_false h2; simp only [List.length_map] at this; omega
  obtain ⟨x, y, r, rfl⟩ : ∃ x y r, b = x :: y :: r := by
    match b, h2 with
    | x :: y :: r, _ => exact ⟨x, y, r, rfl⟩
  have hw := shl_len x y
  have hw2 := shl_len2 x y
  have hxy := lenW_two x y r
  have hlt := lenW_lt (x :: y :: r)
  have hm : IntKind.i64.wrap (((List.map (fun x => [V.int .u8 x.toNat]) (x :: y :: r)).length : Nat) - 2) = (r.length : Int) := by
    simp only [List.length_map, List.length_cons] at hb ⊢
    rw [wrap64 (by omega) (by omega)]; omega
  (conv => whnf)
  refine ⟨rfl, _, ⟨by decide, rfl⟩, ?_⟩
  (conv => whnf)
  refine ⟨by decide, ?_⟩
  (conv => whnf)
  refine ⟨rfl, _, ⟨by decide, rfl⟩, ?_⟩
  (conv => whnf)
  refine ⟨by kernel_rfl, ?_⟩
  (conv => whnf)
  simp only [hw, hm]
  split
  · rename_i h3
    have hs : shortW (x :: y :: r) = true := by
      have := of_decide_eq_true h3
      simp only [shortW, hxy, List.length_cons, Bool.or_eq_true, decide_eq_true_eq]
      omega
    (conv => whnf)
    rw [chunkW, restW, if_pos hs, if_pos hs, hs]
    exact ⟨_, _, _, (Ends.all id [] (by repeat' (first | exact True.intro | exact id | exact rfl | decide | exact Nat.le_of_ble_eq_true rfl | exact LeV.tupL ⟨.snil_sl, .bool_of rfl, trivial⟩ | exact ⟨by omega, .inl ⟨by simp, _, rfl, id, rfl, .fr rfl, LeL.freeV hC⟩⟩ | exact .ptr rfl (by omega) | exact .osl_of rfl (by omega) rfl | exact .fr rfl | exact LeL.fr rfl | exact .yld rfl (by omega) | exact .eptr rfl (by omega) | exact .osl0 | exact .snil_sl | exact .to_any | exact LeB.fr rfl id id | exact LeB.fr (by simp; done) id id | refine Or.inl ⟨by simp, _, rfl, ?_⟩ | exact Or.inr ⟨by simp, _, _, _, _, rfl⟩ | refine ⟨rfl, rfl, rfl, rfl, rfl, rfl, ?_⟩ | refine ⟨?_, ?_⟩)) (fun _ _ _ _ h => h) (fun _ _ => rfl) (by omega) (by simp)), rfl, rfl, rfl⟩
  rename_i h3
  have hl : lenW (x :: y :: r) ≤ r.length := by
    have := of_decide_eq_false h3
    rw [hxy]
    omega
  have hs : shortW (x :: y :: r) = false := by
    simp only [shortW, hxy, List.length_cons, Bool.or_eq_false_iff, decide_eq_false_iff_not]
    omega
  (conv => whnf)
  refine ⟨rfl, _, ⟨by decide, rfl⟩, ?_⟩
  (conv => whnf)
  refine ⟨by decide, ?_⟩
  (conv => whnf)
  refine ⟨rfl, _, ⟨by decide, rfl⟩, ?_⟩
  (conv => whnf)
  refine ⟨by kernel_rfl, ?_⟩
  (conv => whnf)
  simp only [hw2, ← hxy]
  refine ⟨trivial, ⟨by decide, Int.natCast_nonneg _, by simp only [Int.toNat_natCast]; show 2 ≤ _; omega, by simp only [Int.toNat_natCast, List.length_map, List.length_cons]; omega⟩, ?_⟩
  (conv => whnf)
  refine ⟨rfl, ⟨Int.natCast_nonneg _, by simp only [Int.toNat_natCast, List.length_map, List.length_cons]; omega⟩, ?_⟩
  (conv => whnf)
  have v1 : V.sl fr 1 (List.drop (Int.toNat 2) (List.take (((2 + lenW (x :: y :: r) : Nat) : Int)).toNat (List.map (fun x : UInt8 => [V.int .u8 x.toNat]) (x :: y :: r)))) = encB fr (((x :: y :: r).drop 2).take (lenW (x :: y :: r))) := by
    simp only [Int.toNat_natCast, encB, List.map_take, List.map_drop, List.drop_take]
    congr 2
    show 2 + _ - 2 = _
    omega
  have v2 : V.sl fr 1 (List.drop (((2 + lenW (x :: y :: r) : Nat) : Int)).toNat (List.map (fun x : UInt8 => [V.int .u8 x.toNat]) (x :: y :: r))) = encB fr ((x :: y :: r).drop (2 + lenW (x :: y :: r))) := by
    simp only [Int.toNat_natCast, encB, List.map_drop]
  rw [chunkW, restW, if_neg (by simp [hs]), if_neg (by simp [hs]), hs]
  exact ⟨_, _, _, (Ends.all id [] (by repeat' (first | exact True.intro | exact id | exact rfl | decide | exact Nat.le_of_ble_eq_true rfl | exact LeV.tupL ⟨.eq_of v1 (encB_free _ _), .bool_of rfl, trivial⟩ | exact ⟨by omega, .inl ⟨by simp, _, rfl, id, rfl, .eq_of v2 (encB_free _ _), LeL.freeV hC⟩⟩ | exact .ptr rfl (by omega) | exact .osl_of rfl (by omega) rfl | exact .fr rfl | exact LeL.fr rfl | exact .yld rfl (by omega) | exact .eptr rfl (by omega) | exact .osl0 | exact .snil_sl | exact .to_any | exact LeB.fr rfl id id | exact LeB.fr (by simp; done) id id | refine Or.inl ⟨by simp, _, rfl, ?_⟩ | exact Or.inr ⟨by simp, _, _, _, _, rfl⟩ | refine ⟨rfl, rfl, rfl, rfl, rfl, rfl, ?_⟩ | refine ⟨?_, ?_⟩)) (fun _ _ _ _ h => h) (fun _ _ => rfl) (by omega) (by simp)), rfl, rfl, rfl⟩
end Go.Proofs.YtehhligadnlijaaGreatDoor
