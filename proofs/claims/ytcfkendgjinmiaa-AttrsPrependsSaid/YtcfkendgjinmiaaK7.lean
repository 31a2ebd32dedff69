/- Joined: J1, J2, J3, J4, J5, J6. -/
import Derived.Test.YtcfkendgjinmiaaK4
import Derived.Test.YtcfkendgjinmiaaK3
import Derived.Test.YtcfkendgjinmiaaK6
import Derived.Test.YtcfkendgjinmiaaK5
/- The plain law: reading what was written, and writing what was read. -/
set_option linter.unusedVariables false
set_option linter.unusedSimpArgs false
namespace Go.Proofs.Ytcfkendgjinmiaa
open Go.RowKit

theorem wordOf_four (x : UInt32) : wordOf (fourB x) = x := by
  apply UInt32.toNat_inj.1
  have hx := x.toNat_lt
  simp [wordOf, fourB, UInt32.toNat_add, UInt32.toNat_mul, UInt32.toNat_shiftRight, Nat.shiftRight_eq_div_pow]
  omega
theorem four_word {v : List UInt8} (h : v.length = 4) : fourB (wordOf v) = v := by
  obtain ⟨a, b, c, d, rfl⟩ : ∃ a b c d, v = [a, b, c, d] := by
    rcases v with _ | ⟨a, _ | ⟨b, _ | ⟨c, _ | ⟨d, _ | ⟨e, v⟩⟩⟩⟩⟩ <;> simp at h
    exact ⟨a, b, c, d, rfl⟩
  have ha := a.toNat_lt
  have hb := b.toNat_lt
  have hc := c.toNat_lt
  have hd := d.toNat_lt
  simp only [fourB, List.cons.injEq, and_true]
  refine ⟨?_, ?_, ?_, ?_⟩ <;> apply UInt8.toNat_inj.1 <;> simp [wordOf, UInt32.toNat_add, UInt32.toNat_mul, UInt32.toNat_shiftRight, Nat.shiftRight_eq_div_pow] <;> omega
theorem numsK_all (l : List UInt32) (r : List UInt8) : numsK (allB l ++ r) l.length = l := by
  induction l generalizing r with
  | nil => rfl
  | cons x l ih =>
    have h4 : (fourB x).length = 4 := rfl
    have hs : numsK (allB (x :: l) ++ r) (l.length + 1) = wordOf (fourB x) :: numsK (allB l ++ r) l.length := by
      simp only [numsK, List.range_succ_eq_map, List.map_cons, List.map_map]
      have e : allB (x :: l) ++ r = fourB x ++ (allB l ++ r) := by simp [allB]
      rw [e]
      congr 1
      try
        refine List.map_congr_left fun j _ => ?_
        simp only [Function.comp]
        congr 2
    rw [List.length_cons, hs, wordOf_four, ih]
theorem all_nums (v : List UInt8) (m : Nat) (h : v.length = 4 * m) : allB (numsK v m) = v := by
  induction m generalizing v with
  | zero => obtain rfl : v = [] := List.eq_nil_of_length_eq_zero (by omega); rfl
  | succ m ih =>
    have hs : numsK v (m + 1) = wordOf (v.take 4) :: numsK (v.drop 4) m := by
      simp only [numsK, List.range_succ_eq_map, List.map_cons, List.map_map]
      congr 1
      refine List.map_congr_left fun j _ => ?_
      simp only [Function.comp]
      rw [show 4 * (j + 1) = 4 + 4 * j by omega, ← List.drop_drop]
    rw [hs]
    show fourB (wordOf (v.take 4)) ++ allB (numsK (v.drop 4) m) = v
    rw [four_word (by simp; omega), ih (v.drop 4) (by simp; omega), List.take_append_drop]
theorem legs_path : ∀ (l : List Leg), (∀ p ∈ l, p.ns.length ≤ 32) → legs (pathB l) = some (l.map fun p => (kindB p, p.ns))
  | [], _ => by simp [pathB, legs_nil]
  | p :: l, h => by
    have hp := h p (by simp)
    have hn : (UInt8.ofNat p.ns.length).toNat = p.ns.length := by simp [UInt8.toNat_ofNat']; omega
    have e : pathB (p :: l) = kindB p :: UInt8.ofNat p.ns.length :: (allB p.ns ++ pathB l) := by simp [pathB, legB]
    have hl : (allB p.ns ++ pathB l).length = 4 * p.ns.length + (pathB l).length := by rw [List.length_append, allB_len]
    rw [e, legs_go (by rw [hn]; omega), hn, List.drop_left' (by rw [allB_len]), legs_path l (fun q hq => h q (by simp [hq])), numsK_all]
    rfl
theorem legOf_kind (p : Leg) : legOf (kindB p, p.ns) = p := by
  obtain ⟨s, ns⟩ := p
  cases s <;> simp [legOf, kindB]
theorem kindOk_kind (p : Leg) : kindOk (kindB p) = true := by
  obtain ⟨s, ns⟩ := p
  cases s <;> simp [kindOk, kindB]
theorem path_legs : ∀ (n : Nat) (v : List UInt8), v.length = n → ∀ l, legs v = some l → (∀ p ∈ l, kindOk p.1 = true) → (∀ p ∈ l, p.2.length ≤ 255) ∧ pathB (l.map legOf) = v := by
  intro n
  induction n using Nat.strongRecOn with
  | ind n ih =>
    intro v hn l hl hk
    rcases v with _ | ⟨x, _ | ⟨m, r⟩⟩
    · rw [legs_nil] at hl; cases hl; exact ⟨by simp, rfl⟩
    · rw [legs_one] at hl; cases hl
    · by_cases hr : r.length < 4 * m.toNat
      · rw [legs_no hr] at hl; cases hl
      rw [legs_go hr] at hl
      cases hq : legs (r.drop (4 * m.toNat)) with
      | none => rw [hq] at hl; cases hl
      | some l' =>
        rw [hq] at hl
        simp only [Option.map_some, Option.some.injEq] at hl
        subst hl
        obtain ⟨h1, h2⟩ := ih (r.drop (4 * m.toNat)).length (by rw [← hn]; simp; omega) _ rfl l' hq (fun p hp => hk p (by simp [hp]))
        have hm := m.toNat_lt
        have hx := hk (x, numsK r m.toNat) (by simp)
        refine ⟨fun p hp => ?_, ?_⟩
        · rcases List.mem_cons.1 hp with rfl | hp
          · simp [numsK_len]; omega
          · exact h1 p hp
        · show legB (legOf (x, numsK r m.toNat)) ++ pathB (l'.map legOf) = _
          rw [h2]
          have hkb : kindB (legOf (x, numsK r m.toNat)) = x := by
            simp only [kindOk, Bool.or_eq_true, beq_iff_eq] at hx
            rcases hx with rfl | rfl <;> simp [legOf, kindB]
          have e : allB (numsK r m.toNat) = r.take (4 * m.toNat) := by
            have := all_nums (r.take (4 * m.toNat)) m.toNat (by simp; omega)
            rw [numsK_take _ _ _ (Nat.le_refl _)] at this
            exact this
          simp only [legB, hkb]
          have hne : (legOf (x, numsK r m.toNat)).ns = numsK r m.toNat := rfl
          rw [hne, numsK_len, e]
          have hmm : UInt8.ofNat m.toNat = m := by simp
          rw [hmm]
          simp
end Go.Proofs.Ytcfkendgjinmiaa
/- The plain law: one attribute's head. -/
set_option linter.unusedVariables false
set_option linter.unusedSimpArgs false
namespace Go.Proofs.Ytcfkendgjinmiaa
open Go.RowKit

theorem drop2 {α : Type} {a b c : α} {l : List α} : (a :: b :: c :: l).drop 3 = l := rfl
theorem head_attr {f c : UInt8} {v rest : List UInt8} {last : Nat} (hf : flagsI c.toNat = f.toNat) (hf3 : f = 64 ∨ f = 128 ∨ f = 192) (hc : last < c.toNat) (hv : v.length < 65536) :
    attrB f c v ++ rest ≠ [] ∧ headE (attrB f c v ++ rest) last = 0 ∧ byteN (attrB f c v ++ rest) 1 = c.toNat ∧ valB (attrB f c v ++ rest) = v ∧ restB (attrB f c v ++ rest) = rest := by
  have hfl : 0 ≤ flagsI c.toNat := by rw [hf]; omega
  by_cases hl : 255 < v.length
  · have e : attrB f c v ++ rest = (f + 16) :: c :: UInt8.ofNat (v.length / 256) :: UInt8.ofNat (v.length % 256) :: (v ++ rest) := by simp [attrB, hl]
    have h0 : (f + 16).toNat = f.toNat + 16 := by rcases hf3 with rfl | rfl | rfl <;> rfl
    have b0 : byteN (attrB f c v ++ rest) 0 = f.toNat + 16 := by rw [e]; simp [byteN, h0]
    have b1 : byteN (attrB f c v ++ rest) 1 = c.toNat := by rw [e]; simp [byteN]
    have b2 : byteN (attrB f c v ++ rest) 2 = v.length / 256 := by rw [e]; simp [byteN, UInt8.toNat_ofNat']; omega
    have b3 : byteN (attrB f c v ++ rest) 3 = v.length % 256 := by rw [e]; simp [byteN, UInt8.toNat_ofNat']
    have lg : lngB (attrB f c v ++ rest) = true := by rw [lngB, b0]; rcases hf3 with rfl | rfl | rfl <;> rfl
    have nb : numB (attrB f c v ++ rest) = v.length := by simp only [numB, lg, if_true, b2, b3]; omega
    have at' : atB (attrB f c v ++ rest) = 4 := by simp [atB, lg]
    have len : (attrB f c v ++ rest).length = 4 + v.length + rest.length := by rw [e]; simp; omega
    refine ⟨by rw [e]; simp, ?_, b1, ?_, ?_⟩
    · unfold headE
      rw [if_neg (by omega), if_neg (by rw [len]; omega), if_neg (by rw [at', nb]; omega), if_neg (by rw [b1]; omega), if_neg, if_neg (by rw [b1]; omega)]
      rw [b0, b1, lg, nb, hf]
      simp [hl]
    · rw [valB, at', nb, e]; simp
    · rw [restB, at', nb, e, ← List.drop_drop]; simp
  · have e : attrB f c v ++ rest = f :: c :: UInt8.ofNat v.length :: (v ++ rest) := by simp [attrB, hl]
    have b0 : byteN (attrB f c v ++ rest) 0 = f.toNat := by rw [e]; simp [byteN]
    have b1 : byteN (attrB f c v ++ rest) 1 = c.toNat := by rw [e]; simp [byteN]
    have b2 : byteN (attrB f c v ++ rest) 2 = v.length := by rw [e]; simp [byteN, UInt8.toNat_ofNat']; omega
    have lg : lngB (attrB f c v ++ rest) = false := by rw [lngB, b0]; rcases hf3 with rfl | rfl | rfl <;> rfl
    have nb : numB (attrB f c v ++ rest) = v.length := by simp [numB, lg, b2]
    have at' : atB (attrB f c v ++ rest) = 3 := by simp [atB, lg]
    have len : (attrB f c v ++ rest).length = 3 + v.length + rest.length := by rw [e]; simp; omega
    refine ⟨by rw [e]; simp, ?_, b1, ?_, ?_⟩
    · unfold headE
      rw [if_neg (by omega), if_neg (by rw [lg]; simp), if_neg (by rw [at', nb]; omega), if_neg (by rw [b1]; omega), if_neg, if_neg (by rw [b1]; omega)]
      rw [b0, b1, lg, nb, hf]
      simp [hl]
    · rw [valB, at', nb, e]; simp
    · rw [restB, at', nb, e, ← List.drop_drop]; simp
theorem head_inv {b : List UInt8} {last : Nat} (h : headE b last = 0) : ∃ f c : UInt8, flagsI c.toNat = f.toNat ∧ b = attrB f c (valB b) ++ restB b ∧ last < c.toNat ∧ byteN b 1 = c.toNat ∧ (valB b).length < 65536 := by
  unfold headE at h
  split at h
  · cases h
  split at h
  · cases h
  split at h
  · cases h
  split at h
  · cases h
  rename_i h1 h2 h3 h4
  by_cases h5 : ((byteN b 0 : Int) - (if lngB b then 16 else 0) ≠ flagsI (byteN b 1) ∨ lngB b ≠ decide (255 < numB b))
  · rw [if_pos h5] at h; cases h
  rw [if_neg h5] at h
  split at h
  · cases h
  rename_i h6
  obtain ⟨x, c, n, r, rfl⟩ : ∃ x c n r, b = x :: c :: n :: r := by
    rcases b with _ | ⟨x, _ | ⟨c, _ | ⟨n, r⟩⟩⟩ <;> simp at h1
    exact ⟨x, c, n, r, rfl⟩
  have b0 : byteN (x :: c :: n :: r) 0 = x.toNat := by simp [byteN]
  have b1 : byteN (x :: c :: n :: r) 1 = c.toNat := by simp [byteN]
  have b2 : byteN (x :: c :: n :: r) 2 = n.toNat := by simp [byteN]
  rw [b0, b1] at h5
  rw [b1] at h6 h4
  have hn := n.toNat_lt
  have hx := x.toNat_lt
  cases lg : lngB (x :: c :: n :: r) with
  | false =>
    have nb : numB (x :: c :: n :: r) = n.toNat := by simp [numB, lg, b2]
    have at' : atB (x :: c :: n :: r) = 3 := by simp [atB, lg]
    rw [at', nb] at h3
    have hlen : n.toNat ≤ r.length := by simp at h3; omega
    have hv : valB (x :: c :: n :: r) = r.take n.toNat := by rw [valB, at', nb]; rfl
    have hr : restB (x :: c :: n :: r) = r.drop n.toNat := by rw [restB, at', nb, ← List.drop_drop]; rfl
    rw [lg, nb] at h5
    refine ⟨x, c, ?_, ?_, by omega, b1, ?_⟩
    · simp at h5; omega
    · rw [hv, hr, attrB, if_neg (by simp; omega)]
      simp [Nat.min_eq_left hlen]
    · rw [hv]; simp; omega
  | true =>
    obtain ⟨m, r, rfl⟩ : ∃ m r', r = m :: r' := by
      rcases r with _ | ⟨m, r⟩
      · simp [lg] at h2
      · exact ⟨m, r, rfl⟩
    have hm := m.toNat_lt
    have b3 : byteN (x :: c :: n :: m :: r) 3 = m.toNat := by simp [byteN]
    have nb : numB (x :: c :: n :: m :: r) = 256 * n.toNat + m.toNat := by simp [numB, lg, b2, b3]
    have at' : atB (x :: c :: n :: m :: r) = 4 := by simp [atB, lg]
    rw [at', nb] at h3
    have hlen : 256 * n.toNat + m.toNat ≤ r.length := by simp at h3; omega
    have hv : valB (x :: c :: n :: m :: r) = r.take (256 * n.toNat + m.toNat) := by rw [valB, at', nb]; rfl
    have hr : restB (x :: c :: n :: m :: r) = r.drop (256 * n.toNat + m.toNat) := by rw [restB, at', nb, ← List.drop_drop]; rfl
    rw [lg, nb] at h5
    have hx16 : 16 ≤ x.toNat := by
      rw [lngB, b0] at lg
      simp at lg
      omega
    have hbig : 255 < 256 * n.toNat + m.toNat := by simp at h5; omega
    have hx' : (x - 16).toNat = x.toNat - 16 := by rw [UInt8.toNat_sub_of_le]; rfl; rw [UInt8.le_iff_toNat_le]; exact hx16
    refine ⟨x - 16, c, ?_, ?_, by omega, b1, ?_⟩
    · rw [hx']; simp at h5; omega
    · rw [hv, hr, attrB, if_pos (by simp; omega)]
      have hl2 : (r.take (256 * n.toNat + m.toNat)).length = 256 * n.toNat + m.toNat := by simp; omega
      rw [hl2, show (256 * n.toNat + m.toNat) / 256 = n.toNat by omega, show (256 * n.toNat + m.toNat) % 256 = m.toNat by omega]
      simp
    · rw [hv]; simp; omega
end Go.Proofs.Ytcfkendgjinmiaa
/- The plain law: there and back. -/
set_option linter.unusedVariables false
set_option linter.unusedSimpArgs false
namespace Go.Proofs.Ytcfkendgjinmiaa
open Go.RowKit

theorem parse_step {f c : UInt8} {v rest : List UInt8} {last seen : Nat} {a : Attrs} (hf : flagsI c.toNat = f.toNat) (hf3 : f = 64 ∨ f = 128 ∨ f = 192) (hc : last < c.toNat) (hv : v.length < 65536) (he : lowE c.toNat v = 0) :
    parseA (attrB f c v ++ rest) last seen a = parseA rest c.toNat (if c.toNat ≤ 3 then seen + 1 else seen) (lowA c.toNat a v) := by
  obtain ⟨h1, h2, h3, h4, h5⟩ := head_attr (rest := rest) hf hf3 hc hv
  rw [parseA_go h1 h2 (by rw [h3, h4]; exact he), h3, h4, h5]
theorem rightA_parts {a : Attrs} (h : rightA a = true) : a.origin.toNat ≤ 2 ∧ pathOk a.path = true ∧ a.next ≠ 0 ∧ (a.hasMed = false → a.med = 0) ∧ (a.hasPref = false → a.pref = 0) ∧ a.tags.length ≤ 16 ∧ rises a.tags = true := by
  simp only [rightA, Bool.and_eq_true, decide_eq_true_eq, Bool.or_eq_true, bne_iff_ne, ne_eq, beq_iff_eq] at h
  obtain ⟨⟨⟨⟨⟨⟨h1, h2⟩, h3⟩, h4⟩, h5⟩, h6⟩, h7⟩ := h
  refine ⟨by omega, h2, h3, fun e => ?_, fun e => ?_, by omega, h7⟩
  · rcases h4 with h | h
    · rw [e] at h; cases h
    · exact h
  · rcases h5 with h | h
    · rw [e] at h; cases h
    · exact h
theorem rightA_of {a : Attrs} (h1 : a.origin.toNat ≤ 2) (h2 : pathOk a.path = true) (h3 : a.next ≠ 0) (h4 : a.hasMed = false → a.med = 0) (h5 : a.hasPref = false → a.pref = 0) (h6 : a.tags.length ≤ 16) (h7 : rises a.tags = true) : rightA a = true := by
  simp only [rightA, Bool.and_eq_true, decide_eq_true_eq, Bool.or_eq_true, bne_iff_ne, ne_eq, beq_iff_eq]
  refine ⟨⟨⟨⟨⟨⟨by omega, h2⟩, h3⟩, ?_⟩, ?_⟩, by omega⟩, h7⟩
  · cases e : a.hasMed with
    | true => exact .inl rfl
    | false => exact .inr (h4 e)
  · cases e : a.hasPref with
    | true => exact .inl rfl
    | false => exact .inr (h5 e)
theorem pathE_ok {l : List Leg} (h : pathOk l = true) : pathE (pathB l) = 0 ∧ pathA (pathB l) = l := by
  have hall := (pathOk_all h).2
  have hl := legs_path l (fun p hp => (legOk_ns (hall p hp)).2.1)
  have hm : (l.map fun p => (kindB p, p.ns)).map legOf = l := by
    rw [List.map_map]
    conv => rhs; rw [← List.map_id l]
    exact List.map_congr_left fun p _ => legOf_kind p
  constructor
  · rw [pathE, hl]
    simp only
    rw [hm, h]
    have : (l.map fun p => (kindB p, p.ns)).all (fun p => kindOk p.1) = true := by
      rw [List.all_eq_true]
      intro p hp
      obtain ⟨q, _, rfl⟩ := List.mem_map.1 hp
      exact kindOk_kind q
    rw [this]; rfl
  · rw [pathA, hl]; exact hm
theorem pathB_short {l : List Leg} (h : pathOk l = true) : (pathB l).length < 65536 := by
  have h1 := pathOk_all h
  have := pathB_len (l := l) (fun p hp => by have := (legOk_ns (h1.2 p hp)).2.1; omega)
  omega
theorem low8 {v : List UInt8} (h1 : v.length ≠ 0) (h2 : v.length % 4 = 0) (h3 : v.length / 4 ≤ 16) (h4 : rises (numsK v (v.length / 4)) = true) : lowE 8 v = 0 := by
  have h5 : ¬ (16 < v.length / 4 ∨ rises (numsK v (v.length / 4)) = false) := by rw [h4]; simp; omega
  have h6 : ¬ (v.length = 0 ∨ v.length % 4 ≠ 0) := by omega
  simp only [lowE]
  rw [if_neg (by decide), if_neg (by decide), if_neg (by decide), if_neg (by decide), if_neg (by decide), if_neg h6, if_neg h5]
theorem low3 {v : List UInt8} (h1 : v.length = 4) (h2 : wordOf v ≠ 0) : lowE 3 v = 0 := by simp [lowE, h1, h2]
theorem tagsE {l : List UInt32} (h0 : l ≠ []) (h16 : l.length ≤ 16) (hr : rises l = true) : lowE 8 (allB l) = 0 ∧ numsK (allB l) ((allB l).length / 4) = l := by
  have hl := allB_len l
  have hn : numsK (allB l) l.length = l := by have := numsK_all l []; rwa [List.append_nil] at this
  have hp := List.length_pos_iff.2 h0
  have hd : (allB l).length / 4 = l.length := by omega
  constructor
  · refine low8 (by omega) (by omega) (by omega) ?_
    rw [hd, hn]; exact hr
  · rw [hd, hn]
/-- WHAT WAS WRITTEN IS READ. -/
theorem raw_parse {a : Attrs} (h : rightA a = true) : parseA (rawA a) 0 0 noA = (a, 0) := by
  obtain ⟨h1, h2, h3, h4, h5, h6, h7⟩ := rightA_parts h
  obtain ⟨p1, p2⟩ := pathE_ok h2
  simp only [rawA, rawO, List.append_assoc]
  rw [parse_step (f := 64) (c := 1) rfl (by decide) (by decide) (by simp) (by simp [lowE]; omega)]
  rw [parse_step (f := 64) (c := 2) rfl (by decide) (by decide) (pathB_short h2) (by simpa [lowE] using p1)]
  rw [parse_step (f := 64) (c := 3) rfl (by decide) (by decide) (by simp [fourB]) (low3 rfl (by rw [wordOf_four]; exact h3))]
  obtain ⟨o, l, nn, hm, m, hq, q, tg⟩ := a
  simp only at *
  have e1 : lowA (UInt8.toNat 3) (lowA (UInt8.toNat 2) (lowA (UInt8.toNat 1) noA [o]) (pathB l)) (fourB nn) = ⟨o, l, nn, false, 0, false, 0, []⟩ := by
    simp [lowA, noA, p2, wordOf_four]
  rw [e1]
  have s1 : (if UInt8.toNat 3 ≤ 3 then (if UInt8.toNat 2 ≤ 3 then (if UInt8.toNat 1 ≤ 3 then 0 + 1 else 0) + 1 else if UInt8.toNat 1 ≤ 3 then 0 + 1 else 0) + 1 else if UInt8.toNat 2 ≤ 3 then (if UInt8.toNat 1 ≤ 3 then 0 + 1 else 0) + 1 else if UInt8.toNat 1 ≤ 3 then 0 + 1 else 0) = 3 := rfl
  rw [s1]
  have last : ∀ k, k < 8 → parseA (if 0 < tg.length then attrB 192 8 (allB tg) else []) k 3 ⟨o, l, nn, hm, m, hq, q, []⟩ = (⟨o, l, nn, hm, m, hq, q, tg⟩, 0) := by
    intro k hk
    rcases tg with _ | ⟨t, tg⟩
    · simp [parseA_nil]
    · obtain ⟨t1, t2⟩ := tagsE (l := t :: tg) (by simp) h6 h7
      have := parse_step (f := 192) (c := 8) (v := allB (t :: tg)) (rest := []) (last := k) (seen := 3) (a := ⟨o, l, nn, hm, m, hq, q, []⟩) rfl (by decide) (by simpa using hk) (by rw [allB_len]; omega) t1
      rw [List.append_nil] at this
      rw [if_pos (by simp), this, parseA_nil]
      simp [lowA, t2]
  have pref : ∀ k, k < 5 → parseA ((if hq then attrB 64 5 (fourB q) else []) ++ (if 0 < tg.length then attrB 192 8 (allB tg) else [])) k 3 ⟨o, l, nn, hm, m, false, 0, []⟩ = (⟨o, l, nn, hm, m, hq, q, tg⟩, 0) := by
    intro k hk
    cases hq with
    | false =>
      obtain rfl := h5 rfl
      simpa using last k (by omega)
    | true =>
      rw [if_pos rfl, parse_step (f := 64) (c := 5) rfl (by decide) (by simpa using hk) (by simp [fourB]) (by simp [lowE, fourB])]
      have := last 5 (by omega)
      simpa [lowA, wordOf_four] using this
  cases hm with
  | false =>
    obtain rfl := h4 rfl
    simpa using pref 3 (by omega)
  | true =>
    rw [if_pos rfl, parse_step (f := 128) (c := 4) rfl (by decide) (by decide) (by simp [fourB]) (by simp [lowE, fourB])]
    have := pref 4 (by omega)
    simpa [lowA, wordOf_four] using this
end Go.Proofs.Ytcfkendgjinmiaa
/- The plain law: what was read is written as it was. -/
set_option linter.unusedVariables false
set_option linter.unusedSimpArgs false
namespace Go.Proofs.Ytcfkendgjinmiaa
open Go.RowKit

/-- What is written of the attributes behind a code. -/
def tailB (x : Attrs) (last : Nat) (p1 p2 p3 : Bool) : List UInt8 :=
  (if p1 then attrB 64 1 [x.origin] else []) ++ ((if p2 then attrB 64 2 (pathB x.path) else []) ++ ((if p3 then attrB 64 3 (fourB x.next) else []) ++
    ((if decide (last < 4) && x.hasMed then attrB 128 4 (fourB x.med) else []) ++ ((if decide (last < 5) && x.hasPref then attrB 64 5 (fourB x.pref) else []) ++ (if decide (last < 8) && decide (0 < x.tags.length) then attrB 192 8 (allB x.tags) else [])))))
structure Inv (a : Attrs) (last : Nat) : Prop where
  med : last < 4 → a.hasMed = false ∧ a.med = 0
  pref : last < 5 → a.hasPref = false ∧ a.pref = 0
  tags : last < 8 → a.tags = []
structure Rd (b : List UInt8) (last seen : Nat) (a x : Attrs) (p1 p2 p3 : Bool) : Prop where
  l1 : p1 = true → last < 1
  l2 : p2 = true → last < 2
  l3 : p3 = true → last < 3
  n : seen + p1.toNat + p2.toNat + p3.toNat = 3
  eq : b = tailB x last p1 p2 p3
  o : p1 = false → x.origin = a.origin
  p : p2 = false → x.path = a.path
  nx : p3 = false → x.next = a.next
  med : 4 ≤ last → x.hasMed = a.hasMed ∧ x.med = a.med
  pref : 5 ≤ last → x.hasPref = a.hasPref ∧ x.pref = a.pref
  tags : 8 ≤ last → x.tags = a.tags
  vo : p1 = true → x.origin.toNat ≤ 2
  vp : p2 = true → pathOk x.path = true
  vn : p3 = true → x.next ≠ 0
  vm : last < 4 → x.hasMed = false → x.med = 0
  vq : last < 5 → x.hasPref = false → x.pref = 0
  vt : last < 8 → x.tags.length ≤ 16 ∧ rises x.tags = true
theorem low1_inv {v : List UInt8} (h : lowE 1 v = 0) : ∃ o, v = [o] ∧ o.toNat ≤ 2 := by
  rcases v with _ | ⟨o, _ | ⟨q, v⟩⟩
  · simp [lowE] at h
  · refine ⟨o, rfl, ?_⟩
    simp [lowE] at h
    omega
  · simp [lowE] at h
theorem low2_inv {v : List UInt8} (h : lowE 2 v = 0) : pathOk (pathA v) = true ∧ pathB (pathA v) = v := by
  simp only [lowE] at h
  rw [if_neg (by decide), if_pos trivial, pathE] at h
  rw [pathA]
  cases hl : legs v with
  | none => rw [hl] at h; cases h
  | some l =>
    rw [hl] at h
    simp only at h ⊢
    split at h
    · rename_i hh
      rw [Bool.and_eq_true] at hh
      exact ⟨hh.2, (path_legs _ v rfl l hl (List.all_eq_true.1 hh.1)).2⟩
    · cases h
theorem low3_inv {v : List UInt8} (h : lowE 3 v = 0) : v.length = 4 ∧ wordOf v ≠ 0 := by
  simp only [lowE] at h
  rw [if_neg (by decide), if_neg (by decide), if_pos trivial] at h
  split at h
  · cases h
  split at h
  · cases h
  rename_i h1 h2
  exact ⟨by omega, h2⟩
theorem low45_inv {c : Nat} (hc : c = 4 ∨ c = 5) {v : List UInt8} (h : lowE c v = 0) : v.length = 4 := by
  rcases hc with rfl | rfl
  · simp only [lowE] at h
    rw [if_neg (by decide), if_neg (by decide), if_neg (by decide), if_pos trivial] at h
    split at h
    · cases h
    · omega
  · simp only [lowE] at h
    rw [if_neg (by decide), if_neg (by decide), if_neg (by decide), if_neg (by decide), if_pos trivial] at h
    split at h
    · cases h
    · omega
theorem low8_inv {v : List UInt8} (h : lowE 8 v = 0) : v.length ≠ 0 ∧ v.length % 4 = 0 ∧ v.length / 4 ≤ 16 ∧ rises (numsK v (v.length / 4)) = true := by
  simp only [lowE] at h
  rw [if_neg (by decide), if_neg (by decide), if_neg (by decide), if_neg (by decide), if_neg (by decide)] at h
  split at h
  · cases h
  split at h
  · cases h
  rename_i h1 h2
  refine ⟨by omega, by omega, by omega, ?_⟩
  cases hr : rises (numsK v (v.length / 4)) with
  | true => rfl
  | false => exact absurd (.inr hr) h2
theorem flags_codes {c f : UInt8} (h : flagsI c.toNat = f.toNat) : (c = 1 ∧ f = 64) ∨ (c = 2 ∧ f = 64) ∨ (c = 3 ∧ f = 64) ∨ (c = 4 ∧ f = 128) ∨ (c = 5 ∧ f = 64) ∨ (c = 8 ∧ f = 192) := by
  have key : ∀ (k : Nat) (g : Nat), k < 256 → g < 256 → c.toNat = k → f.toNat = g → c = UInt8.ofNat k ∧ f = UInt8.ofNat g := fun k g hk hg h1 h2 => ⟨by rw [← h1]; simp, by rw [← h2]; simp⟩
  have hf := f.toNat_lt
  unfold flagsI at h
  split at h
  · rename_i e; exact .inl (key 1 64 (by omega) (by omega) e (by omega))
  split at h
  · rename_i e; exact .inr (.inl (key 2 64 (by omega) (by omega) e (by omega)))
  split at h
  · rename_i e; exact .inr (.inr (.inl (key 3 64 (by omega) (by omega) e (by omega))))
  split at h
  · rename_i e; exact .inr (.inr (.inr (.inr (.inl (key 5 64 (by omega) (by omega) e (by omega))))))
  split at h
  · rename_i e; exact .inr (.inr (.inr (.inl (key 4 128 (by omega) (by omega) e (by omega)))))
  split at h
  · rename_i e; exact .inr (.inr (.inr (.inr (.inr (key 8 192 (by omega) (by omega) e (by omega))))))
  · omega
theorem parse_rd : ∀ (n : Nat) (b : List UInt8), b.length = n → ∀ (last seen : Nat) (a x : Attrs), Inv a last → parseA b last seen a = (x, 0) → ∃ p1 p2 p3, Rd b last seen a x p1 p2 p3 := by
  intro n
  induction n using Nat.strongRecOn with
  | ind n ih =>
    intro b hn last seen a x hi hp
    by_cases hb : b = []
    · subst hb
      rw [parseA_nil] at hp
      split at hp
      · rename_i h3
        obtain rfl : a = x := by cases hp; rfl
        refine ⟨false, false, false, ⟨by simp, by simp, by simp, by simpa using h3, ?_, fun _ => rfl, fun _ => rfl, fun _ => rfl, fun _ => ⟨rfl, rfl⟩, fun _ => ⟨rfl, rfl⟩, fun _ => rfl, by simp, by simp, by simp, fun h _ => (hi.med h).2, fun h _ => (hi.pref h).2, fun h => by rw [hi.tags h]; simp [rises]⟩⟩
        have e1 : (decide (last < 4) && a.hasMed) = false := by
          by_cases h : last < 4
          · simp [(hi.med h).1]
          · simp [h]
        have e2 : (decide (last < 5) && a.hasPref) = false := by
          by_cases h : last < 5
          · simp [(hi.pref h).1]
          · simp [h]
        have e3 : (decide (last < 8) && decide (0 < a.tags.length)) = false := by
          by_cases h : last < 8
          · simp [hi.tags h]
          · simp [h]
        simp only [tailB, e1, e2, e3]; rfl
      · cases hp
    by_cases hh : headE b last = 0
    case neg =>
      rw [parseA_head hb hh] at hp
      exact absurd (congrArg Prod.snd hp) hh
    obtain ⟨f, c, hf, hbe, hlc, hb1, hvl⟩ := head_inv hh
    by_cases hw : lowE (byteN b 1) (valB b) = 0
    case neg =>
      rw [parseA_low hb hh hw] at hp
      exact absurd (congrArg Prod.snd hp) hw
    rw [parseA_go hb hh hw, hb1] at hp
    rw [hb1] at hw
    have hlt := restB_lt hb
    rw [hn] at hlt
    generalize hv : valB b = v at *
    generalize hr : restB b = r at *
    rcases flags_codes hf with ⟨rfl, rfl⟩ | ⟨rfl, rfl⟩ | ⟨rfl, rfl⟩ | ⟨rfl, rfl⟩ | ⟨rfl, rfl⟩ | ⟨rfl, rfl⟩
    · obtain ⟨o, rfl, ho⟩ := low1_inv hw
      have hlast : last = 0 := by have : (1 : UInt8).toNat = 1 := rfl; omega
      subst hlast
      obtain ⟨p1, p2, p3, R⟩ := ih _ hlt r rfl 1 (seen + 1) (lowA 1 a [o]) x ⟨fun _ => hi.med (by omega), fun _ => hi.pref (by omega), fun _ => hi.tags (by omega)⟩ hp
      have hp1 : p1 = false := by cases p1 with | false => rfl | true => have := R.l1 rfl; omega
      subst hp1
      have hxo : x.origin = o := R.o rfl
      refine ⟨true, p2, p3, ⟨fun _ => by omega, fun _ => by omega, fun _ => by omega, by have := R.n; simp at this ⊢; omega, ?_, by simp, R.p, R.nx, by simp, by simp, by simp, fun _ => by rw [hxo]; exact ho, R.vp, R.vn, fun _ => R.vm (by omega), fun _ => R.vq (by omega), fun _ => R.vt (by omega)⟩⟩
      rw [hbe, R.eq]
      simp [tailB, hxo]
    · obtain ⟨ho, hpb⟩ := low2_inv hw
      have hlast : last < 2 := hlc
      obtain ⟨p1, p2, p3, R⟩ := ih _ hlt r rfl 2 (seen + 1) (lowA 2 a v) x ⟨fun _ => hi.med (by omega), fun _ => hi.pref (by omega), fun _ => hi.tags (by omega)⟩ hp
      have hp1 : p1 = false := by cases p1 with | false => rfl | true => have := R.l1 rfl; omega
      have hp2 : p2 = false := by cases p2 with | false => rfl | true => have := R.l2 rfl; omega
      subst hp1 hp2
      have hxo : x.path = pathA v := R.p rfl
      refine ⟨false, true, p3, ⟨by simp, fun _ => hlast, fun h => by omega, by have := R.n; simp at this ⊢; omega, ?_, fun _ => R.o rfl, by simp, R.nx, fun h => by omega, fun h => by omega, fun h => by omega, by simp, fun _ => by rw [hxo]; exact ho, R.vn, fun _ => R.vm (by omega), fun _ => R.vq (by omega), fun _ => R.vt (by omega)⟩⟩
      rw [hbe, R.eq]
      simp [tailB, hxo, hpb, show last < 4 by omega, show last < 5 by omega, show last < 8 by omega]
    · obtain ⟨h4, ho⟩ := low3_inv hw
      have hlast : last < 3 := hlc
      obtain ⟨p1, p2, p3, R⟩ := ih _ hlt r rfl 3 (seen + 1) (lowA 3 a v) x ⟨fun _ => hi.med (by omega), fun _ => hi.pref (by omega), fun _ => hi.tags (by omega)⟩ hp
      have hp1 : p1 = false := by cases p1 with | false => rfl | true => have := R.l1 rfl; omega
      have hp2 : p2 = false := by cases p2 with | false => rfl | true => have := R.l2 rfl; omega
      have hp3 : p3 = false := by cases p3 with | false => rfl | true => have := R.l3 rfl; omega
      subst hp1 hp2 hp3
      have hxo : x.next = wordOf v := R.nx rfl
      refine ⟨false, false, true, ⟨by simp, by simp, fun _ => hlast, by have := R.n; simp at this ⊢; omega, ?_, fun _ => R.o rfl, fun _ => R.p rfl, by simp, fun h => by omega, fun h => by omega, fun h => by omega, by simp, by simp, fun _ => by rw [hxo]; exact ho, fun _ => R.vm (by omega), fun _ => R.vq (by omega), fun _ => R.vt (by omega)⟩⟩
      rw [hbe, R.eq]
      simp [tailB, hxo, four_word h4, show last < 4 by omega, show last < 5 by omega, show last < 8 by omega]
    · have h4 := low45_inv (.inl rfl) hw
      have hlast : last < 4 := hlc
      obtain ⟨p1, p2, p3, R⟩ := ih _ hlt r rfl 4 seen (lowA 4 a v) x ⟨fun h => absurd h (by omega), fun _ => hi.pref (by omega), fun _ => hi.tags (by omega)⟩ hp
      have hp1 : p1 = false := by cases p1 with | false => rfl | true => have := R.l1 rfl; omega
      have hp2 : p2 = false := by cases p2 with | false => rfl | true => have := R.l2 rfl; omega
      have hp3 : p3 = false := by cases p3 with | false => rfl | true => have := R.l3 rfl; omega
      subst hp1 hp2 hp3
      obtain ⟨hx1, hx2⟩ : x.hasMed = true ∧ x.med = wordOf v := R.med (by omega)
      refine ⟨false, false, false, ⟨by simp, by simp, by simp, R.n, ?_, fun _ => R.o rfl, fun _ => R.p rfl, fun _ => R.nx rfl, fun h => by omega, fun h => by omega, fun h => by omega, by simp, by simp, by simp, fun _ h => (by rw [hx1] at h; cases h), fun _ => R.vq (by omega), fun _ => R.vt (by omega)⟩⟩
      rw [hbe, R.eq]
      simp [tailB, hx1, hx2, four_word h4, hlast, show last < 5 by omega, show last < 8 by omega]
    · have h4 := low45_inv (.inr rfl) hw
      have hlast : last < 5 := hlc
      obtain ⟨p1, p2, p3, R⟩ := ih _ hlt r rfl 5 seen (lowA 5 a v) x ⟨fun h => absurd h (by omega), fun h => absurd h (by omega), fun _ => hi.tags (by omega)⟩ hp
      have hp1 : p1 = false := by cases p1 with | false => rfl | true => have := R.l1 rfl; omega
      have hp2 : p2 = false := by cases p2 with | false => rfl | true => have := R.l2 rfl; omega
      have hp3 : p3 = false := by cases p3 with | false => rfl | true => have := R.l3 rfl; omega
      subst hp1 hp2 hp3
      obtain ⟨hx1, hx2⟩ : x.hasPref = true ∧ x.pref = wordOf v := R.pref (by omega)
      obtain ⟨hx3, hx4⟩ : x.hasMed = a.hasMed ∧ x.med = a.med := R.med (by omega)
      refine ⟨false, false, false, ⟨by simp, by simp, by simp, R.n, ?_, fun _ => R.o rfl, fun _ => R.p rfl, fun _ => R.nx rfl, fun h => ⟨hx3, hx4⟩, fun h => by omega, fun h => by omega, by simp, by simp, by simp, fun h _ => by rw [hx4]; exact (hi.med h).2, fun _ h => (by rw [hx1] at h; cases h), fun _ => R.vt (by omega)⟩⟩
      rw [hbe, R.eq]
      have e1 : (decide (last < 4) && x.hasMed) = false := by
        by_cases h : last < 4
        · rw [hx3]; simp [(hi.med h).1]
        · simp [h]
      simp [tailB, e1, hx1, hx2, four_word h4, hlast, show last < 8 by omega]
    · obtain ⟨h0, h4, h16, hri⟩ := low8_inv hw
      have hlast : last < 8 := hlc
      obtain ⟨p1, p2, p3, R⟩ := ih _ hlt r rfl 8 seen (lowA 8 a v) x ⟨fun h => absurd h (by omega), fun h => absurd h (by omega), fun h => absurd h (by omega)⟩ hp
      have hp1 : p1 = false := by cases p1 with | false => rfl | true => have := R.l1 rfl; omega
      have hp2 : p2 = false := by cases p2 with | false => rfl | true => have := R.l2 rfl; omega
      have hp3 : p3 = false := by cases p3 with | false => rfl | true => have := R.l3 rfl; omega
      subst hp1 hp2 hp3
      have hxt : x.tags = numsK v (v.length / 4) := R.tags (by omega)
      obtain ⟨hx1, hx2⟩ : x.hasPref = a.hasPref ∧ x.pref = a.pref := R.pref (by omega)
      obtain ⟨hx3, hx4⟩ : x.hasMed = a.hasMed ∧ x.med = a.med := R.med (by omega)
      refine ⟨false, false, false, ⟨by simp, by simp, by simp, R.n, ?_, fun _ => R.o rfl, fun _ => R.p rfl, fun _ => R.nx rfl, fun h => ⟨hx3, hx4⟩, fun h => ⟨hx1, hx2⟩, fun h => by omega, by simp, by simp, by simp, fun h _ => by rw [hx4]; exact (hi.med h).2, fun h _ => by rw [hx2]; exact (hi.pref h).2, fun _ => by rw [hxt]; exact ⟨by rw [numsK_len]; exact h16, hri⟩⟩⟩
      rw [hbe, R.eq]
      have e1 : (decide (last < 4) && x.hasMed) = false := by
        by_cases h : last < 4
        · rw [hx3]; simp [(hi.med h).1]
        · simp [h]
      have e2 : (decide (last < 5) && x.hasPref) = false := by
        by_cases h : last < 5
        · rw [hx1]; simp [(hi.pref h).1]
        · simp [h]
      have e3 : allB (numsK v (v.length / 4)) = v := all_nums v _ (by omega)
      simp [tailB, e1, e2, hxt, numsK_len, e3, hlast]
      omega
/-- WHAT WAS READ IS WRITTEN AS IT WAS. -/
theorem parse_raw {b : List UInt8} {x : Attrs} (h : parseA b 0 0 noA = (x, 0)) : rightA x = true ∧ rawA x = b := by
  obtain ⟨p1, p2, p3, R⟩ := parse_rd _ b rfl 0 0 noA x ⟨fun _ => ⟨rfl, rfl⟩, fun _ => ⟨rfl, rfl⟩, fun _ => rfl⟩ h
  obtain ⟨rfl, rfl, rfl⟩ : p1 = true ∧ p2 = true ∧ p3 = true := by
    have := R.n
    cases p1 <;> cases p2 <;> cases p3 <;> simp at this ⊢
  refine ⟨rightA_of (R.vo rfl) (R.vp rfl) (R.vn rfl) (R.vm (by omega)) (R.vq (by omega)) (R.vt (by omega)).1 (R.vt (by omega)).2, ?_⟩
  rw [R.eq]
  simp [rawA, rawO, tailB]
end Go.Proofs.Ytcfkendgjinmiaa
/- The plain law: what a system laid ahead, and a tag, leave. -/
set_option linter.unusedVariables false
set_option linter.unusedSimpArgs false
namespace Go.Proofs.Ytcfkendgjinmiaa
open Go.RowKit

theorem lt_of_not {t z : UInt32} (h : ¬ t < z) (hne : t ≠ z) : z < t := by
  rw [UInt32.lt_iff_toNat_lt] at *
  have : t.toNat ≠ z.toNat := fun e => hne (UInt32.toNat_inj.1 e)
  omega
theorem rises_cons_ins {t : UInt32} : ∀ {l : List UInt32} {y : UInt32}, rises (y :: l) = true → y < t → (∀ z ∈ l, t ≠ z) → rises (y :: insT l t) = true
  | [], y, _, hy, _ => by simp [insT, rises, hy]
  | z :: r, y, h, hy, hno => by
    simp only [rises, Bool.and_eq_true, decide_eq_true_eq] at h
    simp only [insT]
    split
    · rename_i hz
      simp [rises, hy, hz, h.2]
    · rename_i hz
      have := rises_cons_ins h.2 (lt_of_not hz (hno z (by simp))) (fun w hw => hno w (by simp [hw]))
      simp [rises, h.1, this]
theorem rises_insT {t : UInt32} {l : List UInt32} (h : rises l = true) (hno : ∀ z ∈ l, t ≠ z) : rises (insT l t) = true := by
  cases l with
  | nil => rfl
  | cons z r =>
    simp only [insT]
    split
    · rename_i hz; simp [rises, hz, h]
    · rename_i hz; exact rises_cons_ins h (lt_of_not hz (hno z (by simp))) (fun w hw => hno w (by simp [hw]))
theorem insT_mem {t : UInt32} (l : List UInt32) : t ∈ insT l t := by
  induction l with
  | nil => simp [insT]
  | cons z r ih => simp only [insT]; split <;> simp [ih]
theorem rightA_with {a : Attrs} {l : List UInt32} (h : rightA a = true) (h6 : l.length ≤ 16) (h7 : rises l = true) : rightA { a with tags := l } = true := by
  obtain ⟨h1, h2, h3, h4, h5, _, _⟩ := rightA_parts h
  exact rightA_of h1 h2 h3 h4 h5 h6 h7
theorem rightA_path {a : Attrs} {l : List Leg} (h : rightA a = true) (hp : pathOk l = true) : rightA { a with path := l } = true := by
  obtain ⟨h1, _, h3, h4, h5, h6, h7⟩ := rightA_parts h
  exact rightA_of h1 hp h3 h4 h5 h6 h7
theorem tag_err {a : Attrs} {t : UInt32} (h : rightA a = true) (he : tagE a t ≠ 0) : tagE a t = 3 ∧ a.tags.length = 16 := by
  have h6 := (rightA_parts h).2.2.2.2.2.1
  unfold tagE at he ⊢
  rw [h] at he ⊢
  simp only [Bool.not_true, Bool.false_eq_true, if_false] at he ⊢
  split at he
  · exact absurd rfl he
  · rename_i h1
    rw [if_neg h1]
    split at he
    · rename_i h2; rw [if_pos h2]; exact ⟨rfl, by omega⟩
    · exact absurd rfl he
theorem tag_fine {a : Attrs} {t : UInt32} (h : rightA a = true) (he : tagE a t = 0) : rightA (tagA a t) = true ∧ (tagA a t).tags.contains t = true ∧ { tagA a t with tags := a.tags } = a := by
  obtain ⟨_, _, _, _, _, h6, h7⟩ := rightA_parts h
  cases hc : a.tags.contains t with
  | true =>
    have : tagA a t = a := by
      unfold tagA
      rw [if_neg (by simp [he]), if_pos hc]
    rw [this]
    exact ⟨h, hc, rfl⟩
  | false =>
    have hl : a.tags.length + 1 ≤ 16 := by
      unfold tagE at he
      rw [h, hc] at he
      simp only [Bool.not_true, Bool.false_eq_true, if_false] at he
      split at he
      · cases he
      · omega
    have e : tagA a t = { a with tags := insT a.tags t } := by
      unfold tagA
      rw [if_neg (by simp [he]), hc]
      rfl
    rw [e]
    refine ⟨rightA_with h (by rw [insT_len]; exact hl) (rises_insT h7 fun z hz e => ?_), ?_, rfl⟩
    · subst e; simp at hc; exact hc hz
    · simpa using insT_mem a.tags
theorem lengthOf_cons (p : Leg) (l : List Leg) : lengthOf (p :: l) = lenOf p + lengthOf l := by simp [lengthOf]
theorem prePath_len {l : List Leg} {x : UInt32} {n : Nat} : lengthOf (prePath l x n) = lengthOf l + n := by
  unfold prePath
  split
  · rename_i ns r
    rw [lengthOf_cons, lengthOf_cons]
    simp [lenOf]; omega
  · rw [lengthOf_cons]
    simp [lenOf]; omega
theorem prePath_first {l : List Leg} {x : UInt32} {n : Nat} (hn : 0 < n) : hasA (prePath l x n) x = true ∧ ∃ ns r, prePath l x n = ⟨false, x :: ns⟩ :: r := by
  obtain ⟨m, rfl⟩ : ∃ m, n = m + 1 := ⟨n - 1, by omega⟩
  unfold prePath
  split
  · rename_i ns r
    exact ⟨by simp [hasA, hasN, List.replicate_succ], _, _, by rw [List.replicate_succ]; rfl⟩
  · exact ⟨by simp [hasA, hasN, List.replicate_succ], _, _, by rw [List.replicate_succ]⟩
theorem prep_fine {a : Attrs} {x : UInt32} {n : Int} (he : prepE a x n = 0) : rightA a = true ∧ 0 ≤ n ∧ n ≤ 8 ∧ rightA (prepA a x n) = true ∧ lengthOf (prepA a x n).path = lengthOf a.path + n.toNat ∧ (0 < n → firstOf (prepA a x n) = x ∧ hasA (prepA a x n).path x = true) ∧ { prepA a x n with path := a.path } = a := by
  cases hb : badPre a x n with
  | true => simp [prepE, hb] at he
  | false =>
    obtain ⟨h, _, h0, h8⟩ := badPre_no hb
    by_cases hz : n = 0
    · subst hz
      have : prepA a x 0 = a := by simp [prepA, he]
      rw [this]
      exact ⟨h, h0, h8, h, by simp, fun h => absurd h (by omega), rfl⟩
    · have hp : pathOk (prePath a.path x n.toNat) = true := by
        simp only [prepE, hb, hz, if_false, Bool.false_eq_true] at he
        split at he
        · assumption
        · cases he
      have e : prepA a x n = { a with path := prePath a.path x n.toNat } := by simp [prepA, he, hz]
      rw [e]
      refine ⟨h, h0, h8, rightA_path h hp, prePath_len, fun hn => ?_, rfl⟩
      obtain ⟨h1, ns, r, h2⟩ := prePath_first (l := a.path) (x := x) (n := n.toNat) (by omega)
      refine ⟨?_, h1⟩
      show firstOf { a with path := prePath a.path x n.toNat } = x
      rw [h2]; rfl
end Go.Proofs.Ytcfkendgjinmiaa
/- Contract: the law AttrsBack. -/
set_option linter.unusedVariables false
set_option linter.unusedSimpArgs false
namespace Go.Proofs.Ytcfkendgjinmiaa
open Go.RowKit
open Go.Proofs.Try (prog)
attribute [local irreducible] CallV RoundV

theorem fewA_right {a : Attrs} (h : rightA a = true) : fewA a = true := by
  obtain ⟨h1, h2, h3, _⟩ := few_of_right h
  have : a.path.all (fun p => decide (p.ns.length ≤ 60)) = true := by
    rw [List.all_eq_true]
    intro p hp
    have := h2 p hp
    simp; omega
  simp [fewA, this]
  omega
theorem hasN_take_succ {l : List UInt32} (t : UInt32) {k : Nat} (hk : k < l.length) : hasN (l.take (k + 1)) t = (hasN (l.take k) t || l[k] == t) := by
  unfold hasN
  rw [List.take_succ_eq_append_getElem hk, List.any_append]
  simp
set_option maxRecDepth 100000 in
set_option maxHeartbeats 8000000 in
theorem back_ok (a : Attrs) (b : List UInt8) (x : UInt32) (n : Int) (t : UInt32) : PCon prog 10 [encA false a, encB false b, cW x, .int .i64 n, cW t] (.bool true) := by
  have wk : ∀ {s : St}, ∃ v1 h' nx', Ends 0 s (.bool true) v1 h' nx' ∧ (v1 = .bool true ∧ h' = [] ∧ nx' = 0) := Ends.pure [] (.free .bool) (by simp)
  refine callV_of (fn := Go.Proofs.Try.f10) (body := _) tab_ok mixed rfl rfl (by decide) (by simp [Go.Proofs.Try.f10]) ?_
  (conv => whnf)
  refine callV_pure (few_ok false a) ⟨.free (encA_free _ _), trivial⟩ ?_
  cases hf : fewA a with
  | false =>
    (conv => whnf)
    refine callV_pure works_ok trivial ?_
    (conv => whnf)
    exact wk
  | true =>
  (conv => whnf)
  intro _
  (conv => whnf)
  split
  · (conv => whnf)
    refine callV_pure works_ok trivial ?_
    (conv => whnf)
    exact wk
  rename_i hb
  have hb : b.length ≤ 600 := by simp at hb; omega
  (conv => whnf)
  refine callV_pure (parse_ok false b (by omega)) ⟨.free (encB_free _ _), trivial⟩ ?_
  obtain ⟨y, e, hy⟩ : ∃ y e, parseA b 0 0 noA = (y, e) := ⟨_, _, rfl⟩
  rw [hy]
  (conv => whnf)
  refine callV_pure (num_ok e) ⟨.int_of rfl, trivial⟩ ?_
  (conv => whnf)
  split
  case' h_1 he =>
    obtain rfl : e = 0 := by simpa using he
    obtain ⟨hyr, hyb⟩ := parse_raw hy
    (conv => whnf)
    refine callV_pure (raw_ok true y (fewA_right hyr)) ⟨.free (encA_free _ _), trivial⟩ ?_
    rw [rawE_yes hyr, rawP_eq, hyb]
    (conv => whnf)
    refine callV_pure (num_ok 0) ⟨.int_of rfl, trivial⟩ ?_
    (conv => whnf)
    refine ⟨rfl, ⟨b.toArray⟩, rfl, ?_⟩
    (conv => whnf)
    refine ⟨rfl, ⟨b.toArray⟩, rfl, ?_⟩
    (conv => whnf)
    split
    case' h_1 hh => exact absurd hh (by simp)
  all_goals
    (conv => whnf)
    refine callV_pure (check_ok false a) ⟨.free (encA_free _ _), trivial⟩ ?_
  all_goals
    cases hr : rightA a with
    | false =>
      rw [checkA_no hr]
      (conv => whnf)
      refine callV_pure (num_ok 2) ⟨.int_of rfl, trivial⟩ ?_
      (conv => whnf)
      refine callV_pure works_ok trivial ?_
      (conv => whnf)
      exact wk
    | true => ?_
  all_goals
    rw [checkA_yes hr]
    (conv => whnf)
    refine callV_pure (num_ok 0) ⟨.int_of rfl, trivial⟩ ?_
    (conv => whnf)
    refine callV_pure (raw_ok false a hf) ⟨.free (encA_free _ _), trivial⟩ ?_
    rw [rawE_yes hr, rawP_eq]
    (conv => whnf)
    refine callV_pure (parse_ok true (rawA a) (by have := rawA_len hf; omega)) ⟨.free (encB_free _ _), trivial⟩ ?_
    rw [raw_parse hr]
    (conv => whnf)
    refine callV_pure (num_ok 0) ⟨.int_of rfl, trivial⟩ ?_
    (conv => whnf)
    refine callV_pure (num_ok 0) ⟨.int_of rfl, trivial⟩ ?_
    (conv => whnf)
    refine callV_pure (same_ok true false a a) ⟨.free (encA_free _ _), .free (encA_free _ _), trivial⟩ ?_
    rw [sameA_refl]
    (conv => whnf)
    refine callV_pure (prepend_ok false a x n) ⟨.free (encA_free _ _), .free .int, .free .int, trivial⟩ ?_
    (conv => whnf)
    refine callV_pure (num_ok (prepE a x n)) ⟨.int_of rfl, trivial⟩ ?_
    (conv => whnf)
    split
    case' h_1 he =>
      have he : prepE a x n = 0 := by simpa using he
      obtain ⟨_, hn0, hn8, hpr, hpl, hpf, hpe⟩ := prep_fine he
      have hfew := few_of_right hr
      have hfewp := few_of_right hpr
      have hl1 := lengthOf_le (l := a.path) (fun p hp => by have := hfew.2.1 p hp; omega)
      have hL : IntKind.i64.wrap ((lengthOf a.path : Int) + n) = (lengthOf (prepA a x n).path : Nat) := by
        rw [hpl, wrap64] <;> omega
      (conv => whnf)
      refine ⟨_, [], fun h nx _ => pureV_pure (length_ok true (prepA a x n).path (by omega) (fun p hp => by have := hfewp.2.1 p hp; omega)) ⟨.free (encLegs_free _ _), trivial⟩, by simp, ?_⟩
      (conv => whnf)
      refine ⟨_, [], fun h nx _ => pureV_pure (length_ok false a.path (by omega) (fun p hp => by have := hfew.2.1 p hp; omega)) ⟨.free (encLegs_free _ _), trivial⟩, by simp, ?_⟩
      (conv => whnf)
      split
      case h_1 hh => exfalso; rw [hL] at hh; simp at hh
      (conv => whnf)
      cases hn : decide (0 < n)
      case' true =>
        have hn : 0 < n := of_decide_eq_true hn
        obtain ⟨hf1, hf2⟩ := hpf hn
        (conv => whnf)
        refine ⟨_, [], fun h nx _ => pureV_pure (first_ok true (prepA a x n)) ⟨.free (encA_free _ _), trivial⟩, by simp, ?_⟩
        (conv => whnf)
        split
        case h_1 hh => exfalso; rw [hf1] at hh; simp at hh
        (conv => whnf)
        refine ⟨_, [], fun h nx _ => pureV_pure (has_ok true (prepA a x n) x (by omega) (fun p hp => by have := hfewp.2.1 p hp; omega) (by omega)) ⟨.free (encA_free _ _), .free .int, trivial⟩, by simp, ?_⟩
        rw [hf2]
      all_goals
        (conv => whnf)
        refine ⟨_, [], fun h nx _ => pureV_pure (check_ok true (prepA a x n)) ⟨.free (encA_free _ _), trivial⟩, by simp, ?_⟩
        rw [checkA_yes hpr]
        (conv => whnf)
        refine ⟨_, [], fun h nx _ => pureV_pure (num_ok 0) ⟨.int_of rfl, trivial⟩, by simp, ?_⟩
        (conv => whnf)
        refine ⟨by kernel_rfl, ?_⟩
        (conv => whnf)
        refine callV_pure (same_ok false false { prepA a x n with path := a.path } a) ⟨.aggL ⟨.free .int, .free (encLegs_free _ _), .free .int, .free .bool, .free .int, .free .bool, .free .int, .less (.free (encW_free _ _)) .encW, trivial⟩, .free (encA_free _ _), trivial⟩ ?_
        rw [hpe, sameA_refl]
  all_goals
    (conv => whnf)
    refine callV_pure (tag_ok false a t) ⟨.free (encA_free _ _), .free .int, trivial⟩ ?_
    (conv => whnf)
    refine callV_pure (num_ok (tagE a t)) ⟨.int_of rfl, trivial⟩ ?_
    (conv => whnf)
    split
    case' h_1 he =>
      have he : tagE a t ≠ 0 := by simpa using he
      obtain ⟨h3, h16⟩ := tag_err hr he
      (conv => whnf)
      refine callV_pure (num_ok (tagE a t)) ⟨.int_of rfl, trivial⟩ ?_
      rw [h3]
      (conv => whnf)
      intro _
      (conv => whnf)
      split
      case' h_2 hh => exact absurd hh (by simp [h16])
      (conv => whnf)
      refine callV_pure works_ok trivial ?_
      (conv => whnf)
      exact wk
    rename_i he
    have he : tagE a t = 0 := by simpa using he
    obtain ⟨htr, htc, hte⟩ := tag_fine hr he
    have htl := (few_of_right htr).2.2.1
    (conv => whnf)
    refine vcg_loop tab_ok mixed (fun k : {k : Nat // k ≤ (tagA a t).tags.length} => ⟨[(4, cW t), (5, .ptr 0 0), (21, .ptr 4 0), (23, .bool (hasN ((tagA a t).tags.take k.1) t)), (24, cI k.1)], [(0, some (.var true 26 (cellsA false a))), (4, some (.var true 26 (cellsA true (tagA a t))))], 5⟩) (fun k => (tagA a t).tags.length - k.1) ⟨0, by omega⟩ (Wk.i (by repeat' (first | exact True.intro | exact id | exact rfl | decide | exact Nat.le_of_ble_eq_true rfl | exact .ptr rfl (by omega) | exact .osl_of rfl (by omega) rfl | exact .fr rfl | exact LeL.fr rfl | exact .yld rfl (by omega) | exact .eptr rfl (by omega) | exact .osl0 | exact .snil_sl | exact .to_any | exact LeB.fr rfl id id | exact LeB.fr (by simp; done) id id | refine Or.inl ⟨by simp, _, rfl, ?_⟩ | exact Or.inr ⟨by simp, _, _, _, _, rfl⟩ | refine ⟨rfl, rfl, rfl, rfl, rfl, rfl, ?_⟩ | refine ⟨?_, ?_⟩)) (by omega)) (fun k => ?_)
    obtain ⟨k, hk⟩ := k
    (conv => whnf)
    intro _
    (conv => whnf)
    split
    · rename_i hc
      have hc : k < (tagA a t).tags.length := by simpa using hc
      have hs := hasN_take_succ t hc
      (conv => whnf)
      cases hh : hasN ((tagA a t).tags.take k) t with
      | true =>
        (conv => whnf)
        exact ⟨⟨k + 1, by omega⟩, (Wk.i (by repeat' (first | exact True.intro | exact id | exact rfl | decide | exact Nat.le_of_ble_eq_true rfl | exact .bool_of (by rw [hs, hh]; rfl) | exact .int_of (wrap64_succ hc (show (tagA a t).tags.length ≤ maxLen by unfold maxLen; omega)) | exact .ptr rfl (by omega) | exact .osl_of rfl (by omega) rfl | exact .fr rfl | exact LeL.fr rfl | exact .yld rfl (by omega) | exact .eptr rfl (by omega) | exact .osl0 | exact .snil_sl | exact .to_any | exact LeB.fr rfl id id | exact LeB.fr (by simp; done) id id | refine Or.inl ⟨by simp, _, rfl, ?_⟩ | exact Or.inr ⟨by simp, _, _, _, _, rfl⟩ | refine ⟨rfl, rfl, rfl, rfl, rfl, rfl, ?_⟩ | refine ⟨?_, ?_⟩)) (by omega)), by simp only; omega⟩
      | false =>
        (conv => whnf)
        refine ⟨rfl, _, ⟨by first | omega | (simp only; omega), idxW hc⟩, ?_⟩
        (conv => whnf)
        exact ⟨⟨k + 1, by omega⟩, (Wk.i (by repeat' (first | exact True.intro | exact id | exact rfl | decide | exact Nat.le_of_ble_eq_true rfl | exact .bool_of (by rw [hs, hh, w_eq]; rfl) | exact .int_of (wrap64_succ hc (show (tagA a t).tags.length ≤ maxLen by unfold maxLen; omega)) | exact .ptr rfl (by omega) | exact .osl_of rfl (by omega) rfl | exact .fr rfl | exact LeL.fr rfl | exact .yld rfl (by omega) | exact .eptr rfl (by omega) | exact .osl0 | exact .snil_sl | exact .to_any | exact LeB.fr rfl id id | exact LeB.fr (by simp; done) id id | refine Or.inl ⟨by simp, _, rfl, ?_⟩ | exact Or.inr ⟨by simp, _, _, _, _, rfl⟩ | refine ⟨rfl, rfl, rfl, rfl, rfl, rfl, ?_⟩ | refine ⟨?_, ?_⟩)) (by omega)), by simp only; omega⟩
    rename_i hc
    have hc : k = (tagA a t).tags.length := by simp at hc; omega
    subst hc
    have hfound : hasN ((tagA a t).tags.take (tagA a t).tags.length) t = true := by
      rw [List.take_length]
      simpa [hasN, List.contains_eq_any_beq, BEq.comm] using htc
    rw [hfound]
    (conv => whnf)
    refine callV_pure (tag_ok true (tagA a t) t) ⟨.free (encA_free _ _), .free .int, trivial⟩ ?_
    rw [tagV_in htr htc]
    (conv => whnf)
    refine callV_pure (num_ok 0) ⟨.int_of rfl, trivial⟩ ?_
    (conv => whnf)
    refine callV_pure (same_ok true true (tagA a t) (tagA a t)) ⟨.free (encA_free _ _), .free (encA_free _ _), trivial⟩ ?_
    rw [sameA_refl]
    (conv => whnf)
    refine callV_pure (check_ok true (tagA a t)) ⟨.free (encA_free _ _), trivial⟩ ?_
    rw [checkA_yes htr]
    (conv => whnf)
    refine callV_pure (num_ok 0) ⟨.int_of rfl, trivial⟩ ?_
    (conv => whnf)
    refine callV_pure (same_ok false false { tagA a t with tags := a.tags } a) ⟨.aggL ⟨.free .int, .less (.free (encLegs_free _ _)) .legs, .free .int, .free .bool, .free .int, .free .bool, .free .int, .free (encW_free _ _), trivial⟩, .free (encA_free _ _), trivial⟩ ?_
    rw [hte, sameA_refl]
    (conv => whnf)
    refine callV_pure works_ok trivial ?_
    (conv => whnf)
    exact wk
end Go.Proofs.Ytcfkendgjinmiaa
