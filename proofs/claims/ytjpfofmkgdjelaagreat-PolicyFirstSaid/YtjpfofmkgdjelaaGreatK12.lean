/- Joined: T9, T10. -/
import Derived.Test.YtjpfofmkgdjelaaGreatK11
/- Plain laws: what is laid is taken again. -/
set_option linter.unusedVariables false
set_option linter.unusedSimpArgs false
namespace Go.Proofs.YtjpfofmkgdjelaaGreat
open Go.RowKit
open Go.Proofs.Tryz (prog)

theorem num_four (x : UInt32) : UInt32.ofNat (numN (fourB x)) = x := by
  apply UInt32.toNat_inj.1
  have := x.toNat_lt
  rw [fourB, num4, UInt32.toNat_ofNat']
  simp only [UInt32.toNat_toUInt8, UInt32.toNat_shiftRight, Nat.shiftRight_eq_div_pow]
  simp
  omega
theorem num_one (c : UInt8) : UInt8.ofNat (numN [c]) = c := by simp [numN]
def flagC (b0 b1 b2 b3 b4 : Bool) : UInt8 := flagB ⟨⟨0, 0⟩, 0, 0, b0, 0, 0, b1, b2, b3, b4, 0, 0, 0, 0⟩ 5
theorem flagC_eq (r : Rule) : flagB r 5 = flagC r.hasTag r.deny r.hasPref r.hasMed r.hasAdd := rfl
theorem flagC_bits : ∀ b0 b1 b2 b3 b4 : Bool, bitB (flagC b0 b1 b2 b3 b4) 0 = b0 ∧ bitB (flagC b0 b1 b2 b3 b4) 1 = b1 ∧ bitB (flagC b0 b1 b2 b3 b4) 2 = b2 ∧ bitB (flagC b0 b1 b2 b3 b4) 3 = b3 ∧ bitB (flagC b0 b1 b2 b3 b4) 4 = b4 := by decide +kernel
/-- A record's rule, told at once. -/
def recRu (x : List UInt8) : Rule :=
  ⟨⟨UInt32.ofNat (numN ((x.drop 0).take 4)), UInt8.ofNat (numN ((x.drop 4).take 1))⟩, UInt8.ofNat (numN ((x.drop 5).take 1)), UInt8.ofNat (numN ((x.drop 6).take 1)), bitB (atR x 7) 0, UInt32.ofNat (numN ((x.drop 8).take 4)), UInt32.ofNat (numN ((x.drop 12).take 4)),
    bitB (atR x 7) 1, bitB (atR x 7) 2, bitB (atR x 7) 3, bitB (atR x 7) 4, UInt32.ofNat (numN ((x.drop 16).take 4)), UInt32.ofNat (numN ((x.drop 20).take 4)), UInt32.ofNat (numN ((x.drop 24).take 4)), UInt8.ofNat (numN ((x.drop 28).take 1))⟩
theorem takeR_eq (x : List UInt8) : takeR x 11 = recRu x := rfl
theorem rec_back (r : Rule) : takeR (recB r) 11 = r := by
  rw [takeR_eq]
  have h7 : atR (recB r) 7 = flagC r.hasTag r.deny r.hasPref r.hasMed r.hasAdd := rfl
  obtain ⟨e0, e1, e2, e3, e4⟩ := flagC_bits r.hasTag r.deny r.hasPref r.hasMed r.hasAdd
  have f0 : ((recB r).drop 0).take 4 = fourB r.cover.addr := rfl
  have f8 : ((recB r).drop 8).take 4 = fourB r.tag := rfl
  have f12 : ((recB r).drop 12).take 4 = fourB r.sys := rfl
  have f16 : ((recB r).drop 16).take 4 = fourB r.pref := rfl
  have f20 : ((recB r).drop 20).take 4 = fourB r.med := rfl
  have f24 : ((recB r).drop 24).take 4 = fourB r.add := rfl
  have f4 : ((recB r).drop 4).take 1 = [r.cover.len] := rfl
  have f5 : ((recB r).drop 5).take 1 = [r.least] := rfl
  have f6 : ((recB r).drop 6).take 1 = [r.most] := rfl
  have f28 : ((recB r).drop 28).take 1 = [r.times] := rfl
  rw [recRu, h7, e0, e1, e2, e3, e4, f0, f4, f5, f6, f8, f12, f16, f20, f24, f28]
  simp only [num_four, num_one]
theorem recs_at : ∀ (l : List Rule) (i : Nat) (h : i < l.length), ((recsB l).drop (29 * i)).take 29 = recB l[i]
  | r :: l, 0, h => by
    rw [recsB, List.flatMap_cons, Nat.mul_zero, List.drop_zero, List.take_append_of_le_length (by rw [recB_len]; omega), List.take_of_length_le (by rw [recB_len]; omega)]
    rfl
  | r :: l, i + 1, h => by
    have ih := recs_at l i (by simpa using h)
    rw [recsB, List.flatMap_cons, show 29 * (i + 1) = (recB r).length + 29 * i by rw [recB_len]; omega, ← List.drop_drop, List.drop_left, ← recsB, ih]
    rfl
theorem raw_at (p : Policy) (i : Nat) (h : i < p.rules.length) : recAt (rawPo p) i = recB p.rules[i] := by
  rw [recAt, rawPo, Nat.add_comm, List.drop_succ_cons, recs_at _ _ h]
theorem raw_n (p : Policy) : recN (rawPo p) = p.rules.length := by
  rw [recN, rawPo_len]
  omega
theorem raw_parsed (p : Policy) : parsed (rawPo p) = p := by
  obtain ⟨l, e⟩ := p
  rw [parsed, rulesN, raw_n]
  congr 1
  · apply List.ext_getElem
    · simp
    · intro i h1 h2
      simp only [List.getElem_map, List.getElem_range]
      rw [raw_at ⟨l, e⟩ i h2, rec_back]
  · cases e <;> rfl
theorem raw_ok23 {p : Policy} (h : checkP p = 0) : parseOk (rawPo p) = true := by
  have hh : headOk (rawPo p) = true := by
    rw [headOk, rawPo_len]
    have : (atR (rawPo p) 0).toNat ≤ 1 := by
      rw [rawPo, atR]
      cases p.els <;> simp
    simp [this]
  have hf : flagsOk (rawPo p) (recN (rawPo p)) = true := by
    rw [flagsOk, List.all_eq_true, raw_n]
    intro i hi
    rw [List.mem_range] at hi
    rw [raw_at p i hi]
    have h7 : atR (recB p.rules[i]) 7 = flagB p.rules[i] 5 := rfl
    have := flagB_lt p.rules[i] 5 (by omega)
    rw [h7]
    simp
    omega
  rw [parseOk, hh, hf, raw_parsed]
  simp [h]
theorem raw_pol {p : Policy} (h : checkP p = 0) : polP (rawPo p) = p ∧ errP (rawPo p) = 0 := by
  rw [polP, errP, if_pos (raw_ok23 h), if_pos (raw_ok23 h)]
  exact ⟨raw_parsed p, rfl⟩
end Go.Proofs.YtjpfofmkgdjelaaGreat
/- Contract: the law PolicyRaws. -/
set_option linter.unusedVariables false
set_option linter.unusedSimpArgs false
namespace Go.Proofs.YtjpfofmkgdjelaaGreat
open Go.RowKit
open Go.Proofs.Tryz (prog)
attribute [local irreducible] CallV RoundV aggK

theorem rraw23_ok (fr : Bool) (p : Policy) (hl : p.rules.length ≤ 1000) : PCon prog 23 [encPo fr p] (encB true (rawPo p)) := by
  have := PCon.of_own (rraw23_own fr p hl) (by simp [rowsB]) (rowsB_free _)
  rwa [List.take_of_length_le (by simp [rowsB])] at this
set_option maxRecDepth 100000 in
set_option maxHeartbeats 8000000 in
theorem policyRaws_ok (p : Policy) (b : List UInt8) : PCon prog 7 [encPo false p, encB false b] (.bool true) := by
  refine callV_of (fn := Go.Proofs.Tryz.f7) (body := _) tab_ok mixed rfl rfl (by decide) (by simp [Go.Proofs.Tryz.f7]) ?_
  have fin : ∀ {s : St}, ∃ v1 h' nx', Ends 0 s (.bool true) v1 h' nx' ∧ (v1 = .bool true ∧ h' = [] ∧ nx' = 0) := Ends.pure [] (.bool_of rfl) (by simp)
  (conv => whnf)
  intro _
  (conv => whnf)
  split
  · (conv => whnf)
    refine callV_pure works23_ok trivial ?_
    (conv => whnf)
    exact fin
  rename_i h60
  have h60 : p.rules.length ≤ 60 := by simp at h60; omega
  (conv => whnf)
  intro _
  (conv => whnf)
  split
  · (conv => whnf)
    refine callV_pure works23_ok trivial ?_
    (conv => whnf)
    exact fin
  rename_i h600
  have h600 : b.length ≤ 600 := by simp at h600; omega
  (conv => whnf)
  refine callV_pure (raw23_ok false p (by omega)) ⟨.free (encPo_free _ _), trivial⟩ ?_
  have hlen := rawPo_len p
  by_cases hck : checkP p = 0
  · rw [show rawB23 p = rawPo p from if_pos hck, hck]
    (conv => whnf)
    refine callV_pure (parseT_ok false b (by omega)) ⟨.free (encB_free _ _), trivial⟩ ?_
    (conv => whnf)
    refine callV_pure (rparseT_ok false b (by omega)) ⟨.free (encB_free _ _), trivial⟩ ?_
    (conv => whnf)
    refine callV_pure (rsame_ok true true _ _) ⟨.free (encPo_free _ _), .free (encPo_free _ _), trivial⟩ ?_
    rw [sameP_refl]
    (conv => whnf)
    refine callV_pure (num23_ok _) ⟨.int_of rfl, trivial⟩ ?_
    (conv => whnf)
    split
    case h_1 h => exact absurd h (by simp)
    (conv => whnf)
    refine callV_pure (rcheck23_ok false p) ⟨.free (encPo_free _ _), trivial⟩ ?_
    rw [hck]
    (conv => whnf)
    refine callV_pure (parseT_ok true (rawPo p) (by omega)) ⟨.free (encB_free _ _), trivial⟩ ?_
    rw [(raw_pol hck).1, (raw_pol hck).2]
    (conv => whnf)
    refine ⟨rfl, ⟨⟨rawPo p⟩⟩, by simp, ?_⟩
    (conv => whnf)
    refine ⟨_, [], fun h nx _ => pureV_pure (rraw23_ok false p (by omega)) ⟨.free (encPo_free _ _), trivial⟩, by simp, ?_⟩
    (conv => whnf)
    refine ⟨rfl, ⟨⟨rawPo p⟩⟩, by simp, ?_⟩
    (conv => whnf)
    split
    case h_2 h => exact absurd h (by simp)
    (conv => whnf)
    refine ⟨_, [], fun h nx _ => pureV_pure (num23_ok 0) ⟨.int_of rfl, trivial⟩, by simp, ?_⟩
    (conv => whnf)
    refine ⟨_, [], fun h nx _ => pureV_pure (num23_ok 0) ⟨.int_of rfl, trivial⟩, by simp, ?_⟩
    (conv => whnf)
    refine ⟨_, [], fun h nx _ => pureV_pure (rsame_ok true false p p) ⟨.free (encPo_free _ _), .free (encPo_free _ _), trivial⟩, by simp, ?_⟩
    rw [sameP_refl]
    (conv => whnf)
    refine ⟨_, [], fun h nx _ => pureV_pure works23_ok trivial, by simp, ?_⟩
    (conv => whnf)
    refine ⟨by kernel_rfl, ?_⟩
    (conv => whnf)
    exact fin
  · rw [show rawB23 p = [] from if_neg hck]
    (conv => whnf)
    refine callV_pure (parseT_ok false b (by omega)) ⟨.free (encB_free _ _), trivial⟩ ?_
    (conv => whnf)
    refine callV_pure (rparseT_ok false b (by omega)) ⟨.free (encB_free _ _), trivial⟩ ?_
    (conv => whnf)
    refine callV_pure (rsame_ok true true _ _) ⟨.free (encPo_free _ _), .free (encPo_free _ _), trivial⟩ ?_
    rw [sameP_refl]
    (conv => whnf)
    refine callV_pure (num23_ok _) ⟨.int_of rfl, trivial⟩ ?_
    (conv => whnf)
    split
    case h_1 h => exact absurd h (by simp)
    (conv => whnf)
    refine callV_pure (rcheck23_ok false p) ⟨.free (encPo_free _ _), trivial⟩ ?_
    (conv => whnf)
    split
    case h_2 h => exact absurd h (by simpa using hck)
    (conv => whnf)
    intro _
    (conv => whnf)
    refine callV_pure (num23_ok _) ⟨.int_of rfl, trivial⟩ ?_
    (conv => whnf)
    split
    case h_2 h => exact absurd h (by simp)
    (conv => whnf)
    refine callV_pure works23_ok trivial ?_
    (conv => whnf)
    exact fin
end Go.Proofs.YtjpfofmkgdjelaaGreat
