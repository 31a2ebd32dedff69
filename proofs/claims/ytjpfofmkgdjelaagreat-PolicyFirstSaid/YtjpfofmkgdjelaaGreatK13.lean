/- Joined: U1, U2. -/
import Derived.Test.YtjpfofmkgdjelaaGreatK12
/- Plain laws: what was taken is laid again; what By hands over. -/
set_option linter.unusedVariables false
set_option linter.unusedSimpArgs false
namespace Go.Proofs.YtjpfofmkgdjelaaGreat
open Go.RowKit
open Go.Proofs.Tryz (prog)

theorem four_num (a b c d : UInt8) : fourB (UInt32.ofNat (numN [a, b, c, d])) = [a, b, c, d] := by
  have ha := a.toNat_lt
  have hb := b.toNat_lt
  have hc := c.toNat_lt
  have hd := d.toNat_lt
  have h : (UInt32.ofNat (numN [a, b, c, d])).toNat = ((a.toNat * 256 + b.toNat) * 256 + c.toNat) * 256 + d.toNat := by
    rw [num4, UInt32.toNat_ofNat']
    omega
  rw [fourB]
  congr 1
  · apply UInt8.toNat_inj.1
    rw [UInt32.toNat_toUInt8, UInt32.toNat_shiftRight, h]
    simp only [Nat.shiftRight_eq_div_pow]
    simp
    omega
  congr 1
  · apply UInt8.toNat_inj.1
    rw [UInt32.toNat_toUInt8, UInt32.toNat_shiftRight, h]
    simp only [Nat.shiftRight_eq_div_pow]
    simp
    omega
  congr 1
  · apply UInt8.toNat_inj.1
    rw [UInt32.toNat_toUInt8, UInt32.toNat_shiftRight, h]
    simp only [Nat.shiftRight_eq_div_pow]
    simp
    omega
  congr 1
  · apply UInt8.toNat_inj.1
    rw [UInt32.toNat_toUInt8, h]
    simp
theorem flagC_back : ∀ n : Nat, n < 32 → flagC (bitB (UInt8.ofNat n) 0) (bitB (UInt8.ofNat n) 1) (bitB (UInt8.ofNat n) 2) (bitB (UInt8.ofNat n) 3) (bitB (UInt8.ofNat n) 4) = UInt8.ofNat n := by decide +kernel
theorem rec_fore : ∀ {x : List UInt8}, x.length = 29 → (atR x 7).toNat ≤ 31 → recB (takeR x 11) = x
  | [x0, x1, x2, x3, x4, x5, x6, x7, x8, x9, x10, x11, x12, x13, x14, x15, x16, x17, x18, x19, x20, x21, x22, x23, x24, x25, x26, x27, x28], _, h => by
    have h7 : flagC (bitB x7 0) (bitB x7 1) (bitB x7 2) (bitB x7 3) (bitB x7 4) = x7 := by
      have := flagC_back x7.toNat (by have : x7.toNat ≤ 31 := h; omega)
      rwa [UInt8.ofNat_toNat] at this
    rw [takeR_eq]
    have e : recB (recRu [x0, x1, x2, x3, x4, x5, x6, x7, x8, x9, x10, x11, x12, x13, x14, x15, x16, x17, x18, x19, x20, x21, x22, x23, x24, x25, x26, x27, x28])
      = fourB (UInt32.ofNat (numN [x0, x1, x2, x3])) ++ ([UInt8.ofNat (numN [x4])] ++ ([UInt8.ofNat (numN [x5])] ++ ([UInt8.ofNat (numN [x6])] ++ ([flagC (bitB x7 0) (bitB x7 1) (bitB x7 2) (bitB x7 3) (bitB x7 4)] ++
        (fourB (UInt32.ofNat (numN [x8, x9, x10, x11])) ++ (fourB (UInt32.ofNat (numN [x12, x13, x14, x15])) ++ (fourB (UInt32.ofNat (numN [x16, x17, x18, x19])) ++ (fourB (UInt32.ofNat (numN [x20, x21, x22, x23])) ++ (fourB (UInt32.ofNat (numN [x24, x25, x26, x27])) ++ ([UInt8.ofNat (numN [x28])] ++ [])))))))))) := rfl
    rw [e, h7]
    simp only [four_num, num_one]
    rfl
theorem recs_fore {b : List UInt8} : ∀ (k : Nat), 29 * k ≤ b.length - 1 → flagsOk b k = true → recsB (rulesN b k) = (b.drop 1).take (29 * k)
  | 0, _, _ => by simp [recsB, rulesN]
  | k + 1, hk, hf => by
    have hf' : flagsOk b k = true ∧ (atR (recAt b k) 7).toNat ≤ 31 := by
      rw [flagsOk, List.range_succ, List.all_append, Bool.and_eq_true] at hf
      exact ⟨hf.1, by simpa using hf.2⟩
    have ih := recs_fore k (by omega) hf'.1
    have hl : (recAt b k).length = 29 := by simp [recAt]; omega
    have e : rulesN b (k + 1) = rulesN b k ++ [takeR (recAt b k) 11] := by simp [rulesN, List.range_succ]
    rw [e, recsB, List.flatMap_append, ← recsB, ih, List.flatMap_cons, List.flatMap_nil, List.append_nil, rec_fore hl hf'.2, recAt, show 29 * (k + 1) = 29 * k + 29 by omega, List.take_add, List.drop_drop]
theorem raw_fore {b : List UInt8} (h : parseOk b = true) : rawPo (parsed b) = b := by
  simp only [parseOk, headOk, Bool.and_eq_true, decide_eq_true_eq] at h
  obtain ⟨⟨⟨h1, h2⟩, h3⟩, h4⟩ := h
  obtain ⟨c, r, rfl⟩ : ∃ c r, b = c :: r := by
    cases b with
    | nil => simp at h1
    | cons c r => exact ⟨c, r, rfl⟩
  have hn : 29 * recN (c :: r) = r.length := by simp only [recN, List.length_cons] at h1 ⊢; omega
  have hb := recs_fore (recN (c :: r)) (by simp; omega) h3
  rw [hn, List.drop_succ_cons, List.drop_zero, List.take_length] at hb
  have hc : c.toNat ≤ 1 := h2
  have hA : atR (c :: r) 0 = c := rfl
  rw [rawPo, parsed]
  simp only [hb, hA]
  have : c = 0 ∨ c = 1 := by
    rcases (by omega : c.toNat = 0 ∨ c.toNat = 1) with h | h
    · exact .inl (UInt8.toNat_inj.1 h)
    · exact .inr (UInt8.toNat_inj.1 h)
  rcases this with rfl | rfl <;> simp
theorem pol_fore {b : List UInt8} (h : errP b = 0) : checkP (polP b) = 0 ∧ rawPo (polP b) = b := by
  have hp : parseOk b = true := by
    cases hh : parseOk b with
    | true => rfl
    | false => simp [errP, hh] at h
  rw [polP, if_pos hp]
  refine ⟨?_, raw_fore hp⟩
  simp only [parseOk, Bool.and_eq_true, decide_eq_true_eq] at hp
  exact hp.2
end Go.Proofs.YtjpfofmkgdjelaaGreat
/- Plain laws: what By hands over. -/
set_option linter.unusedVariables false
set_option linter.unusedSimpArgs false
namespace Go.Proofs.YtjpfofmkgdjelaaGreat
open Go.RowKit
open Go.Proofs.Tryz (prog)

theorem byE_zero {p : Policy} {own : UInt32} {to : Prefix} {a : Attrs} (h : byE p own to a = 0) : checkP p = 0 ∧ prefOk to = true ∧ rightA a = true ∧ own ≠ 0 := by
  unfold byE at h
  split at h
  · cases h
  · rename_i hh
    simp only [not_or] at hh
    exact ⟨h, by simpa using hh.2.1, by simpa using hh.2.2.1, hh.2.2.2⟩
theorem byE_of {p q : Policy} {own : UInt32} {to : Prefix} {a : Attrs} (h : byE p own to a = 0) (hq : checkP q = 0) : byE q own to a = 0 := by
  obtain ⟨_, h2, h3, h4⟩ := byE_zero h
  unfold byE
  rw [if_neg (by simp [hq, h2, h3, h4]), hq]
theorem setR_path (r : Rule) (a : Attrs) : (setR r a).path = a.path := by
  unfold setR setPref
  split <;> split <;> rfl
theorem addA_path {r : Rule} {a : Attrs} (h : addE r a = 0) : (addA r a).path = a.path := by
  unfold addA
  unfold addE at h
  split
  · rename_i ha
    rw [if_pos ha] at h
    unfold tagA
    rw [if_neg (by simp [h])]
    split <;> rfl
  · rfl
theorem hasA_of {l : List Leg} {p : Leg} {y : UInt32} (hp : p ∈ l) (hy : y ∈ p.ns) : hasA l y = true := by
  rw [hasA, List.any_eq_true]
  exact ⟨p, hp, by rw [hasN, List.any_eq_true]; exact ⟨y, hy, by simp⟩⟩
theorem pre_has {l : List Leg} {x : UInt32} {n : Nat} {p : Leg} {y : UInt32} (hp : p ∈ prePath l x n) (hy : y ∈ p.ns) : y = x ∨ hasA l y = true := by
  unfold prePath at hp
  split at hp
  · rename_i ns r
    rcases List.mem_cons.1 hp with rfl | hp
    · rcases List.mem_append.1 hy with hy | hy
      · exact .inl (List.eq_of_mem_replicate hy)
      · exact .inr (hasA_of (p := ⟨false, ns⟩) (by simp) hy)
    · exact .inr (hasA_of (by simp [hp]) hy)
  · rcases List.mem_cons.1 hp with rfl | hp
    · exact .inl (List.eq_of_mem_replicate hy)
    · exact .inr (hasA_of hp hy)
/-- What By hands over is right, and its path's numbers are the asker's or of the path. -/
theorem by_fine {p : Policy} {own : UInt32} {to : Prefix} {a : Attrs} (h : byE p own to a = 0) (hok : byOk p own to a = true) :
    rightA (byA p own to a) = true ∧ ∀ q ∈ (byA p own to a).path, ∀ y ∈ q.ns, y = own ∨ hasA a.path y = true := by
  obtain ⟨_, _, h3, _⟩ := byE_zero h
  unfold byA
  unfold byOk at hok
  cases hf : p.rules.find? (fun r => fits r to a) with
  | none =>
    rw [hf] at hok
    simp only at hok ⊢
    rw [if_pos hok]
    exact ⟨h3, fun q hq y hy => .inr (hasA_of hq hy)⟩
  | some r =>
    rw [hf] at hok
    simp only at hok ⊢
    rw [if_pos hok]
    simp only [passR, Bool.and_eq_true, decide_eq_true_eq] at hok
    have hd := hok.2
    unfold doneE at hd
    refine ⟨(prep_fine hd).2.2.2.1, fun q hq y hy => ?_⟩
    have hpath : (addA r (setR r a)).path = a.path := by rw [addA_path hok.1.2, setR_path]
    unfold doneA prepA at hq
    rw [if_neg (by simp [hd])] at hq
    split at hq
    · rw [hpath] at hq
      exact .inr (hasA_of hq hy)
    · simp only at hq
      rw [hpath] at hq
      exact pre_has hq hy
theorem by_not {p : Policy} {own : UInt32} {to : Prefix} {a : Attrs} (hok : byOk p own to a = false) : byA p own to a = noA := by
  unfold byA
  unfold byOk at hok
  cases hf : p.rules.find? (fun r => fits r to a) with
  | none => rw [hf] at hok; simp only at hok ⊢; rw [if_neg (by simp [hok])]
  | some r => rw [hf] at hok; simp only at hok ⊢; rw [if_neg (by simp [hok])]
/-- What stands behind the rule that fits tells nothing. -/
theorem by_other {p : Policy} {own : UInt32} {to : Prefix} {a : Attrs} {i : Nat} {more : List Rule} {e : Bool} (hi : i < p.rules.length) (hfit : fits p.rules[i] to a = true) :
    byOk ⟨p.rules.take (i + 1) ++ more, e⟩ own to a = byOk p own to a ∧ byA ⟨p.rules.take (i + 1) ++ more, e⟩ own to a = byA p own to a := by
  obtain ⟨r, hr⟩ : ∃ r, (p.rules.take (i + 1)).find? (fun r => fits r to a) = some r := by
    cases hh : (p.rules.take (i + 1)).find? (fun r => fits r to a) with
    | some r => exact ⟨r, rfl⟩
    | none =>
      rw [List.find?_eq_none] at hh
      exact absurd hfit (hh p.rules[i] (List.mem_take_iff_getElem.2 ⟨i, by omega, rfl⟩))
  have h1 : (p.rules.take (i + 1) ++ more).find? (fun r => fits r to a) = some r := by rw [List.find?_append, hr]; rfl
  have h2 : p.rules.find? (fun r => fits r to a) = some r := by
    have : p.rules = p.rules.take (i + 1) ++ p.rules.drop (i + 1) := (List.take_append_drop _ _).symm
    rw [this, List.find?_append, hr]
    rfl
  unfold byOk byA
  rw [h2]
  simp only [h1]
  exact ⟨trivial, trivial⟩
end Go.Proofs.YtjpfofmkgdjelaaGreat
