/- Joined: T5, T6, T7. -/
import Derived.Test.YtjpfofmkgdjelaaGreatK9
import Derived.Test.YtjpfofmkgdjelaaGreatK6
/- Contracts: policy.Raw; the reference's Raw. -/
set_option linter.unusedVariables false
set_option linter.unusedSimpArgs false
namespace Go.Proofs.YtjpfofmkgdjelaaGreat
open Go.RowKit
open Go.Proofs.Tryz (prog)
attribute [local irreducible] CallV RoundV aggK

def rawB23 (p : Policy) : List UInt8 := if checkP p = 0 then rawPo p else []
theorem rawPo_len (p : Policy) : (rawPo p).length = 29 * p.rules.length + 1 := by rw [rawPo, List.length_cons, recsB_len]
def encR23 (fr : Bool) (b : List UInt8) (e : Int) : V := .tup [encB fr b, .int .i64 e]
set_option maxRecDepth 100000 in
set_option maxHeartbeats 4000000 in
theorem raw23_ok (fr : Bool) (p : Policy) (hl : p.rules.length ≤ 1000) : PCon prog 27 [encPo fr p] (encR23 true (rawB23 p) (checkP p)) := by
  refine callV_of (fn := Go.Proofs.Tryz.f27) (body := _) tab_ok mixed rfl rfl (by decide) (by simp [Go.Proofs.Tryz.f27]) ?_
  (conv => whnf)
  refine callV_pure (check23_ok fr p) ⟨.free (encPo_free _ _), trivial⟩ ?_
  (conv => whnf)
  split
  · rename_i h
    have h : checkP p ≠ 0 := by simpa using h
    (conv => whnf)
    rw [rawB23, if_neg h]
    exact Ends.pure [] (.tupL ⟨.snil_sl, .fr rfl, trivial⟩) (by simp)
  rename_i h
  have h : checkP p = 0 := by simpa using h
  rw [rawB23, if_pos h, h]
  have hn := recsB_len p.rules
  (conv => whnf)
  split
  all_goals
    rename_i he
    (conv => whnf)
    refine callV_pure (laid_ok fr p.rules hl) ⟨.free (encRus_free _ _), trivial⟩ ?_
    (conv => whnf)
    refine ⟨⟨rfl, rfl, rfl, rfl, by decide⟩, by simp, ⟨by simp [tab, tabOf, nth]; omega, by simp; omega⟩, ?_⟩
    (conv => whnf)
    exact Ends.pure [2] (.tupL ⟨LeV.freezeE (ys := rowsB (rawPo p)) (by simp) rfl (by simp [rowsB, rawPo]; try omega) (by rw [List.drop_zero, List.take_of_length_le (by simp; try omega)]; simp [rawPo, rowsB, he]) (rowsB_free _), .fr rfl, trivial⟩) (one_none rfl)
set_option maxRecDepth 100000 in
theorem rfour_ok (x : UInt32) : PCon prog 51 [cW x] (encB true (fourB x)) := by
  refine callV_of (fn := Go.Proofs.Tryz.f51) (body := _) tab_ok mixed rfl rfl (by decide) (by simp [Go.Proofs.Tryz.f51]) ?_
  (conv => whnf)
  refine ⟨by decide, ?_⟩
  (conv => whnf)
  refine ⟨by decide, ?_⟩
  (conv => whnf)
  refine ⟨by decide, ?_⟩
  (conv => whnf)
  refine ⟨by decide, ?_⟩
  (conv => whnf)
  refine ⟨by decide, ?_⟩
  (conv => whnf)
  refine ⟨by decide, ?_⟩
  (conv => whnf)
  have hx := x.toNat_lt
  refine Ends.pure [0] (LeV.freeze_of (by simp) rfl (by simp) ?_ ?_) ?_
  · intro r hr v hv
    simp at hr
    rcases hr with rfl | rfl | rfl | rfl <;> (simp at hv; subst hv; exact .int)
  · have e : ∀ (n : Nat), ((x.toNat : Int).tdiv n) = ((x.toNat / n : Nat) : Int) := fun n => by rw [Int.tdiv_eq_ediv_of_nonneg (by omega)]; rfl
    have e2 : ∀ (n m : Nat), (((n : Nat) : Int).tmod (m : Nat)) = ((n % m : Nat) : Int) := fun n m => by rw [Int.tmod_eq_emod_of_nonneg (by omega)]; rfl
    have w : ∀ (n : Nat), n < 4294967296 → IntKind.u32.wrap (n : Int) = n := fun n hn => by rw [wrap32]; omega
    have e1 := e 16777216
    have e3 := e 65536
    have e4 := e 256
    simp only [Int.cast_ofNat_Int] at e1 e3 e4
    have d1 := w (x.toNat / 16777216) (by omega)
    have d2 := w (x.toNat / 65536) (by omega)
    have d3 := w (x.toNat / 256) (by omega)
    have m1 := e2 (x.toNat / 65536) 256
    have m2 := e2 (x.toNat / 256) 256
    have m3 := e2 x.toNat 256
    simp only [Int.cast_ofNat_Int] at m1 m2 m3
    rw [e1, e3, e4, d1, d2, d3, m1, m2, m3]
    simp [fourB, wrap8, UInt32.toNat_shiftRight, Nat.shiftRight_eq_div_pow]
  · intro z hz
    obtain rfl := List.mem_singleton.1 hz
    exact ne_none_of rfl
theorem or_add : ∀ k < 5, ∀ n < 2 ^ k, (UInt8.ofNat n ||| (1 <<< k.toUInt8)).toNat = n + 2 ^ k := by decide +kernel
theorem flagB_lt (r : Rule) : ∀ k, k ≤ 5 → (flagB r k).toNat < 2 ^ k
  | 0, _ => by show (0 : UInt8).toNat < 2 ^ 0; decide
  | k + 1, hk => by
    have ih := flagB_lt r k (by omega)
    rw [flagB]
    have h2 : 2 ^ (k + 1) = 2 * 2 ^ k := by rw [Nat.pow_succ]; omega
    split
    · have := or_add k (by omega) _ ih
      rw [UInt8.ofNat_toNat] at this
      omega
    · omega
theorem flag_add {r : Rule} {k : Nat} (hk : k < 5) (h : flag r k = true) : (flagB r (k + 1)).toNat = (flagB r k).toNat + 2 ^ k := by
  have := or_add k hk _ (flagB_lt r k (by omega))
  rw [UInt8.ofNat_toNat] at this
  rw [flagB, if_pos h, this]
theorem flag_not {r : Rule} {k : Nat} (h : flag r k = false) : flagB r (k + 1) = flagB r k := by
  rw [flagB, if_neg (by simp [h])]
theorem flag_int {r : Rule} {k : Nat} {m : Int} (hk : k < 5) (h : flag r k = true) (hm : m = ((2 ^ k : Nat) : Int)) : IntKind.i64.wrap (((flagB r k).toNat : Int) + m) = ((flagB r (k + 1)).toNat : Int) := by
  have h1 := flagB_lt r k (by omega)
  have h2 : 2 ^ k ≤ 2 ^ 4 := Nat.pow_le_pow_right (by decide) (by omega)
  have h3 : (2 : Nat) ^ 4 = 16 := by decide
  rw [flag_add hk h, hm, wrap64 (by omega) (by omega)]
  omega
def flagRows (r : Rule) : List (List V) := [[.bool (flag r 0)], [.bool (flag r 1)], [.bool (flag r 2)], [.bool (flag r 3)], [.bool (flag r 4)]]
instance {r} : FreeRI (flagRows r) := ⟨⟨by
  intro x hx v hv
  simp only [flagRows, List.mem_cons, List.not_mem_nil, or_false] at hx
  rcases hx with rfl | rfl | rfl | rfl | rfl <;> (simp at hv; subst hv; exact .bool)⟩⟩
set_option maxRecDepth 100000 in
set_option maxHeartbeats 4000000 in
theorem rbits_ok (r : Rule) : PCon prog 52 [encRu r] (cB (flagB r 5)) := by
  refine callV_of (fn := Go.Proofs.Tryz.f52) (body := _) tab_ok mixed rfl rfl (by decide) (by simp [Go.Proofs.Tryz.f52]) ?_
  (conv => whnf)
  refine vcg_loop tab_ok mixed (fun k : {k : Nat // k ≤ 5} => ⟨[(3, .osl 1 1 0 5), (4, cI (flagB r k.1).toNat), (5, .int .i64 ((2 ^ k.1 : Nat) : Int)), (6, cI k.1)], [(1, some (.arr true true 4 1 (flagRows r)))], 2⟩) (fun k => 5 - k.1) ⟨0, by omega⟩ (Wk.i (by repeat' (first | exact True.intro | exact id | exact rfl | decide | exact Nat.le_of_ble_eq_true rfl | exact .int_of rfl | exact .ptr rfl (by omega) | exact .osl_of rfl (by omega) rfl | exact .fr rfl | exact LeL.fr rfl | exact .yld rfl (by omega) | exact .eptr rfl (by omega) | exact .osl0 | exact .snil_sl | exact .to_any | exact LeV.nineA | exact LeV.noA | exact LeB.fr rfl id id | exact LeB.fr (by simp; done) id id | refine Or.inl ⟨by simp, _, rfl, ?_⟩ | exact Or.inr ⟨by simp, _, _, _, _, rfl⟩ | refine ⟨rfl, rfl, rfl, rfl, rfl, rfl, ?_⟩ | refine ⟨?_, ?_⟩)) (by omega)) (fun k => ?_)
  obtain ⟨k, hk⟩ := k
  rcases k with _ | _ | _ | _ | _ | _ | k
  case succ.succ.succ.succ.succ.succ => omega
  case succ.succ.succ.succ.succ.zero =>
    (conv => whnf)
    refine Ends.pure [] (.int_of ?_) (by simp)
    have := (flagB r 5).toNat_lt
    show IntKind.u8.wrap ((flagB r 5).toNat : Int) = ((flagB r 5).toNat : Int)
    rw [wrap8]
    omega
  · (conv => whnf)
    refine ⟨rfl, ⟨by simp, by simp⟩, ?_⟩
    (conv => whnf)
    refine ⟨rfl, _, rfl, ?_⟩
    (conv => whnf)
    split
    · rename_i h
      (conv => whnf)
      exact ⟨⟨1, by omega⟩, (Wk.i (by repeat' (first | exact True.intro | exact id | exact rfl | decide | exact Nat.le_of_ble_eq_true rfl | exact .int_of (flag_int (r := r) (k := 0) (by decide) h rfl) | exact .int_of (by simp [wrap64']) | exact .ptr rfl (by omega) | exact .osl_of rfl (by omega) rfl | exact .fr rfl | exact LeL.fr rfl | exact .yld rfl (by omega) | exact .eptr rfl (by omega) | exact .osl0 | exact .snil_sl | exact .to_any | exact LeV.nineA | exact LeV.noA | exact LeB.fr rfl id id | exact LeB.fr (by simp; done) id id | refine Or.inl ⟨by simp, _, rfl, ?_⟩ | exact Or.inr ⟨by simp, _, _, _, _, rfl⟩ | refine ⟨rfl, rfl, rfl, rfl, rfl, rfl, ?_⟩ | refine ⟨?_, ?_⟩)) (by omega)), by simp⟩
    · rename_i h
      (conv => whnf)
      exact ⟨⟨1, by omega⟩, (Wk.i (by repeat' (first | exact True.intro | exact id | exact rfl | decide | exact Nat.le_of_ble_eq_true rfl | exact .int_of (flag_keep (r := r) (k := 0) h) | exact .int_of (by simp [wrap64']) | exact .ptr rfl (by omega) | exact .osl_of rfl (by omega) rfl | exact .fr rfl | exact LeL.fr rfl | exact .yld rfl (by omega) | exact .eptr rfl (by omega) | exact .osl0 | exact .snil_sl | exact .to_any | exact LeV.nineA | exact LeV.noA | exact LeB.fr rfl id id | exact LeB.fr (by simp; done) id id | refine Or.inl ⟨by simp, _, rfl, ?_⟩ | exact Or.inr ⟨by simp, _, _, _, _, rfl⟩ | refine ⟨rfl, rfl, rfl, rfl, rfl, rfl, ?_⟩ | refine ⟨?_, ?_⟩)) (by omega)), by simp⟩
  · (conv => whnf)
    refine ⟨rfl, ⟨by simp, by simp⟩, ?_⟩
    (conv => whnf)
    refine ⟨rfl, _, rfl, ?_⟩
    (conv => whnf)
    split
    · rename_i h
      (conv => whnf)
      exact ⟨⟨2, by omega⟩, (Wk.i (by repeat' (first | exact True.intro | exact id | exact rfl | decide | exact Nat.le_of_ble_eq_true rfl | exact .int_of (flag_int (r := r) (k := 1) (by decide) h rfl) | exact .int_of (by simp [wrap64']) | exact .ptr rfl (by omega) | exact .osl_of rfl (by omega) rfl | exact .fr rfl | exact LeL.fr rfl | exact .yld rfl (by omega) | exact .eptr rfl (by omega) | exact .osl0 | exact .snil_sl | exact .to_any | exact LeV.nineA | exact LeV.noA | exact LeB.fr rfl id id | exact LeB.fr (by simp; done) id id | refine Or.inl ⟨by simp, _, rfl, ?_⟩ | exact Or.inr ⟨by simp, _, _, _, _, rfl⟩ | refine ⟨rfl, rfl, rfl, rfl, rfl, rfl, ?_⟩ | refine ⟨?_, ?_⟩)) (by omega)), by simp⟩
    · rename_i h
      (conv => whnf)
      exact ⟨⟨2, by omega⟩, (Wk.i (by repeat' (first | exact True.intro | exact id | exact rfl | decide | exact Nat.le_of_ble_eq_true rfl | exact .int_of (flag_keep (r := r) (k := 1) h) | exact .int_of (by simp [wrap64']) | exact .ptr rfl (by omega) | exact .osl_of rfl (by omega) rfl | exact .fr rfl | exact LeL.fr rfl | exact .yld rfl (by omega) | exact .eptr rfl (by omega) | exact .osl0 | exact .snil_sl | exact .to_any | exact LeV.nineA | exact LeV.noA | exact LeB.fr rfl id id | exact LeB.fr (by simp; done) id id | refine Or.inl ⟨by simp, _, rfl, ?_⟩ | exact Or.inr ⟨by simp, _, _, _, _, rfl⟩ | refine ⟨rfl, rfl, rfl, rfl, rfl, rfl, ?_⟩ | refine ⟨?_, ?_⟩)) (by omega)), by simp⟩
  · (conv => whnf)
    refine ⟨rfl, ⟨by simp, by simp⟩, ?_⟩
    (conv => whnf)
    refine ⟨rfl, _, rfl, ?_⟩
    (conv => whnf)
    split
    · rename_i h
      (conv => whnf)
      exact ⟨⟨3, by omega⟩, (Wk.i (by repeat' (first | exact True.intro | exact id | exact rfl | decide | exact Nat.le_of_ble_eq_true rfl | exact .int_of (flag_int (r := r) (k := 2) (by decide) h rfl) | exact .int_of (by simp [wrap64']) | exact .ptr rfl (by omega) | exact .osl_of rfl (by omega) rfl | exact .fr rfl | exact LeL.fr rfl | exact .yld rfl (by omega) | exact .eptr rfl (by omega) | exact .osl0 | exact .snil_sl | exact .to_any | exact LeV.nineA | exact LeV.noA | exact LeB.fr rfl id id | exact LeB.fr (by simp; done) id id | refine Or.inl ⟨by simp, _, rfl, ?_⟩ | exact Or.inr ⟨by simp, _, _, _, _, rfl⟩ | refine ⟨rfl, rfl, rfl, rfl, rfl, rfl, ?_⟩ | refine ⟨?_, ?_⟩)) (by omega)), by simp⟩
    · rename_i h
      (conv => whnf)
      exact ⟨⟨3, by omega⟩, (Wk.i (by repeat' (first | exact True.intro | exact id | exact rfl | decide | exact Nat.le_of_ble_eq_true rfl | exact .int_of (flag_keep (r := r) (k := 2) h) | exact .int_of (by simp [wrap64']) | exact .ptr rfl (by omega) | exact .osl_of rfl (by omega) rfl | exact .fr rfl | exact LeL.fr rfl | exact .yld rfl (by omega) | exact .eptr rfl (by omega) | exact .osl0 | exact .snil_sl | exact .to_any | exact LeV.nineA | exact LeV.noA | exact LeB.fr rfl id id | exact LeB.fr (by simp; done) id id | refine Or.inl ⟨by simp, _, rfl, ?_⟩ | exact Or.inr ⟨by simp, _, _, _, _, rfl⟩ | refine ⟨rfl, rfl, rfl, rfl, rfl, rfl, ?_⟩ | refine ⟨?_, ?_⟩)) (by omega)), by simp⟩
  · (conv => whnf)
    refine ⟨rfl, ⟨by simp, by simp⟩, ?_⟩
    (conv => whnf)
    refine ⟨rfl, _, rfl, ?_⟩
    (conv => whnf)
    split
    · rename_i h
      (conv => whnf)
      exact ⟨⟨4, by omega⟩, (Wk.i (by repeat' (first | exact True.intro | exact id | exact rfl | decide | exact Nat.le_of_ble_eq_true rfl | exact .int_of (flag_int (r := r) (k := 3) (by decide) h rfl) | exact .int_of (by simp [wrap64']) | exact .ptr rfl (by omega) | exact .osl_of rfl (by omega) rfl | exact .fr rfl | exact LeL.fr rfl | exact .yld rfl (by omega) | exact .eptr rfl (by omega) | exact .osl0 | exact .snil_sl | exact .to_any | exact LeV.nineA | exact LeV.noA | exact LeB.fr rfl id id | exact LeB.fr (by simp; done) id id | refine Or.inl ⟨by simp, _, rfl, ?_⟩ | exact Or.inr ⟨by simp, _, _, _, _, rfl⟩ | refine ⟨rfl, rfl, rfl, rfl, rfl, rfl, ?_⟩ | refine ⟨?_, ?_⟩)) (by omega)), by simp⟩
    · rename_i h
      (conv => whnf)
      exact ⟨⟨4, by omega⟩, (Wk.i (by repeat' (first | exact True.intro | exact id | exact rfl | decide | exact Nat.le_of_ble_eq_true rfl | exact .int_of (flag_keep (r := r) (k := 3) h) | exact .int_of (by simp [wrap64']) | exact .ptr rfl (by omega) | exact .osl_of rfl (by omega) rfl | exact .fr rfl | exact LeL.fr rfl | exact .yld rfl (by omega) | exact .eptr rfl (by omega) | exact .osl0 | exact .snil_sl | exact .to_any | exact LeV.nineA | exact LeV.noA | exact LeB.fr rfl id id | exact LeB.fr (by simp; done) id id | refine Or.inl ⟨by simp, _, rfl, ?_⟩ | exact Or.inr ⟨by simp, _, _, _, _, rfl⟩ | refine ⟨rfl, rfl, rfl, rfl, rfl, rfl, ?_⟩ | refine ⟨?_, ?_⟩)) (by omega)), by simp⟩
  · (conv => whnf)
    refine ⟨rfl, ⟨by simp, by simp⟩, ?_⟩
    (conv => whnf)
    refine ⟨rfl, _, rfl, ?_⟩
    (conv => whnf)
    split
    · rename_i h
      (conv => whnf)
      exact ⟨⟨5, by omega⟩, (Wk.i (by repeat' (first | exact True.intro | exact id | exact rfl | decide | exact Nat.le_of_ble_eq_true rfl | exact .int_of (flag_int (r := r) (k := 4) (by decide) h rfl) | exact .int_of (by simp [wrap64']) | exact .ptr rfl (by omega) | exact .osl_of rfl (by omega) rfl | exact .fr rfl | exact LeL.fr rfl | exact .yld rfl (by omega) | exact .eptr rfl (by omega) | exact .osl0 | exact .snil_sl | exact .to_any | exact LeV.nineA | exact LeV.noA | exact LeB.fr rfl id id | exact LeB.fr (by simp; done) id id | refine Or.inl ⟨by simp, _, rfl, ?_⟩ | exact Or.inr ⟨by simp, _, _, _, _, rfl⟩ | refine ⟨rfl, rfl, rfl, rfl, rfl, rfl, ?_⟩ | refine ⟨?_, ?_⟩)) (by omega)), by simp⟩
    · rename_i h
      (conv => whnf)
      exact ⟨⟨5, by omega⟩, (Wk.i (by repeat' (first | exact True.intro | exact id | exact rfl | decide | exact Nat.le_of_ble_eq_true rfl | exact .int_of (flag_keep (r := r) (k := 4) h) | exact .int_of (by simp [wrap64']) | exact .ptr rfl (by omega) | exact .osl_of rfl (by omega) rfl | exact .fr rfl | exact LeL.fr rfl | exact .yld rfl (by omega) | exact .eptr rfl (by omega) | exact .osl0 | exact .snil_sl | exact .to_any | exact LeV.nineA | exact LeV.noA | exact LeB.fr rfl id id | exact LeB.fr (by simp; done) id id | refine Or.inl ⟨by simp, _, rfl, ?_⟩ | exact Or.inr ⟨by simp, _, _, _, _, rfl⟩ | refine ⟨rfl, rfl, rfl, rfl, rfl, rfl, ?_⟩ | refine ⟨?_, ?_⟩)) (by omega)), by simp⟩
set_option maxRecDepth 100000 in
set_option maxHeartbeats 16000000 in
theorem rraw23_own (fr : Bool) (p : Policy) (hl : p.rules.length ≤ 1000) : OCon prog 23 [encPo fr p] true false 5 1 (rawPo p).length (rowsB (rawPo p)) := by
  refine callV_of (fn := Go.Proofs.Tryz.f23) (body := _) tab_ok mixed rfl rfl (by decide) (by simp [Go.Proofs.Tryz.f23]) ?_
  (conv => whnf)
  split
  case' h_1 => rename_i he; (conv => whnf); refine ⟨rfl, ⟨by simp, by simp⟩, ?_⟩; (conv => whnf); refine ⟨rfl, _, rfl, ?_⟩
  case' h_2 => rename_i he
  all_goals
    (conv => whnf)
    refine vcg_loop tab_ok mixed (fun i : {i : Nat // i ≤ p.rules.length} => ⟨[(1, .ptr 0 0), (3, .osl 1 1 0 (1 + 29 * i.1)), (4, cI i.1)], [(0, some (.var true 29 (cellsPo fr p))), (1, some (.arr true false 5 1 (rowsB ((if p.els then 1 else 0) :: recsB (p.rules.take i.1)))))], 2⟩) (fun i => p.rules.length - i.1) ⟨0, by omega⟩ (Wk.i (by repeat' (first | exact True.intro | exact id | exact rfl | decide | exact Nat.le_of_ble_eq_true rfl | exact LeB.fr (by simp [rowsB, recsB, he]) (fun h => h) (fun h => by cases h) | exact .ptr rfl (by omega) | exact .osl_of rfl (by omega) rfl | exact .fr rfl | exact LeL.fr rfl | exact .yld rfl (by omega) | exact .eptr rfl (by omega) | exact .osl0 | exact .snil_sl | exact .to_any | exact LeV.nineA | exact LeV.noA | exact LeB.fr rfl id id | exact LeB.fr (by simp; done) id id | refine Or.inl ⟨by simp, _, rfl, ?_⟩ | exact Or.inr ⟨by simp, _, _, _, _, rfl⟩ | refine ⟨rfl, rfl, rfl, rfl, rfl, rfl, ?_⟩ | refine ⟨?_, ?_⟩)) (by omega)) (fun i => ?_)
    obtain ⟨i, hi⟩ := i
    have hlen : (recsB (p.rules.take i)).length = 29 * i := by rw [recsB_len, List.length_take, Nat.min_eq_left hi]
    (conv => whnf)
    intro _
    (conv => whnf)
    split
    · rename_i hc
      have hc : i < p.rules.length := by simpa using hc
      (conv => whnf)
      refine ⟨rfl, _, ⟨by first | omega | (simp only; omega), idxRu hc⟩, ?_⟩
      (conv => whnf)
      refine ⟨_, [], fun h nx _ => pureV_pure (rfour_ok _) ⟨.int_of rfl, trivial⟩, by simp, ?_⟩
      (conv => whnf)
      refine ⟨⟨rfl, rfl, rfl, rfl, by decide⟩, by simp [rowsB, hlen, fourB_len]; try omega, ⟨by simp [tab, tabOf, nth, fourB_len]; omega, by simp [fourB_len]; omega⟩, ?_⟩
      (conv => whnf)
      have hbit := rbits_ok (p.rules[i]'hc)
      refine ⟨_, [], fun h nx _ => pureV_pure hbit ⟨.free (encRu_free _), trivial⟩, by simp, ?_⟩
      (conv => whnf)
      refine ⟨rfl, by simp, ⟨rfl, rfl, rfl, rfl, by decide⟩, by simp [rowsB, hlen, fourB_len]; try omega, ⟨by simp [tab, tabOf, nth, fourB_len]; omega, by simp [fourB_len]; omega⟩, ?_⟩
      (conv => whnf)
      refine ⟨by kernel_rfl, ?_⟩
      (conv => whnf)
      refine ⟨_, [], fun h nx _ => pureV_pure (rfour_ok _) ⟨.int_of rfl, trivial⟩, by simp, ?_⟩
      (conv => whnf)
      refine ⟨⟨rfl, rfl, rfl, rfl, by decide⟩, by simp [rowsB, hlen, fourB_len]; try omega, ⟨by simp [tab, tabOf, nth, fourB_len]; omega, by simp [fourB_len]; omega⟩, ?_⟩
      (conv => whnf)
      refine ⟨_, [], fun h nx _ => pureV_pure (rfour_ok _) ⟨.int_of rfl, trivial⟩, by simp, ?_⟩
      (conv => whnf)
      refine ⟨⟨rfl, rfl, rfl, rfl, by decide⟩, by simp [rowsB, hlen, fourB_len]; try omega, ⟨by simp [tab, tabOf, nth, fourB_len]; omega, by simp [fourB_len]; omega⟩, ?_⟩
      (conv => whnf)
      refine ⟨by kernel_rfl, ?_⟩
      (conv => whnf)
      refine ⟨_, [], fun h nx _ => pureV_pure (rfour_ok _) ⟨.int_of rfl, trivial⟩, by simp, ?_⟩
      (conv => whnf)
      refine ⟨⟨rfl, rfl, rfl, rfl, by decide⟩, by simp [rowsB, hlen, fourB_len]; try omega, ⟨by simp [tab, tabOf, nth, fourB_len]; omega, by simp [fourB_len]; omega⟩, ?_⟩
      (conv => whnf)
      refine ⟨_, [], fun h nx _ => pureV_pure (rfour_ok _) ⟨.int_of rfl, trivial⟩, by simp, ?_⟩
      (conv => whnf)
      refine ⟨⟨rfl, rfl, rfl, rfl, by decide⟩, by simp [rowsB, hlen, fourB_len]; try omega, ⟨by simp [tab, tabOf, nth, fourB_len]; omega, by simp [fourB_len]; omega⟩, ?_⟩
      (conv => whnf)
      refine ⟨_, [], fun h nx _ => pureV_pure (rfour_ok _) ⟨.int_of rfl, trivial⟩, by simp, ?_⟩
      (conv => whnf)
      refine ⟨⟨rfl, rfl, rfl, rfl, by decide⟩, by simp [rowsB, hlen, fourB_len]; try omega, ⟨by simp [tab, tabOf, nth, fourB_len]; omega, by simp [fourB_len]; omega⟩, ?_⟩
      (conv => whnf)
      refine ⟨by kernel_rfl, ?_⟩
      (conv => whnf)
      refine ⟨rfl, by simp, ⟨rfl, rfl, rfl, rfl, by decide⟩, by simp [rowsB, hlen, fourB_len]; try omega, ⟨by simp [tab, tabOf, nth, fourB_len]; omega, by simp [fourB_len]; omega⟩, ?_⟩
      (conv => whnf)
      exact ⟨⟨i + 1, by omega⟩, (Wk.all (renOf [(1, 12)]) [] (by repeat' (first | exact True.intro | exact id | exact rfl | decide | exact Nat.le_of_ble_eq_true rfl | exact .osl_of rfl (by omega) (by simp [fourB_len]; omega) | exact .int_of (wrap64_succ hc (by unfold maxLen; omega)) | exact LeB.fr (by simp (disch := (simp [fourB_len, hlen, rowsB] <;> omega)) only [rowsB, List.take_of_length_le, List.length_map, fourB_len, List.drop_zero]; simp [recsB_succ hc, recB, partBs]) id id | exact .ptr rfl (by omega) | exact .osl_of rfl (by omega) rfl | exact .fr rfl | exact LeL.fr rfl | exact .yld rfl (by omega) | exact .eptr rfl (by omega) | exact .osl0 | exact .snil_sl | exact .to_any | exact LeV.nineA | exact LeV.noA | exact LeB.fr rfl id id | exact LeB.fr (by simp; done) id id | refine Or.inl ⟨by simp, _, rfl, ?_⟩ | exact Or.inr ⟨by simp, _, _, _, _, rfl⟩ | refine ⟨rfl, rfl, rfl, rfl, rfl, rfl, ?_⟩ | refine ⟨?_, ?_⟩)) (show ∀ b ∈ ([0,1] : List Nat), ∀ b' ∈ ([0,1] : List Nat), (renOf [(1, 12)]) b = (renOf [(1, 12)]) b' → b = b' by decide) (fun _ h => by omega) (by omega) (by simp)), by simp only; omega⟩
    · rename_i hc
      have hc : i = p.rules.length := by simp at hc; omega
      subst hc
      rw [List.take_length] at hlen
      (conv => whnf)
      exact own1 (bs := rawPo p) rfl (by simp [rawPo]) (by simp [rawPo, hlen]; omega)
end Go.Proofs.YtjpfofmkgdjelaaGreat
/- Contract: policy.Parse. -/
set_option linter.unusedVariables false
set_option linter.unusedSimpArgs false
namespace Go.Proofs.YtjpfofmkgdjelaaGreat
open Go.RowKit
open Go.Proofs.Tryz (prog)
attribute [local irreducible] CallV RoundV aggK

/-- Byte j of a record. -/
def atR (x : List UInt8) (j : Nat) : UInt8 := x.getD j 0
def wordR (x : List UInt8) (j : Nat) : UInt32 := UInt32.ofNat (numN ((x.drop j).take 4))
def zeroRu : Rule := ⟨⟨0, 0⟩, 0, 0, false, 0, 0, false, false, false, false, 0, 0, 0, 0⟩
def takeStep (x : List UInt8) (r : Rule) : Nat → Rule
  | 0 => rsAddr r (UInt32.ofNat (numN ((x.drop 0).take 4)))
  | 1 => rsLen r (UInt8.ofNat (numN ((x.drop 4).take 1)))
  | 2 => rsLeast r (UInt8.ofNat (numN ((x.drop 5).take 1)))
  | 3 => rsMost r (UInt8.ofNat (numN ((x.drop 6).take 1)))
  | 4 => rsFlags r (atR x 7) 5
  | 5 => rsTag r (UInt32.ofNat (numN ((x.drop 8).take 4)))
  | 6 => rsSys r (UInt32.ofNat (numN ((x.drop 12).take 4)))
  | 7 => rsPref r (UInt32.ofNat (numN ((x.drop 16).take 4)))
  | 8 => rsMed r (UInt32.ofNat (numN ((x.drop 20).take 4)))
  | 9 => rsAdd r (UInt32.ofNat (numN ((x.drop 24).take 4)))
  | _ => rsTimes r (UInt8.ofNat (numN ((x.drop 28).take 1)))
/-- A rule, taken as far as part k. -/
def takeR (x : List UInt8) : Nat → Rule
  | 0 => zeroRu
  | k + 1 => takeStep x (takeR x k) k
def offR : Nat → Nat
  | 0 => 0 | 1 => 4 | 2 => 5 | 3 => 6 | 4 => 7 | 5 => 8 | 6 => 12 | 7 => 16 | 8 => 20 | 9 => 24 | 10 => 28 | _ => 29
/-- The records of bytes. -/
def recAt (b : List UInt8) (i : Nat) : List UInt8 := (b.drop (1 + 29 * i)).take 29
def recN (b : List UInt8) : Nat := (b.length - 1) / 29
def rulesN (b : List UInt8) (k : Nat) : List Rule := (List.range k).map fun i => takeR (recAt b i) 11
def parsed (b : List UInt8) : Policy := ⟨rulesN b (recN b), atR b 0 == 1⟩
def flagsOk (b : List UInt8) (k : Nat) : Bool := (List.range k).all fun i => decide ((atR (recAt b i) 7).toNat ≤ 31)
def headOk (b : List UInt8) : Bool := decide (b.length % 29 = 1) && decide ((atR b 0).toNat ≤ 1)
def parseOk (b : List UInt8) : Bool := headOk b && flagsOk b (recN b) && decide (checkP (parsed b) = 0)
def parseV (fr : Bool) (b : List UInt8) : V := if parseOk b then .tup [encPo fr (parsed b), .int .i64 0] else .tup [encPo fr noPo, .int .i64 330]
theorem one7 {x : List UInt8} (h : x.length = 29) : (x.drop 7).take 1 = [atR x 7] := by
  rw [List.drop_eq_getElem_cons (by omega), List.take_succ_cons, List.take_zero]
  simp [atR, List.getD_eq_getElem?_getD, show 7 < x.length by omega]
theorem callV_take {f : FuncId} {args args0 : List V} {r r' : Rule} {h : Heap} {nx b : Nat} {K : V → Heap → Nat → Prop}
    (hc : CallV prog f args0 [(0, some (.var true 26 (cellsRu r)))] 1 (fun v' h' nx' => v' = .tup [] ∧ h' = [(0, some (.var true 26 (cellsRu r')))] ∧ nx' = 1))
    (hb : hget h b = some (.var true 26 (cellsRu r))) (ha : LeL h nx (fun _ => b) 1 [] args args0) (hK : K (.tup []) ((b, some (.var true 26 (cellsRu r'))) :: h) nx) : CallV prog f args h nx K := by
  refine callV_ptr (R := fun v' c => v' = .tup [] ∧ c = cellsRu r') (hc.mono fun v' h' nx' e => ⟨cellsRu r', ⟨e.1, rfl⟩, e.2.1, e.2.2⟩) hb (cellsRu_free r) ha fun v' c' e => ?_
  obtain ⟨rfl, rfl⟩ := e
  exact ⟨.tup (by simp), cellsRu_free _, hK⟩
theorem roundV_eq {P : Program} {T : Tab} {N : Nat} (hT : TabOk P T) (hm : P.follows .mixedOrders = true) {b nx : Nat} {t : List (Nat × V)} {ps : List Nat} {asg body asg0 body0 : Code} {args : List V} {h : Heap} {K : V → Heap → Nat → Prop} (ea : asg = asg0) (eb : body = body0)
    (h1 : args.length = ps.length) (h2 : ∀ p ∈ ps, p < N) (h3 : b < nx)
    (hv : vcg P T N nx true asg0 ⟨zipPs ps args t, h, nx⟩ (fun e s1 => match e with
      | .normal => hget s1.h b = some (.loop N t ps asg body .ready none) ∧ vcg P T N nx true body0 ⟨s1.t, (b, some (.loop N t ps asg body .busy none)) :: s1.h, s1.nx⟩ (fun e2 s2 => hget s2.h b = some (.loop N t ps asg body .busy none) ∧
          match e2 with
          | .normal => K (.bool true) ((b, some (.loop N t ps asg body .ready none)) :: s2.h) s2.nx
          | e2 => K (.bool false) ((b, some (.loop N t ps asg body .done (some e2.code))) :: s2.h) s2.nx)
      | _ => False)) : RoundV P N b t ps asg body args h nx K := by
  subst ea eb
  exact roundV_of hT hm h1 h2 h3 hv
theorem flags_bad {b : List UInt8} {k n : Nat} (hk : k < n) (h : 31 < (atR (recAt b k) 7).toNat) : flagsOk b n = false := by
  rw [flagsOk, List.all_eq_false]
  exact ⟨k, by simp [hk], by simp; exact h⟩
theorem flags_succ {b : List UInt8} {k : Nat} (hf : flagsOk b k = true) (h : (atR (recAt b k) 7).toNat ≤ 31) : flagsOk b (k + 1) = true := by
  rw [flagsOk, List.range_succ, List.all_append, ← flagsOk, hf]
  simp [h]
theorem rules_app {b : List UInt8} {k : Nat} : List.take k (rowsRu (rulesN b k)) ++ [cellsRu (takeR (recAt b k) 11)] = rowsRu (rulesN b (k + 1)) := by
  rw [List.take_of_length_le (by simp [rulesN])]
  simp [rulesN, List.range_succ]
theorem parse_badH {b : List UInt8} (h : headOk b = false) : parseOk b = false := by simp [parseOk, h]
set_option maxRecDepth 100000 in
set_option maxHeartbeats 16000000 in
theorem parse23_ok (fr : Bool) (b : List UInt8) (hb : b.length ≤ 20000) : PCon prog 24 [encB fr b] (parseV true b) := by
  refine callV_of (fn := Go.Proofs.Tryz.f24) (body := _) tab_ok mixed rfl rfl (by decide) (by simp [Go.Proofs.Tryz.f24]) ?_
  have bad : ∀ {s : St} {v : V}, parseOk b = false → LeV s.h s.nx id 0 [] v (.tup [encPo true noPo, .int .i64 330]) → ∃ v1 h' nx', Ends 0 s v v1 h' nx' ∧ (v1 = parseV true b ∧ h' = [] ∧ nx' = 0) := by
    intro s v h hv
    rw [parseV, if_neg (by simp [h])]
    exact Ends.pure [] hv (by simp)
  (conv => whnf)
  intro _
  (conv => whnf)
  split
  · rename_i h0
    (conv => whnf)
    refine bad (parse_badH ?_) (.tupL ⟨.aggL ⟨.snil_sl, .fr rfl, trivial⟩, .fr rfl, trivial⟩)
    simp at h0
    simp [headOk, h0]
  rename_i h0
  have h0 : 0 < b.length := by simp at h0; exact List.length_pos_iff.2 h0
  have hA : (b[0].toNat : Int) = (atR b 0).toNat := by simp [atR, List.getD_eq_getElem?_getD, h0]
  (conv => whnf)
  refine ⟨rfl, _, ⟨by omega, idxB (i := 0) h0⟩, ?_⟩
  (conv => whnf)
  split
  · rename_i h1
    (conv => whnf)
    refine bad (parse_badH ?_) (.tupL ⟨.aggL ⟨.snil_sl, .fr rfl, trivial⟩, .fr rfl, trivial⟩)
    simp at h1
    simp only [headOk, Bool.and_eq_false_imp, decide_eq_true_eq, decide_eq_false_iff_not]
    omega
  rename_i h1
  have h1 : (atR b 0).toNat ≤ 1 := by simp at h1; omega
  (conv => whnf)
  intro _
  (conv => whnf)
  refine ⟨by decide, ?_⟩
  (conv => whnf)
  have hT : ((b.length : Nat) : Int).tmod 29 = ((b.length % 29 : Nat) : Int) := by rw [Int.tmod_eq_emod_of_nonneg (by omega)]; rfl
  split
  · rename_i h2
    (conv => whnf)
    refine bad (parse_badH ?_) (.tupL ⟨.aggL ⟨.snil_sl, .fr rfl, trivial⟩, .fr rfl, trivial⟩)
    simp only [List.length_map, hT] at h2
    simp at h2
    simp only [headOk, Bool.and_eq_false_imp, decide_eq_true_eq, decide_eq_false_iff_not]
    omega
  rename_i h2
  have h2 : b.length % 29 = 1 := by simp only [List.length_map, hT] at h2; simp at h2; omega
  (conv => whnf)
  refine ⟨rfl, _, ⟨by omega, idxB (i := 0) h0⟩, ?_⟩
  (conv => whnf)
  refine ⟨rfl, ⟨by decide, by simp; omega⟩, ?_⟩
  (conv => whnf)
  refine callV_of (fn := Go.Proofs.Tryz.f53) (body := _) tab_ok mixed rfl rfl (by decide) (by simp [Go.Proofs.Tryz.f53]) ?_
  (conv => whnf)
  refine ⟨_, _, _, Ends.here, ?_⟩
  (conv => whnf)
  refine callV_loop [(2, .ptr 0 0), (3, .ptr 1 0), (4, .ptr 2 0)] ⟨rfl, rfl, rfl, trivial⟩ fun asg' body' hasg hbody => ?_
  refine callV_of (fn := Go.Proofs.Tryz.f83) (body := _) tab_ok mixed rfl rfl (by decide) (by simp [Go.Proofs.Tryz.f83]) ?_
  (conv => whnf)
  have hD : V.sl fr 1 (List.drop (Int.toNat 1) (List.map (fun x => [V.int .u8 x.toNat]) b)) = encB fr (b.drop 1) := by simp [encB, rowsB]
  have hE : (((b[0]).toNat : Int) == 1) = (atR b 0 == 1) := by
    rw [hA]
    have : (atR b 0).toNat = 0 ∨ (atR b 0).toNat = 1 := by omega
    rcases this with h | h
    · rw [show atR b 0 = 0 from UInt8.toNat_inj.1 h]; rfl
    · rw [show atR b 0 = 1 from UInt8.toNat_inj.1 h]; rfl
  refine vcg_loop tab_ok mixed (fun k : {k : Nat // k ≤ recN b ∧ flagsOk b k = true} => ⟨[(0, .yld 5), (1, .ptr 3 0), (2, .ptr 4 0), (4, .int .i64 ((29 * k.1 : Nat) : Int))], [(5, some (.loop 68 [(2, .ptr 0 0), (3, .ptr 1 0), (4, .ptr 2 0)] [33] asg' body' .ready none)), (0, some (.var true 29 [.snil, .bool false])), (1, some (.var true 39 [.int .i64 0])), (2, some (.var true 29 [.osl 6 15 0 k.1, .bool (atR b 0 == 1)])), (3, some (.var true 51 [encB fr (b.drop 1)])), (4, some (.var true 3 [.int .i64 29])), (6, some (.arr true false 26 15 (rowsRu (rulesN b k.1))))], 7⟩) (fun k => recN b - k.1) ⟨0, by omega, rfl⟩ (Wk.i (by repeat' (first | exact True.intro | exact id | exact rfl | decide | exact Nat.le_of_ble_eq_true rfl | exact .int_of rfl | exact .bool_of hE | exact .eq_of hD (encB_free _ _) | exact .ptr rfl (by omega) | exact .osl_of rfl (by omega) rfl | exact .fr rfl | exact LeL.fr rfl | exact .yld rfl (by omega) | exact .eptr rfl (by omega) | exact .osl0 | exact .snil_sl | exact .to_any | exact LeV.nineA | exact LeV.noA | exact LeB.fr rfl id id | exact LeB.fr (by simp; done) id id | refine Or.inl ⟨by simp, _, rfl, ?_⟩ | exact Or.inr ⟨by simp, _, _, _, _, rfl⟩ | refine ⟨rfl, rfl, rfl, rfl, rfl, rfl, ?_⟩ | refine ⟨?_, ?_⟩)) (by omega)) (fun k => ?_)
  obtain ⟨k, hk, hfl⟩ := k
  have hkb : 29 * k ≤ b.length - 1 := by unfold recN at hk; omega
  (conv => whnf)
  intro _
  (conv => whnf)
  split
  · rename_i hc
    have hc : k < recN b := by
      simp at hc
      unfold recN
      omega
    have hk29 : 29 * k + 29 ≤ b.length - 1 := by unfold recN at hc; omega
    (conv => whnf)
    refine ⟨rfl, ⟨Int.natCast_nonneg _, by simp; omega⟩, ?_⟩
    (conv => whnf)
    refine ⟨by kernel_rfl, ?_⟩
    have hmin : (if (((List.drop (((29 * k : Nat) : Int)).toNat (List.map (fun x : UInt8 => [V.int .u8 x.toNat]) (List.drop 1 b))).length : Nat) : Int) < 29 then (((List.drop (((29 * k : Nat) : Int)).toNat (List.map (fun x : UInt8 => [V.int .u8 x.toNat]) (List.drop 1 b))).length : Nat) : Int) else 29) = 29 := if_neg (by simp; omega)
    have hw : IntKind.i64.wrap (((29 * k : Nat) : Int) + 29) = ((29 * k + 29 : Nat) : Int) := by rw [wrap64] <;> omega
    (conv => whnf)
    simp only [hmin, hw]
    (conv => whnf)
    refine ⟨trivial, ⟨Int.natCast_nonneg _, Int.natCast_nonneg _, Int.natCast_nonneg _, by simp only [Int.toNat_natCast]; omega, Nat.le_refl _, by simp; omega⟩, ?_⟩
    have hrec : V.sl fr 1 (List.drop (((29 * k : Nat) : Int)).toNat (List.take (((29 * k + 29 : Nat) : Int)).toNat (List.map (fun x : UInt8 => [V.int .u8 x.toNat]) (List.drop 1 b)))) = encB fr (recAt b k) := by
      show _ = V.sl fr 1 (List.map (fun x : UInt8 => [V.int .u8 x.toNat]) ((b.drop (1 + 29 * k)).take 29))
      simp only [Int.toNat_natCast, List.drop_take, List.map_take, List.map_drop, List.drop_drop, Nat.add_sub_cancel_left]
    (conv => whnf)
    simp only [hrec]
    refine roundV_eq tab_ok mixed hasg hbody rfl (by simp) (show 5 < 7 by omega) ?_
    (conv => whnf)
    have hrl : (recAt b k).length = 29 := by simp [recAt]; omega
    refine ⟨rfl, ?_⟩
    (conv => whnf)
    refine ⟨rfl, _, ⟨by decide, idxB (i := 7) (show 7 < (recAt b k).length by omega)⟩, ?_⟩
    (conv => whnf)
    have hat : ((recAt b k)[7]'(by omega)) = atR (recAt b k) 7 := by simp [atR, List.getD_eq_getElem?_getD, hrl]
    split
    · rename_i h31
      (conv => whnf)
      refine ⟨rfl, ?_⟩
      (conv => whnf)
      refine ⟨_, _, _, Ends.here, ?_⟩
      (conv => whnf)
      have hbad := flags_bad hc (by simp at h31; rw [← hat]; omega)
      refine bad (by simp [parseOk, hbad]) (.tupL ⟨.aggL ⟨.snil_sl, .fr rfl, trivial⟩, .fr rfl, trivial⟩)
    rename_i h31
    have h31 : (atR (recAt b k) 7).toNat ≤ 31 := by rw [← hat]; simp at h31; omega
    (conv => whnf)
    refine callV_pure parts23_ok trivial ?_
    (conv => whnf)
    intro _
    (conv => whnf)
    refine vcg_loop tab_ok mixed (fun j : {j : Nat // j ≤ 11} => ⟨[(2, .ptr 0 0), (3, .ptr 1 0), (4, .ptr 2 0), (5, encB fr ((recAt b k).drop (offR j.1))), (6, .ptr 7 0), (39, .sl true 3 partRows), (40, .int .i64 11), (41, cI j.1)], [(5, some (.loop 68 [(2, .ptr 0 0), (3, .ptr 1 0), (4, .ptr 2 0)] [33] asg' body' .busy none)), (0, some (.var true 29 [.snil, .bool false])), (1, some (.var true 39 [.int .i64 0])), (2, some (.var true 29 [.osl 6 15 0 k, .bool (atR b 0 == 1)])), (3, some (.var true 51 [encB fr (b.drop 1)])), (4, some (.var true 3 [.int .i64 29])), (6, some (.arr true false 26 15 (rowsRu (rulesN b k)))), (7, some (.var true 26 (cellsRu (takeR (recAt b k) j.1))))], 8⟩) (fun j => 11 - j.1) ⟨0, by omega⟩ (Wk.i (by repeat' (first | exact True.intro | exact id | exact rfl | decide | exact Nat.le_of_ble_eq_true rfl | exact .int_of rfl | exact .ptr rfl (by omega) | exact .osl_of rfl (by omega) rfl | exact .fr rfl | exact LeL.fr rfl | exact .yld rfl (by omega) | exact .eptr rfl (by omega) | exact .osl0 | exact .snil_sl | exact .to_any | exact LeV.nineA | exact LeV.noA | exact LeB.fr rfl id id | exact LeB.fr (by simp; done) id id | refine Or.inl ⟨by simp, _, rfl, ?_⟩ | exact Or.inr ⟨by simp, _, _, _, _, rfl⟩ | refine ⟨rfl, rfl, rfl, rfl, rfl, rfl, ?_⟩ | refine ⟨?_, ?_⟩)) (by omega)) (fun j => ?_)
    obtain ⟨j, hj⟩ := j
    rcases j with _ | _ | _ | _ | _ | _ | _ | _ | _ | _ | _ | _ | j
    case succ.succ.succ.succ.succ.succ.succ.succ.succ.succ.succ.succ => omega
    case succ.succ.succ.succ.succ.succ.succ.succ.succ.succ.succ.zero =>
      (conv => whnf)
      refine ⟨rfl, by simp, ⟨rfl, rfl, rfl, rfl, by decide⟩, by simp [rulesN], ⟨Nat.le_trans (Nat.mul_le_mul (show _ ≤ 1000 by simp; omega) (Nat.le_refl _)) (by decide +kernel), by simp; omega⟩, ?_⟩
      (conv => whnf)
      refine ⟨rfl, ?_⟩
      (conv => whnf)
      exact ⟨⟨k + 1, by omega, flags_succ hfl h31⟩, (Wk.all (renOf [(6, 9)]) [] (by repeat' (first | exact True.intro | exact id | exact rfl | decide | exact Nat.le_of_ble_eq_true rfl | exact .osl_of rfl (by omega) rfl | exact .int_of (hw.trans rfl) | exact LeB.fr rules_app id id | exact .ptr rfl (by omega) | exact .osl_of rfl (by omega) rfl | exact .fr rfl | exact LeL.fr rfl | exact .yld rfl (by omega) | exact .eptr rfl (by omega) | exact .osl0 | exact .snil_sl | exact .to_any | exact LeV.nineA | exact LeV.noA | exact LeB.fr rfl id id | exact LeB.fr (by simp; done) id id | refine Or.inl ⟨by simp, _, rfl, ?_⟩ | exact Or.inr ⟨by simp, _, _, _, _, rfl⟩ | refine ⟨rfl, rfl, rfl, rfl, rfl, rfl, ?_⟩ | refine ⟨?_, ?_⟩)) (show ∀ b ∈ ([5,0,1,2,3,4,6] : List Nat), ∀ b' ∈ ([5,0,1,2,3,4,6] : List Nat), (renOf [(6, 9)]) b = (renOf [(6, 9)]) b' → b = b' by decide) (show ∀ b, b < 6 → (renOf [(6, 9)]) b = b by decide) (by omega) (by simp)), by simp only; omega⟩
    · have hs : V.sl fr 1 (List.drop 0 (List.take (Int.toNat 4) (List.map (fun x : UInt8 => [V.int .u8 x.toNat]) ((recAt b k).drop (offR 0))))) = encB fr (((recAt b k).drop 0).take 4) := by simp [encB, rowsB, offR, List.map_take]
      have hs2 : V.sl fr 1 (List.drop (Int.toNat 4) (List.map (fun x : UInt8 => [V.int .u8 x.toNat]) ((recAt b k).drop (offR 0)))) = encB fr ((recAt b k).drop (offR 1)) := by simp [encB, rowsB, offR, List.map_drop, List.drop_drop]
      (conv => whnf)
      refine ⟨rfl, _, ⟨by first | decide | exact Int.natCast_nonneg _, rfl⟩, ?_⟩
      (conv => whnf)
      refine ⟨rfl, ⟨trivial, by decide, by decide, by simp [offR, hrl]⟩, ?_⟩
      (conv => whnf)
      refine ⟨by kernel_rfl, ?_⟩
      (conv => whnf)
      refine callV_take (take3_ok fr true (takeR (recAt b k) 0) (((recAt b k).drop 0).take 4) (by simp [hrl])) rfl ⟨.ptr rfl (by omega), .eq_of hs (encB_free _ _), .fr rfl, trivial⟩ ?_
      (conv => whnf)
      refine ⟨rfl, ⟨by decide, by simp [offR, hrl]⟩, ?_⟩
      (conv => whnf)
      refine ⟨⟨1, by omega⟩, (Wk.i (by repeat' (first | exact True.intro | exact id | exact rfl | decide | exact Nat.le_of_ble_eq_true rfl | exact .eq_of hs2 (encB_free _ _) | exact .int_of (by simp [wrap64']) | exact .ptr rfl (by omega) | exact .osl_of rfl (by omega) rfl | exact .fr rfl | exact LeL.fr rfl | exact .yld rfl (by omega) | exact .eptr rfl (by omega) | exact .osl0 | exact .snil_sl | exact .to_any | exact LeV.nineA | exact LeV.noA | exact LeB.fr rfl id id | exact LeB.fr (by simp; done) id id | refine Or.inl ⟨by simp, _, rfl, ?_⟩ | exact Or.inr ⟨by simp, _, _, _, _, rfl⟩ | refine ⟨rfl, rfl, rfl, rfl, rfl, rfl, ?_⟩ | refine ⟨?_, ?_⟩)) (by omega)), by simp⟩
    · have hs : V.sl fr 1 (List.drop 0 (List.take (Int.toNat 1) (List.map (fun x : UInt8 => [V.int .u8 x.toNat]) ((recAt b k).drop (offR 1))))) = encB fr (((recAt b k).drop 4).take 1) := by simp [encB, rowsB, offR, List.map_take]
      have hs2 : V.sl fr 1 (List.drop (Int.toNat 1) (List.map (fun x : UInt8 => [V.int .u8 x.toNat]) ((recAt b k).drop (offR 1)))) = encB fr ((recAt b k).drop (offR 2)) := by simp [encB, rowsB, offR, List.map_drop, List.drop_drop]
      (conv => whnf)
      refine ⟨rfl, _, ⟨by first | decide | exact Int.natCast_nonneg _, rfl⟩, ?_⟩
      (conv => whnf)
      refine ⟨rfl, ⟨trivial, by decide, by decide, by simp [offR, hrl]⟩, ?_⟩
      (conv => whnf)
      refine ⟨by kernel_rfl, ?_⟩
      (conv => whnf)
      refine callV_take (take4_ok fr true (takeR (recAt b k) 1) (((recAt b k).drop 4).take 1) (by simp [hrl])) rfl ⟨.ptr rfl (by omega), .eq_of hs (encB_free _ _), .fr rfl, trivial⟩ ?_
      (conv => whnf)
      refine ⟨rfl, ⟨by decide, by simp [offR, hrl]⟩, ?_⟩
      (conv => whnf)
      refine ⟨⟨2, by omega⟩, (Wk.i (by repeat' (first | exact True.intro | exact id | exact rfl | decide | exact Nat.le_of_ble_eq_true rfl | exact .eq_of hs2 (encB_free _ _) | exact .int_of (by simp [wrap64']) | exact .ptr rfl (by omega) | exact .osl_of rfl (by omega) rfl | exact .fr rfl | exact LeL.fr rfl | exact .yld rfl (by omega) | exact .eptr rfl (by omega) | exact .osl0 | exact .snil_sl | exact .to_any | exact LeV.nineA | exact LeV.noA | exact LeB.fr rfl id id | exact LeB.fr (by simp; done) id id | refine Or.inl ⟨by simp, _, rfl, ?_⟩ | exact Or.inr ⟨by simp, _, _, _, _, rfl⟩ | refine ⟨rfl, rfl, rfl, rfl, rfl, rfl, ?_⟩ | refine ⟨?_, ?_⟩)) (by omega)), by simp⟩
    · have hs : V.sl fr 1 (List.drop 0 (List.take (Int.toNat 1) (List.map (fun x : UInt8 => [V.int .u8 x.toNat]) ((recAt b k).drop (offR 2))))) = encB fr (((recAt b k).drop 5).take 1) := by simp [encB, rowsB, offR, List.map_take]
      have hs2 : V.sl fr 1 (List.drop (Int.toNat 1) (List.map (fun x : UInt8 => [V.int .u8 x.toNat]) ((recAt b k).drop (offR 2)))) = encB fr ((recAt b k).drop (offR 3)) := by simp [encB, rowsB, offR, List.map_drop, List.drop_drop]
      (conv => whnf)
      refine ⟨rfl, _, ⟨by first | decide | exact Int.natCast_nonneg _, rfl⟩, ?_⟩
      (conv => whnf)
      refine ⟨rfl, ⟨trivial, by decide, by decide, by simp [offR, hrl]⟩, ?_⟩
      (conv => whnf)
      refine ⟨by kernel_rfl, ?_⟩
      (conv => whnf)
      refine callV_take (take5_ok fr true (takeR (recAt b k) 2) (((recAt b k).drop 5).take 1) (by simp [hrl])) rfl ⟨.ptr rfl (by omega), .eq_of hs (encB_free _ _), .fr rfl, trivial⟩ ?_
      (conv => whnf)
      refine ⟨rfl, ⟨by decide, by simp [offR, hrl]⟩, ?_⟩
      (conv => whnf)
      refine ⟨⟨3, by omega⟩, (Wk.i (by repeat' (first | exact True.intro | exact id | exact rfl | decide | exact Nat.le_of_ble_eq_true rfl | exact .eq_of hs2 (encB_free _ _) | exact .int_of (by simp [wrap64']) | exact .ptr rfl (by omega) | exact .osl_of rfl (by omega) rfl | exact .fr rfl | exact LeL.fr rfl | exact .yld rfl (by omega) | exact .eptr rfl (by omega) | exact .osl0 | exact .snil_sl | exact .to_any | exact LeV.nineA | exact LeV.noA | exact LeB.fr rfl id id | exact LeB.fr (by simp; done) id id | refine Or.inl ⟨by simp, _, rfl, ?_⟩ | exact Or.inr ⟨by simp, _, _, _, _, rfl⟩ | refine ⟨rfl, rfl, rfl, rfl, rfl, rfl, ?_⟩ | refine ⟨?_, ?_⟩)) (by omega)), by simp⟩
    · have hs : V.sl fr 1 (List.drop 0 (List.take (Int.toNat 1) (List.map (fun x : UInt8 => [V.int .u8 x.toNat]) ((recAt b k).drop (offR 3))))) = encB fr (((recAt b k).drop 6).take 1) := by simp [encB, rowsB, offR, List.map_take]
      have hs2 : V.sl fr 1 (List.drop (Int.toNat 1) (List.map (fun x : UInt8 => [V.int .u8 x.toNat]) ((recAt b k).drop (offR 3)))) = encB fr ((recAt b k).drop (offR 4)) := by simp [encB, rowsB, offR, List.map_drop, List.drop_drop]
      (conv => whnf)
      refine ⟨rfl, _, ⟨by first | decide | exact Int.natCast_nonneg _, rfl⟩, ?_⟩
      (conv => whnf)
      refine ⟨rfl, ⟨trivial, by decide, by decide, by simp [offR, hrl]⟩, ?_⟩
      (conv => whnf)
      refine ⟨by kernel_rfl, ?_⟩
      (conv => whnf)
      refine callV_take (take6_ok fr true (takeR (recAt b k) 3) (((recAt b k).drop 6).take 1) (by simp [hrl])) rfl ⟨.ptr rfl (by omega), .eq_of hs (encB_free _ _), .fr rfl, trivial⟩ ?_
      (conv => whnf)
      refine ⟨rfl, ⟨by decide, by simp [offR, hrl]⟩, ?_⟩
      (conv => whnf)
      refine ⟨⟨4, by omega⟩, (Wk.i (by repeat' (first | exact True.intro | exact id | exact rfl | decide | exact Nat.le_of_ble_eq_true rfl | exact .eq_of hs2 (encB_free _ _) | exact .int_of (by simp [wrap64']) | exact .ptr rfl (by omega) | exact .osl_of rfl (by omega) rfl | exact .fr rfl | exact LeL.fr rfl | exact .yld rfl (by omega) | exact .eptr rfl (by omega) | exact .osl0 | exact .snil_sl | exact .to_any | exact LeV.nineA | exact LeV.noA | exact LeB.fr rfl id id | exact LeB.fr (by simp; done) id id | refine Or.inl ⟨by simp, _, rfl, ?_⟩ | exact Or.inr ⟨by simp, _, _, _, _, rfl⟩ | refine ⟨rfl, rfl, rfl, rfl, rfl, rfl, ?_⟩ | refine ⟨?_, ?_⟩)) (by omega)), by simp⟩
    · have hs : V.sl fr 1 (List.drop 0 (List.take (Int.toNat 1) (List.map (fun x : UInt8 => [V.int .u8 x.toNat]) ((recAt b k).drop (offR 4))))) = encB fr [atR (recAt b k) 7] := by rw [← one7 hrl]; simp [encB, rowsB, offR, List.map_take]
      have hs2 : V.sl fr 1 (List.drop (Int.toNat 1) (List.map (fun x : UInt8 => [V.int .u8 x.toNat]) ((recAt b k).drop (offR 4)))) = encB fr ((recAt b k).drop (offR 5)) := by simp [encB, rowsB, offR, List.map_drop, List.drop_drop]
      (conv => whnf)
      refine ⟨rfl, _, ⟨by first | decide | exact Int.natCast_nonneg _, rfl⟩, ?_⟩
      (conv => whnf)
      refine ⟨rfl, ⟨trivial, by decide, by decide, by simp [offR, hrl]⟩, ?_⟩
      (conv => whnf)
      refine ⟨by kernel_rfl, ?_⟩
      (conv => whnf)
      refine callV_take (takeF_ok fr true (takeR (recAt b k) 4) (atR (recAt b k) 7)) rfl ⟨.ptr rfl (by omega), .eq_of hs (encB_free _ _), trivial⟩ ?_
      (conv => whnf)
      refine ⟨rfl, ⟨by decide, by simp [offR, hrl]⟩, ?_⟩
      (conv => whnf)
      refine ⟨⟨5, by omega⟩, (Wk.i (by repeat' (first | exact True.intro | exact id | exact rfl | decide | exact Nat.le_of_ble_eq_true rfl | exact .eq_of hs2 (encB_free _ _) | exact .int_of (by simp [wrap64']) | exact .ptr rfl (by omega) | exact .osl_of rfl (by omega) rfl | exact .fr rfl | exact LeL.fr rfl | exact .yld rfl (by omega) | exact .eptr rfl (by omega) | exact .osl0 | exact .snil_sl | exact .to_any | exact LeV.nineA | exact LeV.noA | exact LeB.fr rfl id id | exact LeB.fr (by simp; done) id id | refine Or.inl ⟨by simp, _, rfl, ?_⟩ | exact Or.inr ⟨by simp, _, _, _, _, rfl⟩ | refine ⟨rfl, rfl, rfl, rfl, rfl, rfl, ?_⟩ | refine ⟨?_, ?_⟩)) (by omega)), by simp⟩
    · have hs : V.sl fr 1 (List.drop 0 (List.take (Int.toNat 4) (List.map (fun x : UInt8 => [V.int .u8 x.toNat]) ((recAt b k).drop (offR 5))))) = encB fr (((recAt b k).drop 8).take 4) := by simp [encB, rowsB, offR, List.map_take]
      have hs2 : V.sl fr 1 (List.drop (Int.toNat 4) (List.map (fun x : UInt8 => [V.int .u8 x.toNat]) ((recAt b k).drop (offR 5)))) = encB fr ((recAt b k).drop (offR 6)) := by simp [encB, rowsB, offR, List.map_drop, List.drop_drop]
      (conv => whnf)
      refine ⟨rfl, _, ⟨by first | decide | exact Int.natCast_nonneg _, rfl⟩, ?_⟩
      (conv => whnf)
      refine ⟨rfl, ⟨trivial, by decide, by decide, by simp [offR, hrl]⟩, ?_⟩
      (conv => whnf)
      refine ⟨by kernel_rfl, ?_⟩
      (conv => whnf)
      refine callV_take (take9_ok fr true (takeR (recAt b k) 5) (((recAt b k).drop 8).take 4) (by simp [hrl])) rfl ⟨.ptr rfl (by omega), .eq_of hs (encB_free _ _), .fr rfl, trivial⟩ ?_
      (conv => whnf)
      refine ⟨rfl, ⟨by decide, by simp [offR, hrl]⟩, ?_⟩
      (conv => whnf)
      refine ⟨⟨6, by omega⟩, (Wk.i (by repeat' (first | exact True.intro | exact id | exact rfl | decide | exact Nat.le_of_ble_eq_true rfl | exact .eq_of hs2 (encB_free _ _) | exact .int_of (by simp [wrap64']) | exact .ptr rfl (by omega) | exact .osl_of rfl (by omega) rfl | exact .fr rfl | exact LeL.fr rfl | exact .yld rfl (by omega) | exact .eptr rfl (by omega) | exact .osl0 | exact .snil_sl | exact .to_any | exact LeV.nineA | exact LeV.noA | exact LeB.fr rfl id id | exact LeB.fr (by simp; done) id id | refine Or.inl ⟨by simp, _, rfl, ?_⟩ | exact Or.inr ⟨by simp, _, _, _, _, rfl⟩ | refine ⟨rfl, rfl, rfl, rfl, rfl, rfl, ?_⟩ | refine ⟨?_, ?_⟩)) (by omega)), by simp⟩
    · have hs : V.sl fr 1 (List.drop 0 (List.take (Int.toNat 4) (List.map (fun x : UInt8 => [V.int .u8 x.toNat]) ((recAt b k).drop (offR 6))))) = encB fr (((recAt b k).drop 12).take 4) := by simp [encB, rowsB, offR, List.map_take]
      have hs2 : V.sl fr 1 (List.drop (Int.toNat 4) (List.map (fun x : UInt8 => [V.int .u8 x.toNat]) ((recAt b k).drop (offR 6)))) = encB fr ((recAt b k).drop (offR 7)) := by simp [encB, rowsB, offR, List.map_drop, List.drop_drop]
      (conv => whnf)
      refine ⟨rfl, _, ⟨by first | decide | exact Int.natCast_nonneg _, rfl⟩, ?_⟩
      (conv => whnf)
      refine ⟨rfl, ⟨trivial, by decide, by decide, by simp [offR, hrl]⟩, ?_⟩
      (conv => whnf)
      refine ⟨by kernel_rfl, ?_⟩
      (conv => whnf)
      refine callV_take (take10_ok fr true (takeR (recAt b k) 6) (((recAt b k).drop 12).take 4) (by simp [hrl])) rfl ⟨.ptr rfl (by omega), .eq_of hs (encB_free _ _), .fr rfl, trivial⟩ ?_
      (conv => whnf)
      refine ⟨rfl, ⟨by decide, by simp [offR, hrl]⟩, ?_⟩
      (conv => whnf)
      refine ⟨⟨7, by omega⟩, (Wk.i (by repeat' (first | exact True.intro | exact id | exact rfl | decide | exact Nat.le_of_ble_eq_true rfl | exact .eq_of hs2 (encB_free _ _) | exact .int_of (by simp [wrap64']) | exact .ptr rfl (by omega) | exact .osl_of rfl (by omega) rfl | exact .fr rfl | exact LeL.fr rfl | exact .yld rfl (by omega) | exact .eptr rfl (by omega) | exact .osl0 | exact .snil_sl | exact .to_any | exact LeV.nineA | exact LeV.noA | exact LeB.fr rfl id id | exact LeB.fr (by simp; done) id id | refine Or.inl ⟨by simp, _, rfl, ?_⟩ | exact Or.inr ⟨by simp, _, _, _, _, rfl⟩ | refine ⟨rfl, rfl, rfl, rfl, rfl, rfl, ?_⟩ | refine ⟨?_, ?_⟩)) (by omega)), by simp⟩
    · have hs : V.sl fr 1 (List.drop 0 (List.take (Int.toNat 4) (List.map (fun x : UInt8 => [V.int .u8 x.toNat]) ((recAt b k).drop (offR 7))))) = encB fr (((recAt b k).drop 16).take 4) := by simp [encB, rowsB, offR, List.map_take]
      have hs2 : V.sl fr 1 (List.drop (Int.toNat 4) (List.map (fun x : UInt8 => [V.int .u8 x.toNat]) ((recAt b k).drop (offR 7)))) = encB fr ((recAt b k).drop (offR 8)) := by simp [encB, rowsB, offR, List.map_drop, List.drop_drop]
      (conv => whnf)
      refine ⟨rfl, _, ⟨by first | decide | exact Int.natCast_nonneg _, rfl⟩, ?_⟩
      (conv => whnf)
      refine ⟨rfl, ⟨trivial, by decide, by decide, by simp [offR, hrl]⟩, ?_⟩
      (conv => whnf)
      refine ⟨by kernel_rfl, ?_⟩
      (conv => whnf)
      refine callV_take (take11_ok fr true (takeR (recAt b k) 7) (((recAt b k).drop 16).take 4) (by simp [hrl])) rfl ⟨.ptr rfl (by omega), .eq_of hs (encB_free _ _), .fr rfl, trivial⟩ ?_
      (conv => whnf)
      refine ⟨rfl, ⟨by decide, by simp [offR, hrl]⟩, ?_⟩
      (conv => whnf)
      refine ⟨⟨8, by omega⟩, (Wk.i (by repeat' (first | exact True.intro | exact id | exact rfl | decide | exact Nat.le_of_ble_eq_true rfl | exact .eq_of hs2 (encB_free _ _) | exact .int_of (by simp [wrap64']) | exact .ptr rfl (by omega) | exact .osl_of rfl (by omega) rfl | exact .fr rfl | exact LeL.fr rfl | exact .yld rfl (by omega) | exact .eptr rfl (by omega) | exact .osl0 | exact .snil_sl | exact .to_any | exact LeV.nineA | exact LeV.noA | exact LeB.fr rfl id id | exact LeB.fr (by simp; done) id id | refine Or.inl ⟨by simp, _, rfl, ?_⟩ | exact Or.inr ⟨by simp, _, _, _, _, rfl⟩ | refine ⟨rfl, rfl, rfl, rfl, rfl, rfl, ?_⟩ | refine ⟨?_, ?_⟩)) (by omega)), by simp⟩
    · have hs : V.sl fr 1 (List.drop 0 (List.take (Int.toNat 4) (List.map (fun x : UInt8 => [V.int .u8 x.toNat]) ((recAt b k).drop (offR 8))))) = encB fr (((recAt b k).drop 20).take 4) := by simp [encB, rowsB, offR, List.map_take]
      have hs2 : V.sl fr 1 (List.drop (Int.toNat 4) (List.map (fun x : UInt8 => [V.int .u8 x.toNat]) ((recAt b k).drop (offR 8)))) = encB fr ((recAt b k).drop (offR 9)) := by simp [encB, rowsB, offR, List.map_drop, List.drop_drop]
      (conv => whnf)
      refine ⟨rfl, _, ⟨by first | decide | exact Int.natCast_nonneg _, rfl⟩, ?_⟩
      (conv => whnf)
      refine ⟨rfl, ⟨trivial, by decide, by decide, by simp [offR, hrl]⟩, ?_⟩
      (conv => whnf)
      refine ⟨by kernel_rfl, ?_⟩
      (conv => whnf)
      refine callV_take (take12_ok fr true (takeR (recAt b k) 8) (((recAt b k).drop 20).take 4) (by simp [hrl])) rfl ⟨.ptr rfl (by omega), .eq_of hs (encB_free _ _), .fr rfl, trivial⟩ ?_
      (conv => whnf)
      refine ⟨rfl, ⟨by decide, by simp [offR, hrl]⟩, ?_⟩
      (conv => whnf)
      refine ⟨⟨9, by omega⟩, (Wk.i (by repeat' (first | exact True.intro | exact id | exact rfl | decide | exact Nat.le_of_ble_eq_true rfl | exact .eq_of hs2 (encB_free _ _) | exact .int_of (by simp [wrap64']) | exact .ptr rfl (by omega) | exact .osl_of rfl (by omega) rfl | exact .fr rfl | exact LeL.fr rfl | exact .yld rfl (by omega) | exact .eptr rfl (by omega) | exact .osl0 | exact .snil_sl | exact .to_any | exact LeV.nineA | exact LeV.noA | exact LeB.fr rfl id id | exact LeB.fr (by simp; done) id id | refine Or.inl ⟨by simp, _, rfl, ?_⟩ | exact Or.inr ⟨by simp, _, _, _, _, rfl⟩ | refine ⟨rfl, rfl, rfl, rfl, rfl, rfl, ?_⟩ | refine ⟨?_, ?_⟩)) (by omega)), by simp⟩
    · have hs : V.sl fr 1 (List.drop 0 (List.take (Int.toNat 4) (List.map (fun x : UInt8 => [V.int .u8 x.toNat]) ((recAt b k).drop (offR 9))))) = encB fr (((recAt b k).drop 24).take 4) := by simp [encB, rowsB, offR, List.map_take]
      have hs2 : V.sl fr 1 (List.drop (Int.toNat 4) (List.map (fun x : UInt8 => [V.int .u8 x.toNat]) ((recAt b k).drop (offR 9)))) = encB fr ((recAt b k).drop (offR 10)) := by simp [encB, rowsB, offR, List.map_drop, List.drop_drop]
      (conv => whnf)
      refine ⟨rfl, _, ⟨by first | decide | exact Int.natCast_nonneg _, rfl⟩, ?_⟩
      (conv => whnf)
      refine ⟨rfl, ⟨trivial, by decide, by decide, by simp [offR, hrl]⟩, ?_⟩
      (conv => whnf)
      refine ⟨by kernel_rfl, ?_⟩
      (conv => whnf)
      refine callV_take (take13_ok fr true (takeR (recAt b k) 9) (((recAt b k).drop 24).take 4) (by simp [hrl])) rfl ⟨.ptr rfl (by omega), .eq_of hs (encB_free _ _), .fr rfl, trivial⟩ ?_
      (conv => whnf)
      refine ⟨rfl, ⟨by decide, by simp [offR, hrl]⟩, ?_⟩
      (conv => whnf)
      refine ⟨⟨10, by omega⟩, (Wk.i (by repeat' (first | exact True.intro | exact id | exact rfl | decide | exact Nat.le_of_ble_eq_true rfl | exact .eq_of hs2 (encB_free _ _) | exact .int_of (by simp [wrap64']) | exact .ptr rfl (by omega) | exact .osl_of rfl (by omega) rfl | exact .fr rfl | exact LeL.fr rfl | exact .yld rfl (by omega) | exact .eptr rfl (by omega) | exact .osl0 | exact .snil_sl | exact .to_any | exact LeV.nineA | exact LeV.noA | exact LeB.fr rfl id id | exact LeB.fr (by simp; done) id id | refine Or.inl ⟨by simp, _, rfl, ?_⟩ | exact Or.inr ⟨by simp, _, _, _, _, rfl⟩ | refine ⟨rfl, rfl, rfl, rfl, rfl, rfl, ?_⟩ | refine ⟨?_, ?_⟩)) (by omega)), by simp⟩
    · have hs : V.sl fr 1 (List.drop 0 (List.take (Int.toNat 1) (List.map (fun x : UInt8 => [V.int .u8 x.toNat]) ((recAt b k).drop (offR 10))))) = encB fr (((recAt b k).drop 28).take 1) := by simp [encB, rowsB, offR, List.map_take]
      have hs2 : V.sl fr 1 (List.drop (Int.toNat 1) (List.map (fun x : UInt8 => [V.int .u8 x.toNat]) ((recAt b k).drop (offR 10)))) = encB fr ((recAt b k).drop (offR 11)) := by simp [encB, rowsB, offR, List.map_drop, List.drop_drop]
      (conv => whnf)
      refine ⟨rfl, _, ⟨by first | decide | exact Int.natCast_nonneg _, rfl⟩, ?_⟩
      (conv => whnf)
      refine ⟨rfl, ⟨trivial, by decide, by decide, by simp [offR, hrl]⟩, ?_⟩
      (conv => whnf)
      refine ⟨by kernel_rfl, ?_⟩
      (conv => whnf)
      refine callV_take (take14_ok fr true (takeR (recAt b k) 10) (((recAt b k).drop 28).take 1) (by simp [hrl])) rfl ⟨.ptr rfl (by omega), .eq_of hs (encB_free _ _), .fr rfl, trivial⟩ ?_
      (conv => whnf)
      refine ⟨rfl, ⟨by decide, by simp [offR, hrl]⟩, ?_⟩
      (conv => whnf)
      refine ⟨⟨11, by omega⟩, (Wk.i (by repeat' (first | exact True.intro | exact id | exact rfl | decide | exact Nat.le_of_ble_eq_true rfl | exact .eq_of hs2 (encB_free _ _) | exact .int_of (by simp [wrap64']) | exact .ptr rfl (by omega) | exact .osl_of rfl (by omega) rfl | exact .fr rfl | exact LeL.fr rfl | exact .yld rfl (by omega) | exact .eptr rfl (by omega) | exact .osl0 | exact .snil_sl | exact .to_any | exact LeV.nineA | exact LeV.noA | exact LeB.fr rfl id id | exact LeB.fr (by simp; done) id id | refine Or.inl ⟨by simp, _, rfl, ?_⟩ | exact Or.inr ⟨by simp, _, _, _, _, rfl⟩ | refine ⟨rfl, rfl, rfl, rfl, rfl, rfl, ?_⟩ | refine ⟨?_, ?_⟩)) (by omega)), by simp⟩
  rename_i hc
  have hc : k = recN b := by
    simp at hc
    unfold recN at hk ⊢
    omega
  subst hc
  (conv => whnf)
  refine ⟨_, _, _, Ends.here, ?_⟩
  (conv => whnf)
  have hlr : (rulesN b (recN b)).length = recN b := by simp [rulesN]
  refine callV_lend [6] (check23_ok false (parsed b)) ⟨.aggL ⟨.fresh_off (LeV.freezeE (ys := rowsRu (rulesN b (recN b))) (by simp) rfl (by simp [hlr]) (by simp [hlr, List.take_of_length_le]) (rowsRu_free _)), .fr rfl, trivial⟩, trivial⟩ (by intro v hv; simp at hv; subst hv; exact encPo_cold _) (one_none rfl) .int ?_
  (conv => whnf)
  split
  · rename_i hch
    have hch : checkP (parsed b) ≠ 0 := by simpa using hch
    (conv => whnf)
    refine bad (by simp [parseOk, hch]) (.tupL ⟨.aggL ⟨.snil_sl, .fr rfl, trivial⟩, .fr rfl, trivial⟩)
  rename_i hch
  have hch : checkP (parsed b) = 0 := by simpa using hch
  have hh : headOk b = true := by simp [headOk, h2, h1]
  (conv => whnf)
  rw [parseV, if_pos (by simp [parseOk, hh, hfl, hch])]
  exact Ends.pure [6] (.tupL ⟨.aggL ⟨LeV.freezeE (ys := rowsRu (rulesN b (recN b))) (by simp) rfl (by simp [hlr]) (by simp [hlr, List.take_of_length_le]) (rowsRu_free _), .fr rfl, trivial⟩, .fr rfl, trivial⟩) (one_none rfl)
end Go.Proofs.YtjpfofmkgdjelaaGreat
/- Contract: the reference's Parse. -/
set_option linter.unusedVariables false
set_option linter.unusedSimpArgs false
namespace Go.Proofs.YtjpfofmkgdjelaaGreat
open Go.RowKit
open Go.Proofs.Tryz (prog)
attribute [local irreducible] CallV RoundV aggK

theorem num4 (a b c d : UInt8) : numN [a, b, c, d] = ((a.toNat * 256 + b.toNat) * 256 + c.toNat) * 256 + d.toNat := by simp [numN]
set_option maxRecDepth 100000 in
theorem rword_ok (fr : Bool) (l : List UInt8) (hl : l.length = 4) : PCon prog 55 [encB fr l] (cW (UInt32.ofNat (numN l))) := by
  match l, hl with
  | [a, b, c, d], _ =>
  refine callV_of (fn := Go.Proofs.Tryz.f55) (body := _) tab_ok mixed rfl rfl (by decide) (by simp [Go.Proofs.Tryz.f55]) ?_
  (conv => whnf)
  refine ⟨rfl, _, ⟨by decide, rfl⟩, ?_⟩
  (conv => whnf)
  refine ⟨rfl, _, ⟨by decide, rfl⟩, ?_⟩
  (conv => whnf)
  refine ⟨rfl, _, ⟨by decide, rfl⟩, ?_⟩
  (conv => whnf)
  refine ⟨rfl, _, ⟨by decide, rfl⟩, ?_⟩
  (conv => whnf)
  refine ⟨by kernel_rfl, ?_⟩
  (conv => whnf)
  refine Ends.pure [] (.int_of ?_) (by simp)
  have := a.toNat_lt
  have := b.toNat_lt
  have := c.toNat_lt
  have := d.toNat_lt
  simp only [wrap32, num4, UInt32.toNat_ofNat']
  omega
def refCells (x : List UInt8) (h : x.length = 29) : List V :=
  [.int .u32 (UInt32.ofNat (numN ((x.drop 0).take 4))).toNat, .int .u8 (x[4]'(by omega)).toNat, .int .u8 (x[5]'(by omega)).toNat, .int .u8 (x[6]'(by omega)).toNat,
    .bool ((IntKind.i64.wrap ((x[7]'(by omega)).toNat : Int)).tmod 2 == 1), .int .u32 (UInt32.ofNat (numN ((x.drop 8).take 4))).toNat, .int .u32 (UInt32.ofNat (numN ((x.drop 12).take 4))).toNat,
    .bool ((IntKind.i64.wrap ((IntKind.i64.wrap ((x[7]'(by omega)).toNat : Int)).tdiv 2)).tmod 2 == 1), .bool ((IntKind.i64.wrap ((IntKind.i64.wrap ((x[7]'(by omega)).toNat : Int)).tdiv 4)).tmod 2 == 1),
    .bool ((IntKind.i64.wrap ((IntKind.i64.wrap ((x[7]'(by omega)).toNat : Int)).tdiv 8)).tmod 2 == 1), .bool ((IntKind.i64.wrap ((IntKind.i64.wrap ((x[7]'(by omega)).toNat : Int)).tdiv 16)).tmod 2 == 1),
    .int .u32 (UInt32.ofNat (numN ((x.drop 16).take 4))).toNat, .int .u32 (UInt32.ofNat (numN ((x.drop 20).take 4))).toNat, .int .u32 (UInt32.ofNat (numN ((x.drop 24).take 4))).toNat, .int .u8 (x[28]'(by omega)).toNat]
def bitQ (n : Nat) (k : Nat) : Bool := bits .and .u8 ((n : Int).fdiv (2 ^ (min (Int.toNat (k : Int)) IntKind.u8.bits))) 1 == 1
theorem bitq0 : ∀ n : Nat, n < 256 → ((IntKind.i64.wrap (n : Int)).tmod 2 == 1) = bitQ n 0 := by decide +kernel
theorem bitq1 : ∀ n : Nat, n < 256 → ((IntKind.i64.wrap ((IntKind.i64.wrap (n : Int)).tdiv 2)).tmod 2 == 1) = bitQ n 1 := by decide +kernel
theorem bitq2 : ∀ n : Nat, n < 256 → ((IntKind.i64.wrap ((IntKind.i64.wrap (n : Int)).tdiv 4)).tmod 2 == 1) = bitQ n 2 := by decide +kernel
theorem bitq3 : ∀ n : Nat, n < 256 → ((IntKind.i64.wrap ((IntKind.i64.wrap (n : Int)).tdiv 8)).tmod 2 == 1) = bitQ n 3 := by decide +kernel
theorem bitq4 : ∀ n : Nat, n < 256 → ((IntKind.i64.wrap ((IntKind.i64.wrap (n : Int)).tdiv 16)).tmod 2 == 1) = bitQ n 4 := by decide +kernel
theorem one_at {x : List UInt8} {i : Nat} (h : i < x.length) : UInt8.ofNat (numN ((x.drop i).take 1)) = x[i] := by
  rw [List.drop_eq_getElem_cons h, List.take_succ_cons, List.take_zero]
  simp [numN]
theorem atR_eq {x : List UInt8} {i : Nat} (h : i < x.length) : atR x i = x[i] := by simp [atR, List.getD_eq_getElem?_getD, h]
theorem ref_cells {x : List UInt8} (h : x.length = 29) : refCells x h = cellsRu (takeR x 11) := by
  have h7 := (x[7]'(by omega)).toNat_lt
  unfold refCells
  rw [bitq0 _ h7, bitq1 _ h7, bitq2 _ h7, bitq3 _ h7, bitq4 _ h7, ← atR_eq (show 7 < x.length by omega), ← one_at (show 4 < x.length by omega), ← one_at (show 5 < x.length by omega), ← one_at (show 6 < x.length by omega), ← one_at (show 28 < x.length by omega)]
  rfl
theorem rules_app2 {b : List UInt8} {k : Nat} (h : (recAt b k).length = 29) : List.take k (rowsRu (rulesN b k)) ++ [refCells (recAt b k) h] = rowsRu (rulesN b (k + 1)) := by
  rw [ref_cells h, rules_app]
set_option maxRecDepth 100000 in
set_option maxHeartbeats 16000000 in
theorem rparse23_ok (fr : Bool) (b : List UInt8) (hb : b.length ≤ 20000) : PCon prog 25 [encB fr b] (parseV true b) := by
  refine callV_of (fn := Go.Proofs.Tryz.f25) (body := _) tab_ok mixed rfl rfl (by decide) (by simp [Go.Proofs.Tryz.f25]) ?_
  have bad : ∀ {s : St} {v : V}, parseOk b = false → LeV s.h s.nx id 0 [] v (.tup [encPo true noPo, .int .i64 330]) → ∃ v1 h' nx', Ends 0 s v v1 h' nx' ∧ (v1 = parseV true b ∧ h' = [] ∧ nx' = 0) := by
    intro s v h hv
    rw [parseV, if_neg (by simp [h])]
    exact Ends.pure [] hv (by simp)
  (conv => whnf)
  intro _
  (conv => whnf)
  split
  · rename_i h0
    (conv => whnf)
    refine bad (parse_badH ?_) (.tupL ⟨.aggL ⟨.snil_sl, .fr rfl, trivial⟩, .fr rfl, trivial⟩)
    simp at h0
    have : b = [] := by first | exact h0 | exact List.length_eq_zero_iff.1 (by omega)
    simp [headOk, this]
  rename_i h0
  have h0 : 0 < b.length := by simp at h0; first | omega | exact List.length_pos_iff.2 h0
  have hA : (b[0].toNat : Int) = (atR b 0).toNat := by simp [atR, List.getD_eq_getElem?_getD, h0]
  (conv => whnf)
  refine ⟨rfl, _, ⟨by omega, idxB (i := 0) h0⟩, ?_⟩
  (conv => whnf)
  split
  · rename_i h1
    (conv => whnf)
    refine bad (parse_badH ?_) (.tupL ⟨.aggL ⟨.snil_sl, .fr rfl, trivial⟩, .fr rfl, trivial⟩)
    simp at h1
    simp only [headOk, Bool.and_eq_false_imp, decide_eq_true_eq, decide_eq_false_iff_not]
    omega
  rename_i h1
  have h1 : (atR b 0).toNat ≤ 1 := by simp at h1; omega
  (conv => whnf)
  intro _
  (conv => whnf)
  refine ⟨by decide, ?_⟩
  (conv => whnf)
  have hS : IntKind.i64.wrap (((b.length : Nat) : Int) - 1) = ((b.length - 1 : Nat) : Int) := by rw [wrap64] <;> omega
  have hT : (((b.length - 1 : Nat) : Nat) : Int).tmod 29 = (((b.length - 1) % 29 : Nat) : Int) := by rw [Int.tmod_eq_emod_of_nonneg (by omega)]; rfl
  split
  · rename_i h2
    (conv => whnf)
    refine bad (parse_badH ?_) (.tupL ⟨.aggL ⟨.snil_sl, .fr rfl, trivial⟩, .fr rfl, trivial⟩)
    simp only [List.length_map, hS, hT] at h2
    simp at h2
    simp only [headOk, Bool.and_eq_false_imp, decide_eq_true_eq, decide_eq_false_iff_not]
    omega
  rename_i h2
  have h2 : b.length % 29 = 1 := by simp only [List.length_map, hS, hT] at h2; simp at h2; omega
  (conv => whnf)
  refine ⟨rfl, _, ⟨by omega, idxB (i := 0) h0⟩, ?_⟩
  (conv => whnf)
  have hE : (((b[0]).toNat : Int) == 1) = (atR b 0 == 1) := by
    rw [hA]
    have : (atR b 0).toNat = 0 ∨ (atR b 0).toNat = 1 := by omega
    rcases this with h | h
    · rw [show atR b 0 = 0 from UInt8.toNat_inj.1 h]; rfl
    · rw [show atR b 0 = 1 from UInt8.toNat_inj.1 h]; rfl
  refine vcg_loop tab_ok mixed (fun k : {k : Nat // k ≤ recN b ∧ flagsOk b k = true} => ⟨[(0, encB fr b), (2, .ptr 0 0), (4, .ptr 1 0), (5, .int .i64 ((1 + 29 * k.1 : Nat) : Int))], [(0, some (.var true 29 [.snil, .bool false])), (1, some (.var true 29 [.osl 2 15 0 k.1, .bool (atR b 0 == 1)])), (2, some (.arr true false 26 15 (rowsRu (rulesN b k.1))))], 3⟩) (fun k => recN b - k.1) ⟨0, by omega, rfl⟩ (Wk.i (by repeat' (first | exact True.intro | exact id | exact rfl | decide | exact Nat.le_of_ble_eq_true rfl | exact .int_of rfl | exact .bool_of hE | exact .ptr rfl (by omega) | exact .osl_of rfl (by omega) rfl | exact .fr rfl | exact LeL.fr rfl | exact .yld rfl (by omega) | exact .eptr rfl (by omega) | exact .osl0 | exact .snil_sl | exact .to_any | exact LeV.nineA | exact LeV.noA | exact LeB.fr rfl id id | exact LeB.fr (by simp; done) id id | refine Or.inl ⟨by simp, _, rfl, ?_⟩ | exact Or.inr ⟨by simp, _, _, _, _, rfl⟩ | refine ⟨rfl, rfl, rfl, rfl, rfl, rfl, ?_⟩ | refine ⟨?_, ?_⟩)) (by omega)) (fun k => ?_)
  obtain ⟨k, hk, hfl⟩ := k
  have hkb : 29 * k ≤ b.length - 1 := by unfold recN at hk; omega
  (conv => whnf)
  intro _
  (conv => whnf)
  split
  · rename_i hc
    have hc : k < recN b := by
      simp at hc
      unfold recN
      omega
    have hk29 : 29 * k + 29 ≤ b.length - 1 := by unfold recN at hc; omega
    have hw : IntKind.i64.wrap (((1 + 29 * k : Nat) : Int) + 29) = ((1 + 29 * k + 29 : Nat) : Int) := by rw [wrap64] <;> omega
    (conv => whnf)
    simp only [hw]
    refine ⟨trivial, ⟨Int.natCast_nonneg _, Int.natCast_nonneg _, by simp only [Int.toNat_natCast]; omega, by simp; omega⟩, ?_⟩
    have hrec : V.sl fr 1 (List.drop (((1 + 29 * k : Nat) : Int)).toNat (List.take (((1 + 29 * k + 29 : Nat) : Int)).toNat (List.map (fun x : UInt8 => [V.int .u8 x.toNat]) b))) = encB fr (recAt b k) := by
      show _ = V.sl fr 1 (List.map (fun x : UInt8 => [V.int .u8 x.toNat]) ((b.drop (1 + 29 * k)).take 29))
      simp only [Int.toNat_natCast, List.drop_take, List.map_take, List.map_drop, Nat.add_sub_cancel_left]
    have hrl : (recAt b k).length = 29 := by simp [recAt]; omega
    rw [hrec]
    (conv => whnf)
    refine ⟨rfl, _, ⟨by decide, idxB (i := 7) (show 7 < (recAt b k).length by omega)⟩, ?_⟩
    have q0 : V.sl fr 1 (List.drop (Int.toNat 0) (List.take (Int.toNat 4) (List.map (fun x : UInt8 => [V.int .u8 x.toNat]) (recAt b k)))) = encB fr (((recAt b k).drop 0).take 4) := by simp [encB, rowsB, List.map_take, List.map_drop, List.drop_take]
    have q8 : V.sl fr 1 (List.drop (Int.toNat 8) (List.take (Int.toNat 12) (List.map (fun x : UInt8 => [V.int .u8 x.toNat]) (recAt b k)))) = encB fr (((recAt b k).drop 8).take 4) := by simp [encB, rowsB, List.map_take, List.map_drop, List.drop_take]
    have q12 : V.sl fr 1 (List.drop (Int.toNat 12) (List.take (Int.toNat 16) (List.map (fun x : UInt8 => [V.int .u8 x.toNat]) (recAt b k)))) = encB fr (((recAt b k).drop 12).take 4) := by simp [encB, rowsB, List.map_take, List.map_drop, List.drop_take]
    have q16 : V.sl fr 1 (List.drop (Int.toNat 16) (List.take (Int.toNat 20) (List.map (fun x : UInt8 => [V.int .u8 x.toNat]) (recAt b k)))) = encB fr (((recAt b k).drop 16).take 4) := by simp [encB, rowsB, List.map_take, List.map_drop, List.drop_take]
    have q20 : V.sl fr 1 (List.drop (Int.toNat 20) (List.take (Int.toNat 24) (List.map (fun x : UInt8 => [V.int .u8 x.toNat]) (recAt b k)))) = encB fr (((recAt b k).drop 20).take 4) := by simp [encB, rowsB, List.map_take, List.map_drop, List.drop_take]
    have q24 : V.sl fr 1 (List.drop (Int.toNat 24) (List.take (Int.toNat 28) (List.map (fun x : UInt8 => [V.int .u8 x.toNat]) (recAt b k)))) = encB fr (((recAt b k).drop 24).take 4) := by simp [encB, rowsB, List.map_take, List.map_drop, List.drop_take]
    have hw0 := rword_ok fr (((recAt b k).drop 0).take 4) (by simp [hrl])
    have hw8 := rword_ok fr (((recAt b k).drop 8).take 4) (by simp [hrl])
    have hw12 := rword_ok fr (((recAt b k).drop 12).take 4) (by simp [hrl])
    have hw16 := rword_ok fr (((recAt b k).drop 16).take 4) (by simp [hrl])
    have hw20 := rword_ok fr (((recAt b k).drop 20).take 4) (by simp [hrl])
    have hw24 := rword_ok fr (((recAt b k).drop 24).take 4) (by simp [hrl])
    (conv => whnf)
    refine ⟨rfl, ⟨trivial, by decide, by decide, by simp [hrl]⟩, ?_⟩
    (conv => whnf)
    refine ⟨_, [], fun h nx _ => pureV_pure hw0 ⟨.eq_of q0 (encB_free _ _), trivial⟩, by simp, ?_⟩
    (conv => whnf)
    refine ⟨rfl, _, ⟨by decide, idxB (i := 4) (show 4 < (recAt b k).length by omega)⟩, ?_⟩
    (conv => whnf)
    refine ⟨rfl, _, ⟨by decide, idxB (i := 5) (show 5 < (recAt b k).length by omega)⟩, ?_⟩
    (conv => whnf)
    refine ⟨rfl, _, ⟨by decide, idxB (i := 6) (show 6 < (recAt b k).length by omega)⟩, ?_⟩
    (conv => whnf)
    refine ⟨by decide, ?_⟩
    (conv => whnf)
    refine ⟨by decide, ?_⟩
    (conv => whnf)
    refine ⟨by decide, ?_⟩
    (conv => whnf)
    refine ⟨by decide, ?_⟩
    (conv => whnf)
    refine ⟨by decide, ?_⟩
    (conv => whnf)
    refine ⟨by decide, ?_⟩
    (conv => whnf)
    refine ⟨by decide, ?_⟩
    (conv => whnf)
    refine ⟨by decide, ?_⟩
    (conv => whnf)
    refine ⟨by decide, ?_⟩
    (conv => whnf)
    refine ⟨rfl, ⟨by decide, by decide, by decide, by simp [hrl]⟩, ?_⟩
    (conv => whnf)
    refine ⟨_, [], fun h nx _ => pureV_pure hw8 ⟨.eq_of q8 (encB_free _ _), trivial⟩, by simp, ?_⟩
    (conv => whnf)
    refine ⟨rfl, ⟨by decide, by decide, by decide, by simp [hrl]⟩, ?_⟩
    (conv => whnf)
    refine ⟨_, [], fun h nx _ => pureV_pure hw12 ⟨.eq_of q12 (encB_free _ _), trivial⟩, by simp, ?_⟩
    (conv => whnf)
    refine ⟨rfl, ⟨by decide, by decide, by decide, by simp [hrl]⟩, ?_⟩
    (conv => whnf)
    refine ⟨_, [], fun h nx _ => pureV_pure hw16 ⟨.eq_of q16 (encB_free _ _), trivial⟩, by simp, ?_⟩
    (conv => whnf)
    refine ⟨rfl, ⟨by decide, by decide, by decide, by simp [hrl]⟩, ?_⟩
    (conv => whnf)
    refine ⟨_, [], fun h nx _ => pureV_pure hw20 ⟨.eq_of q20 (encB_free _ _), trivial⟩, by simp, ?_⟩
    (conv => whnf)
    refine ⟨rfl, ⟨by decide, by decide, by decide, by simp [hrl]⟩, ?_⟩
    (conv => whnf)
    refine ⟨_, [], fun h nx _ => pureV_pure hw24 ⟨.eq_of q24 (encB_free _ _), trivial⟩, by simp, ?_⟩
    (conv => whnf)
    refine ⟨rfl, _, ⟨by decide, idxB (i := 28) (show 28 < (recAt b k).length by omega)⟩, ?_⟩
    (conv => whnf)
    refine ⟨by kernel_rfl, ?_⟩
    have hat : ((recAt b k)[7]'(by omega)) = atR (recAt b k) 7 := by simp [atR, List.getD_eq_getElem?_getD, hrl]
    have hn := ((recAt b k)[7]'(by omega)).toNat_lt
    have hn7 : IntKind.i64.wrap ((((recAt b k)[7]'(by omega)).toNat : Nat) : Int) = ((((recAt b k)[7]'(by omega)).toNat : Nat) : Int) := by rw [wrap64] <;> omega
    (conv => whnf)
    split
    · rename_i h31
      (conv => whnf)
      have hbad := flags_bad hc (by rw [hn7] at h31; simp at h31; rw [← hat]; omega)
      refine bad (by simp [parseOk, hbad]) (.tupL ⟨.aggL ⟨.snil_sl, .fr rfl, trivial⟩, .fr rfl, trivial⟩)
    rename_i h31
    have h31 : (atR (recAt b k) 7).toNat ≤ 31 := by rw [hn7] at h31; rw [← hat]; simp at h31; omega
    (conv => whnf)
    refine ⟨rfl, by simp, ⟨rfl, rfl, rfl, rfl, by decide⟩, by simp [rulesN], ⟨Nat.le_trans (Nat.mul_le_mul (show _ ≤ 1000 by simp; omega) (Nat.le_refl _)) (by decide +kernel), by simp; omega⟩, ?_⟩
    (conv => whnf)
    exact ⟨⟨k + 1, by omega, flags_succ hfl h31⟩, (Wk.all (renOf [(2, 5)]) [] (by repeat' (first | exact True.intro | exact id | exact rfl | decide | exact Nat.le_of_ble_eq_true rfl | exact .osl_of rfl (by omega) rfl | exact .int_of (hw.trans rfl) | exact LeB.fr (rules_app2 hrl) id id | exact .ptr rfl (by omega) | exact .osl_of rfl (by omega) rfl | exact .fr rfl | exact LeL.fr rfl | exact .yld rfl (by omega) | exact .eptr rfl (by omega) | exact .osl0 | exact .snil_sl | exact .to_any | exact LeV.nineA | exact LeV.noA | exact LeB.fr rfl id id | exact LeB.fr (by simp; done) id id | refine Or.inl ⟨by simp, _, rfl, ?_⟩ | exact Or.inr ⟨by simp, _, _, _, _, rfl⟩ | refine ⟨rfl, rfl, rfl, rfl, rfl, rfl, ?_⟩ | refine ⟨?_, ?_⟩)) (show ∀ b ∈ ([0,1,2] : List Nat), ∀ b' ∈ ([0,1,2] : List Nat), (renOf [(2, 5)]) b = (renOf [(2, 5)]) b' → b = b' by decide) (fun _ h => by omega) (by omega) (by simp)), by simp only; omega⟩
  rename_i hc
  have hc : k = recN b := by
    simp at hc
    unfold recN at hk ⊢
    omega
  subst hc
  (conv => whnf)
  have hlr : (rulesN b (recN b)).length = recN b := by simp [rulesN]
  refine callV_lend [2] (rcheck23_ok false (parsed b)) ⟨.aggL ⟨.fresh_off (LeV.freezeE (ys := rowsRu (rulesN b (recN b))) (by simp) rfl (by simp [hlr]) (by simp [hlr, List.take_of_length_le]) (rowsRu_free _)), .fr rfl, trivial⟩, trivial⟩ (by intro v hv; simp at hv; subst hv; exact encPo_cold _) (one_none rfl) .int ?_
  (conv => whnf)
  split
  · rename_i hch
    have hch : checkP (parsed b) ≠ 0 := by simpa using hch
    (conv => whnf)
    refine bad (by simp [parseOk, hch]) (.tupL ⟨.aggL ⟨.snil_sl, .fr rfl, trivial⟩, .fr rfl, trivial⟩)
  rename_i hch
  have hch : checkP (parsed b) = 0 := by simpa using hch
  have hh : headOk b = true := by simp [headOk, h2, h1]
  (conv => whnf)
  rw [parseV, if_pos (by simp [parseOk, hh, hfl, hch])]
  exact Ends.pure [2] (.tupL ⟨.aggL ⟨LeV.freezeE (ys := rowsRu (rulesN b (recN b))) (by simp) rfl (by simp [hlr]) (by simp [hlr, List.take_of_length_le]) (rowsRu_free _), .fr rfl, trivial⟩, .fr rfl, trivial⟩) (one_none rfl)
end Go.Proofs.YtjpfofmkgdjelaaGreat
