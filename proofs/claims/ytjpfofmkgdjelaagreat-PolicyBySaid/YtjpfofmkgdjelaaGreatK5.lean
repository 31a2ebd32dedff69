/- Joined: P0, R0p, P1, P2, P3, P4. -/
import Derived.Test.YtjpfofmkgdjelaaGreatK4
import Derived.Test.YtjpfofmkgdjelaaGreatK3
/- The data of prefixes, rules, policies; bits of an address. -/
set_option linter.unusedVariables false
set_option linter.unusedSimpArgs false
namespace Go.Proofs.YtjpfofmkgdjelaaGreat
open Go.RowKit
open Go.Proofs.Tryz (prog)

structure Prefix where
  addr : UInt32
  len : UInt8
deriving DecidableEq
structure Rule where
  cover : Prefix
  least : UInt8
  most : UInt8
  hasTag : Bool
  tag : UInt32
  sys : UInt32
  deny : Bool
  hasPref : Bool
  hasMed : Bool
  hasAdd : Bool
  pref : UInt32
  med : UInt32
  add : UInt32
  times : UInt8
deriving DecidableEq
structure Policy where
  rules : List Rule
  els : Bool
deriving DecidableEq
def cellsP (p : Prefix) : List V := [cW p.addr, cB p.len]
def encP (p : Prefix) : V := .agg (cellsP p)
def cellsRu (r : Rule) : List V := [cW r.cover.addr, cB r.cover.len, cB r.least, cB r.most, .bool r.hasTag, cW r.tag, cW r.sys, .bool r.deny, .bool r.hasPref, .bool r.hasMed, .bool r.hasAdd, cW r.pref, cW r.med, cW r.add, cB r.times]
def encRu (r : Rule) : V := .agg (cellsRu r)
abbrev rowsRu (l : List Rule) : List (List V) := l.map cellsRu
def encRus (fr : Bool) (l : List Rule) : V := .sl fr 15 (rowsRu l)
def cellsPo (fr : Bool) (p : Policy) : List V := [encRus fr p.rules, .bool p.els]
def encPo (fr : Bool) (p : Policy) : V := .agg (cellsPo fr p)
theorem cellsP_free (p : Prefix) : ∀ v ∈ cellsP p, Free v := by
  intro v hv
  simp only [cellsP, List.mem_cons, List.not_mem_nil, or_false] at hv
  rcases hv with rfl | rfl <;> exact .int
theorem encP_free (p : Prefix) : Free (encP p) := .agg (cellsP_free p)
theorem encP_cold (p : Prefix) : Cold (encP p) := .agg (by
  intro v hv
  simp only [cellsP, List.mem_cons, List.not_mem_nil, or_false] at hv
  rcases hv with rfl | rfl <;> exact .int)
theorem encP_fresh (p : Prefix) : Fresh (encP p) := .agg (by
  intro v hv
  simp only [cellsP, List.mem_cons, List.not_mem_nil, or_false] at hv
  rcases hv with rfl | rfl <;> exact .int)
theorem cellsRu_all (r : Rule) : ∀ v ∈ cellsRu r, Free v ∧ Cold v ∧ Fresh v := by
  intro v hv
  simp only [cellsRu, List.mem_cons, List.not_mem_nil, or_false] at hv
  rcases hv with rfl | rfl | rfl | rfl | rfl | rfl | rfl | rfl | rfl | rfl | rfl | rfl | rfl | rfl | rfl <;> first | exact ⟨.int, .int, .int⟩ | exact ⟨.bool, .bool, .bool⟩
theorem cellsRu_free (r : Rule) : ∀ v ∈ cellsRu r, Free v := fun v hv => (cellsRu_all r v hv).1
theorem encRu_free (r : Rule) : Free (encRu r) := .agg (cellsRu_free r)
theorem encRu_cold (r : Rule) : Cold (encRu r) := .agg fun v hv => (cellsRu_all r v hv).2.1
theorem rowsRu_all (l : List Rule) : ∀ x ∈ rowsRu l, ∀ v ∈ x, Free v ∧ Cold v ∧ Fresh v := by
  intro x hx v hv
  obtain ⟨r, _, rfl⟩ := List.mem_map.1 hx
  exact cellsRu_all r v hv
theorem rowsRu_free (l : List Rule) : ∀ x ∈ rowsRu l, ∀ v ∈ x, Free v := fun x hx v hv => (rowsRu_all l x hx v hv).1
theorem encRus_free (fr : Bool) (l : List Rule) : Free (encRus fr l) := .sl (rowsRu_free l)
theorem encRus_cold (l : List Rule) : Cold (encRus false l) := .sl fun x hx v hv => (rowsRu_all l x hx v hv).2.1
theorem encRus_fresh (l : List Rule) : Fresh (encRus true l) := .sl fun x hx v hv => (rowsRu_all l x hx v hv).2.2
theorem Less.rus {l : List Rule} : Less (encRus true l) (encRus false l) := .sl (by simp) rfl fun j v v' h1 h2 => by rw [h1] at h2; cases h2; exact Less.refl _
theorem cellsPo_free (fr : Bool) (p : Policy) : ∀ v ∈ cellsPo fr p, Free v := by
  intro v hv
  simp only [cellsPo, List.mem_cons, List.not_mem_nil, or_false] at hv
  rcases hv with rfl | rfl
  · exact encRus_free _ _
  · exact .bool
theorem encPo_free (fr : Bool) (p : Policy) : Free (encPo fr p) := .agg (cellsPo_free fr p)
theorem encPo_cold (p : Policy) : Cold (encPo false p) := .agg (by
  intro v hv
  simp only [cellsPo, List.mem_cons, List.not_mem_nil, or_false] at hv
  rcases hv with rfl | rfl
  · exact encRus_cold _
  · exact .bool)
theorem encPo_fresh (p : Policy) : Fresh (encPo true p) := .agg (by
  intro v hv
  simp only [cellsPo, List.mem_cons, List.not_mem_nil, or_false] at hv
  rcases hv with rfl | rfl
  · exact encRus_fresh _
  · exact .bool)
instance {p} : FreeLI (cellsP p) := ⟨⟨cellsP_free p⟩⟩
instance {p} : FreeI (encP p) := ⟨⟨encP_free p⟩⟩
instance {r} : FreeLI (cellsRu r) := ⟨⟨cellsRu_free r⟩⟩
instance {r} : FreeI (encRu r) := ⟨⟨encRu_free r⟩⟩
instance {l : List Rule} : FreeRI (l.map cellsRu) := ⟨⟨rowsRu_free l⟩⟩
instance {fr l} : FreeI (encRus fr l) := ⟨⟨encRus_free fr l⟩⟩
instance {fr p} : FreeLI (cellsPo fr p) := ⟨⟨cellsPo_free fr p⟩⟩
instance {fr p} : FreeI (encPo fr p) := ⟨⟨encPo_free fr p⟩⟩
theorem idxRu {l : List Rule} {i : Nat} (h : i < l.length) : (l.map cellsRu)[(i : Int).toNat]? = some (cellsRu l[i]) := by simp [h]

/-! ### bits -/
/-- How many bits stand behind one. -/
def hostN (p : Prefix) : Nat := 32 - p.len.toNat
def prefOk (p : Prefix) : Bool := decide ((p.len.toNat : Int) ≤ 32) && decide (p.addr.toNat % 2 ^ hostN p = 0)
def coversP (p q : Prefix) : Bool := prefOk p && prefOk q && decide ((p.len.toNat : Int) ≤ (q.len.toNat : Int)) && decide (q.addr.toNat / 2 ^ hostN p = p.addr.toNat / 2 ^ hostN p)
/-- The mask that leaves k bits out. -/
def maskN (k : Nat) : Nat := 2 ^ 32 - 2 ^ k
theorem mask_shift {k : Nat} (h : k ≤ 32) : maskN k = (2 ^ (32 - k) - 1) <<< k := by
  rw [maskN, Nat.shiftLeft_eq, Nat.sub_mul, ← Nat.pow_add, Nat.one_mul]
  congr 2
  omega
theorem and_mask {x k : Nat} (hx : x < 2 ^ 32) (h : k ≤ 32) : x &&& maskN k = x / 2 ^ k * 2 ^ k := by
  rw [mask_shift h, ← Nat.shiftLeft_eq, ← Nat.shiftRight_eq_div_pow]
  apply Nat.eq_of_testBit_eq
  intro i
  simp only [Nat.testBit_and, Nat.testBit_shiftLeft, Nat.testBit_two_pow_sub_one, Nat.testBit_shiftRight]
  by_cases hk : k ≤ i
  · rw [show k + (i - k) = i by omega]
    by_cases hi : i < 32
    · simp [hk, show i - k < 32 - k by omega]
    · have : x.testBit i = false := Nat.testBit_lt_two_pow (Nat.lt_of_lt_of_le hx (Nat.pow_le_pow_right (by decide) (by omega)))
      simp [this]
  · simp [hk]
theorem mask_lt (k : Nat) : maskN k < 2 ^ 32 := Nat.sub_lt (by decide) (Nat.two_pow_pos k)
theorem bits_and_mask (x : UInt32) {k : Nat} (h : k ≤ 32) : bits .and .u32 (x.toNat : Int) ((maskN k : Nat) : Int) = ((x.toNat / 2 ^ k * 2 ^ k : Nat) : Int) := by
  rw [(bits_nat .u32 32 (by decide) (fun n h0 h1 => by rw [wrap32]; omega) x.toNat (maskN k) x.toNat_lt (mask_lt k)).1, and_mask x.toNat_lt h]
theorem bits_andNot_mask (x : UInt32) {k : Nat} (h : k ≤ 32) : bits .andNot .u32 (x.toNat : Int) ((maskN k : Nat) : Int) = ((x.toNat % 2 ^ k : Nat) : Int) := by
  have hx : x.toNat % 2 ^ IntKind.u32.bits = x.toNat := Nat.mod_eq_of_lt x.toNat_lt
  have hm : maskN k % 2 ^ IntKind.u32.bits = maskN k := Nat.mod_eq_of_lt (mask_lt k)
  have hk : 2 ^ k ≤ 2 ^ 32 := Nat.pow_le_pow_right (by decide) h
  have hn : 2 ^ IntKind.u32.bits - 1 - maskN k = 2 ^ k - 1 := by
    have : 2 ^ IntKind.u32.bits = 2 ^ 32 := rfl
    have hp := Nat.two_pow_pos k
    rw [this, maskN]; omega
  have hlt : x.toNat % 2 ^ k ≤ x.toNat := Nat.mod_le _ _
  have hx2 := x.toNat_lt
  simp only [bits, BitVec.ofInt_natCast, BitVec.toNat_and, BitVec.toNat_not, BitVec.toNat_ofNat, hx, hm, hn]
  rw [Nat.and_two_pow_sub_one_eq_mod, wrap32]
  omega
theorem host_le (p : Prefix) : hostN p ≤ 32 := by unfold hostN; omega
end Go.Proofs.YtjpfofmkgdjelaaGreat
/- What is read at the types of layer 23. -/
set_option linter.unusedVariables false
set_option linter.unusedSimpArgs false
namespace Go.Proofs.YtjpfofmkgdjelaaGreat
open Go.RowKit Go.ChangeShapes Go.WideShapes
open Go.Proofs.Tryz (prog)

theorem rep_prefix : RepOk prog 24 cellsP := fun enc w sp fuel cs x h => by
  have ht := Go.Proofs.Tryz.underlying24
  obtain ⟨xs, n, _, _, hlen, _, _⟩ := DataW.trod_struct ht h
  have hl : cs.length = 2 := hlen.trans (by kernel_rfl)
  obtain ⟨b, h0, o0⟩ := field_at ht h 0 rfl (rep_u32 Go.Proofs.Tryz.underlying22) rfl (by kernel_rfl)
  obtain ⟨l, h1, o1⟩ := field_at ht h 1 rfl (rep_u8 Go.Proofs.Tryz.underlying5) rfl (by kernel_rfl)
  have j1 := vrs_join (vrs_join vrs_take0 h0 rfl (by omega)) h1 rfl (by omega)
  have k1 := one_join (one_join (by simp) o0 rfl (by omega)) o1 rfl (by omega)
  rw [List.take_of_length_le (by omega)] at j1 k1
  exact ⟨⟨b, l⟩, j1, k1⟩
/-- A field of one cell, wherever it lies. -/
theorem field_on {H : Type} {enc : TypeId × Value → H} {w : World} {sp : Nat → Bool} {t : TypeId} {fs : Array Field} {fuel : Nat} {cs : List Value} {x : DataW H × List MemPlace} (ht : prog.underlying t = some (.struct fs)) (h : DataW.trod enc prog w 0 sp true fuel t cs = some x)
    (i o : Nat) {f : Field} (hf : fs[i]? = some f) {α : Type} {cells : α → List V} (he : RepOk prog f.type cells) (ho : f.offset = o) (hz : prog.cellsOf f.type = 1) : ∃ a, vrs (G0 w) w (cells a) ((cs.drop o).take 1) ∧ ∀ u ∈ (cs.drop o).take 1, u.oneCell' = true := by
  have := field_of ht h hf he
  rw [ho, hz] at this
  exact this
theorem rep_rule : RepOk prog 26 cellsRu := fun enc w sp fuel cs x h => by
  have ht := Go.Proofs.Tryz.underlying26
  obtain ⟨xs, n, _, _, hlen, _, _⟩ := DataW.trod_struct ht h
  have hl : cs.length = 15 := hlen.trans (by kernel_rfl)
  obtain ⟨c, h0, o0⟩ := field_of ht h (f := _) (i := 0) rfl rep_prefix
  have hz : prog.cellsOf 24 = 2 := by kernel_rfl
  change vrs (G0 w) w (cellsP c) ((cs.drop 0).take (prog.cellsOf 24)) at h0
  change ∀ u ∈ (cs.drop 0).take (prog.cellsOf 24), u.oneCell' = true at o0
  rw [hz, List.drop_zero] at h0 o0
  obtain ⟨a1, h1, o1⟩ := field_on ht h 1 2 rfl (rep_u8 Go.Proofs.Tryz.underlying5) rfl (by kernel_rfl)
  obtain ⟨a2, h2, o2⟩ := field_on ht h 2 3 rfl (rep_u8 Go.Proofs.Tryz.underlying5) rfl (by kernel_rfl)
  obtain ⟨a3, h3, o3⟩ := field_on ht h 3 4 rfl (rep_bool Go.Proofs.Tryz.underlying4) rfl (by kernel_rfl)
  obtain ⟨a4, h4, o4⟩ := field_on ht h 4 5 rfl (rep_u32 Go.Proofs.Tryz.underlying22) rfl (by kernel_rfl)
  obtain ⟨a5, h5, o5⟩ := field_on ht h 5 6 rfl (rep_u32 Go.Proofs.Tryz.underlying22) rfl (by kernel_rfl)
  obtain ⟨a6, h6, o6⟩ := field_on ht h 6 7 rfl (rep_bool Go.Proofs.Tryz.underlying4) rfl (by kernel_rfl)
  obtain ⟨a7, h7, o7⟩ := field_on ht h 7 8 rfl (rep_bool Go.Proofs.Tryz.underlying4) rfl (by kernel_rfl)
  obtain ⟨a8, h8, o8⟩ := field_on ht h 8 9 rfl (rep_bool Go.Proofs.Tryz.underlying4) rfl (by kernel_rfl)
  obtain ⟨a9, h9, o9⟩ := field_on ht h 9 10 rfl (rep_bool Go.Proofs.Tryz.underlying4) rfl (by kernel_rfl)
  obtain ⟨a10, h10, o10⟩ := field_on ht h 10 11 rfl (rep_u32 Go.Proofs.Tryz.underlying22) rfl (by kernel_rfl)
  obtain ⟨a11, h11, o11⟩ := field_on ht h 11 12 rfl (rep_u32 Go.Proofs.Tryz.underlying22) rfl (by kernel_rfl)
  obtain ⟨a12, h12, o12⟩ := field_on ht h 12 13 rfl (rep_u32 Go.Proofs.Tryz.underlying22) rfl (by kernel_rfl)
  obtain ⟨a13, h13, o13⟩ := field_on ht h 13 14 rfl (rep_u8 Go.Proofs.Tryz.underlying5) rfl (by kernel_rfl)
  have j2 := vrs_join h0 h1 rfl (by omega)
  have j3 := vrs_join j2 h2 rfl (by omega)
  have j4 := vrs_join j3 h3 rfl (by omega)
  have j5 := vrs_join j4 h4 rfl (by omega)
  have j6 := vrs_join j5 h5 rfl (by omega)
  have j7 := vrs_join j6 h6 rfl (by omega)
  have j8 := vrs_join j7 h7 rfl (by omega)
  have j9 := vrs_join j8 h8 rfl (by omega)
  have j10 := vrs_join j9 h9 rfl (by omega)
  have j11 := vrs_join j10 h10 rfl (by omega)
  have j12 := vrs_join j11 h11 rfl (by omega)
  have j13 := vrs_join j12 h12 rfl (by omega)
  have j14 := vrs_join j13 h13 rfl (by omega)
  have k2 := one_join o0 o1 rfl (by omega)
  have k3 := one_join k2 o2 rfl (by omega)
  have k4 := one_join k3 o3 rfl (by omega)
  have k5 := one_join k4 o4 rfl (by omega)
  have k6 := one_join k5 o5 rfl (by omega)
  have k7 := one_join k6 o6 rfl (by omega)
  have k8 := one_join k7 o7 rfl (by omega)
  have k9 := one_join k8 o8 rfl (by omega)
  have k10 := one_join k9 o9 rfl (by omega)
  have k11 := one_join k10 o10 rfl (by omega)
  have k12 := one_join k11 o11 rfl (by omega)
  have k13 := one_join k12 o12 rfl (by omega)
  have k14 := one_join k13 o13 rfl (by omega)
  rw [List.take_of_length_le (by omega)] at j14 k14
  exact ⟨⟨c, a1, a2, a3, a4, a5, a6, a7, a8, a9, a10, a11, a12, a13⟩, j14, k14⟩
theorem rep_rules : RepOk prog 27 (fun l : List Rule => [encRus false l]) :=
  rep_slice (cells := cellsRu) Go.Proofs.Tryz.underlying27 (by kernel_rfl) (by decide) (fun _ => rfl) rep_rule
theorem rep_policy : RepOk prog 29 (cellsPo false) := fun enc w sp fuel cs x h => by
  have ht := Go.Proofs.Tryz.underlying29
  obtain ⟨xs, n, _, _, hlen, _, _⟩ := DataW.trod_struct ht h
  have hl : cs.length = 2 := hlen.trans (by kernel_rfl)
  obtain ⟨b, h0, o0⟩ := field_at ht h 0 rfl rep_rules rfl (by kernel_rfl)
  obtain ⟨l, h1, o1⟩ := field_at ht h 1 rfl (rep_bool Go.Proofs.Tryz.underlying4) rfl (by kernel_rfl)
  have j1 := vrs_join (vrs_join vrs_take0 h0 rfl (by omega)) h1 rfl (by omega)
  have k1 := one_join (one_join (by simp) o0 rfl (by omega)) o1 rfl (by omega)
  rw [List.take_of_length_le (by omega)] at j1 k1
  exact ⟨⟨b, l⟩, j1, k1⟩
theorem arg_prefix : ArgOk prog 24 encP := arg_struct Go.Proofs.Tryz.underlying24 rep_prefix
theorem arg_rule : ArgOk prog 26 encRu := arg_struct Go.Proofs.Tryz.underlying26 rep_rule
theorem arg_policy : ArgOk prog 29 (encPo false) := arg_struct Go.Proofs.Tryz.underlying29 rep_policy
theorem arg_rules : ArgOk prog 27 (encRus false) := arg_slice Go.Proofs.Tryz.underlying27 rep_rules
theorem read_prefix : prog.readableRec 24 = true ∧ 24 < prog.types.size := ⟨by kernel_rfl, of_decide_eq_true (by kernel_rfl)⟩
theorem read_rule : prog.readableRec 26 = true ∧ 26 < prog.types.size := ⟨by kernel_rfl, of_decide_eq_true (by kernel_rfl)⟩
theorem read_rules : prog.readableRec 27 = true ∧ 27 < prog.types.size := ⟨by kernel_rfl, of_decide_eq_true (by kernel_rfl)⟩
theorem read_policy : prog.readableRec 29 = true ∧ 29 < prog.types.size := ⟨by kernel_rfl, of_decide_eq_true (by kernel_rfl)⟩
theorem read_attrs : prog.readableRec 33 = true ∧ 33 < prog.types.size := ⟨by kernel_rfl, of_decide_eq_true (by kernel_rfl)⟩
theorem read_u32 : prog.readableRec 22 = true ∧ 22 < prog.types.size := ⟨by kernel_rfl, of_decide_eq_true (by kernel_rfl)⟩
theorem read_u8 : prog.readableRec 5 = true ∧ 5 < prog.types.size := ⟨by kernel_rfl, of_decide_eq_true (by kernel_rfl)⟩
theorem read_int : prog.readableRec 3 = true ∧ 3 < prog.types.size := ⟨by kernel_rfl, of_decide_eq_true (by kernel_rfl)⟩
theorem read_bytes : prog.readableRec 51 = true ∧ 51 < prog.types.size := ⟨by kernel_rfl, of_decide_eq_true (by kernel_rfl)⟩
end Go.Proofs.YtjpfofmkgdjelaaGreat
/- Contracts: what one is, and covers. -/
set_option linter.unusedVariables false
set_option linter.unusedSimpArgs false
namespace Go.Proofs.YtjpfofmkgdjelaaGreat
open Go.RowKit
open Go.Proofs.Tryz (prog)
attribute [local irreducible] CallV RoundV

theorem mask_val {n : Nat} (h : n < 256) : IntKind.u32.wrap (IntKind.u64.wrap (4294967296 - IntKind.u64.wrap (1 * 2 ^ (min (IntKind.u8.wrap (32 - (if (32 : Int) < n then 32 else (n : Int)))).toNat IntKind.u64.bits)))) = ((maskN (32 - n) : Nat) : Int) := by
  have key : ∀ m : Nat, m ≤ 32 → IntKind.u32.wrap (IntKind.u64.wrap (4294967296 - IntKind.u64.wrap (1 * 2 ^ (min (IntKind.u8.wrap (32 - (m : Int))).toNat IntKind.u64.bits)))) = ((maskN (32 - m) : Nat) : Int) := by
    intro m hm
    have hm' : m = 0 ∨ m = 1 ∨ m = 2 ∨ m = 3 ∨ m = 4 ∨ m = 5 ∨ m = 6 ∨ m = 7 ∨ m = 8 ∨ m = 9 ∨ m = 10 ∨ m = 11 ∨ m = 12 ∨ m = 13 ∨ m = 14 ∨ m = 15 ∨ m = 16 ∨ m = 17 ∨ m = 18 ∨ m = 19 ∨ m = 20 ∨ m = 21 ∨ m = 22 ∨ m = 23 ∨ m = 24 ∨ m = 25 ∨ m = 26 ∨ m = 27 ∨ m = 28 ∨ m = 29 ∨ m = 30 ∨ m = 31 ∨ m = 32 := by omega
    rcases hm' with rfl | rfl | rfl | rfl | rfl | rfl | rfl | rfl | rfl | rfl | rfl | rfl | rfl | rfl | rfl | rfl | rfl | rfl | rfl | rfl | rfl | rfl | rfl | rfl | rfl | rfl | rfl | rfl | rfl | rfl | rfl | rfl | rfl <;> decide
  split
  · rename_i hn
    have hn : 32 < n := by omega
    rw [show 32 - n = 32 - 32 by omega]
    exact key 32 (Nat.le_refl _)
  · exact key n (by omega)
set_option maxRecDepth 100000 in
theorem mask_ok (x : UInt8) : PCon prog 73 [cB x] (.int .u32 (maskN (32 - x.toNat) : Nat)) := by
  refine callV_of (fn := Go.Proofs.Tryz.f73) (body := _) tab_ok mixed rfl rfl (by decide) (by simp [Go.Proofs.Tryz.f73]) ?_
  (conv => whnf)
  refine ⟨by rw [wrap8]; omega, ?_⟩
  (conv => whnf)
  exact (Ends.pure [] (by first | exact .int_of (mask_val x.toNat_lt) | exact .ptr rfl (by omega) | exact .osl_of rfl (by omega) rfl | exact .fr rfl | exact LeL.fr rfl | exact .yld rfl (by omega) | exact .eptr rfl (by omega) | exact .osl0 | exact .snil_sl | exact .to_any | exact LeV.nineA | exact LeV.noA | (refine .tupL ?_; repeat' (first | exact True.intro | exact .int_of (mask_val x.toNat_lt) | exact .ptr rfl (by omega) | exact .osl_of rfl (by omega) rfl | exact .fr rfl | exact LeL.fr rfl | exact .yld rfl (by omega) | exact .eptr rfl (by omega) | exact .osl0 | exact .snil_sl | exact .to_any | exact LeV.nineA | exact LeV.noA | refine .aggL ?_ | refine ⟨?_, ?_⟩)) | (refine .aggL ?_; repeat' (first | exact True.intro | exact .int_of (mask_val x.toNat_lt) | exact .ptr rfl (by omega) | exact .osl_of rfl (by omega) rfl | exact .fr rfl | exact LeL.fr rfl | exact .yld rfl (by omega) | exact .eptr rfl (by omega) | exact .osl0 | exact .snil_sl | exact .to_any | exact LeV.nineA | exact LeV.noA | refine ⟨?_, ?_⟩))) (by simp))
set_option maxRecDepth 100000 in
theorem uRight_ok (p : Prefix) : PCon prog 39 [encP p] (.bool (prefOk p)) := by
  refine callV_of (fn := Go.Proofs.Tryz.f39) (body := _) tab_ok mixed rfl rfl (by decide) (by simp [Go.Proofs.Tryz.f39]) ?_
  (conv => whnf)
  cases h : decide ((p.len.toNat : Int) ≤ 32) with
  | false =>
    (conv => whnf)
    refine ⟨by kernel_rfl, ?_⟩
    (conv => whnf)
    exact (Ends.pure [] (by first | exact .bool_of (by simp [prefOk, h]) | exact .ptr rfl (by omega) | exact .osl_of rfl (by omega) rfl | exact .fr rfl | exact LeL.fr rfl | exact .yld rfl (by omega) | exact .eptr rfl (by omega) | exact .osl0 | exact .snil_sl | exact .to_any | exact LeV.nineA | exact LeV.noA | (refine .tupL ?_; repeat' (first | exact True.intro | exact .bool_of (by simp [prefOk, h]) | exact .ptr rfl (by omega) | exact .osl_of rfl (by omega) rfl | exact .fr rfl | exact LeL.fr rfl | exact .yld rfl (by omega) | exact .eptr rfl (by omega) | exact .osl0 | exact .snil_sl | exact .to_any | exact LeV.nineA | exact LeV.noA | refine .aggL ?_ | refine ⟨?_, ?_⟩)) | (refine .aggL ?_; repeat' (first | exact True.intro | exact .bool_of (by simp [prefOk, h]) | exact .ptr rfl (by omega) | exact .osl_of rfl (by omega) rfl | exact .fr rfl | exact LeL.fr rfl | exact .yld rfl (by omega) | exact .eptr rfl (by omega) | exact .osl0 | exact .snil_sl | exact .to_any | exact LeV.nineA | exact LeV.noA | refine ⟨?_, ?_⟩))) (by simp))
  | true =>
    (conv => whnf)
    refine ⟨_, [], fun h nx _ => pureV_pure (mask_ok p.len) ⟨.free .int, trivial⟩, by simp, ?_⟩
    (conv => whnf)
    refine ⟨by kernel_rfl, ?_⟩
    (conv => whnf)
    refine (Ends.pure [] (by first | exact .bool_of (by rw [prefOk, h, show 32 - p.len.toNat = hostN p from rfl, bits_andNot_mask _ (host_le p), Bool.true_and]; rw [Bool.eq_iff_iff]; simp only [beq_iff_eq, decide_eq_true_eq]; omega) | exact .ptr rfl (by omega) | exact .osl_of rfl (by omega) rfl | exact .fr rfl | exact LeL.fr rfl | exact .yld rfl (by omega) | exact .eptr rfl (by omega) | exact .osl0 | exact .snil_sl | exact .to_any | exact LeV.nineA | exact LeV.noA | (refine .tupL ?_; repeat' (first | exact True.intro | exact .bool_of (by rw [prefOk, h, show 32 - p.len.toNat = hostN p from rfl, bits_andNot_mask _ (host_le p), Bool.true_and]; rw [Bool.eq_iff_iff]; simp only [beq_iff_eq, decide_eq_true_eq]; omega) | exact .ptr rfl (by omega) | exact .osl_of rfl (by omega) rfl | exact .fr rfl | exact LeL.fr rfl | exact .yld rfl (by omega) | exact .eptr rfl (by omega) | exact .osl0 | exact .snil_sl | exact .to_any | exact LeV.nineA | exact LeV.noA | refine .aggL ?_ | refine ⟨?_, ?_⟩)) | (refine .aggL ?_; repeat' (first | exact True.intro | exact .bool_of (by rw [prefOk, h, show 32 - p.len.toNat = hostN p from rfl, bits_andNot_mask _ (host_le p), Bool.true_and]; rw [Bool.eq_iff_iff]; simp only [beq_iff_eq, decide_eq_true_eq]; omega) | exact .ptr rfl (by omega) | exact .osl_of rfl (by omega) rfl | exact .fr rfl | exact LeL.fr rfl | exact .yld rfl (by omega) | exact .eptr rfl (by omega) | exact .osl0 | exact .snil_sl | exact .to_any | exact LeV.nineA | exact LeV.noA | refine ⟨?_, ?_⟩))) (by simp))
theorem cover_eq {p q : Prefix} (h : prefOk p = true) : decide (q.addr.toNat / 2 ^ hostN p = p.addr.toNat / 2 ^ hostN p) = (((q.addr.toNat / 2 ^ hostN p * 2 ^ hostN p : Nat) : Int) == (p.addr.toNat : Int)) := by
  simp only [prefOk, Bool.and_eq_true, decide_eq_true_eq] at h
  have hd := Nat.div_add_mod p.addr.toNat (2 ^ hostN p)
  rw [h.2, Nat.add_zero, Nat.mul_comm] at hd
  rw [Bool.eq_iff_iff]
  simp only [decide_eq_true_eq, beq_iff_eq]
  constructor
  · intro e; rw [e, hd]
  · intro e
    have e : q.addr.toNat / 2 ^ hostN p * 2 ^ hostN p = p.addr.toNat := by omega
    rw [← hd] at e
    exact Nat.mul_right_cancel (Nat.two_pow_pos _) e
set_option maxRecDepth 100000 in
theorem uCovers_ok (p q : Prefix) : PCon prog 63 [encP p, encP q] (.bool (coversP p q)) := by
  refine callV_of (fn := Go.Proofs.Tryz.f63) (body := _) tab_ok mixed rfl rfl (by decide) (by simp [Go.Proofs.Tryz.f63]) ?_
  (conv => whnf)
  refine ⟨_, [], fun h nx _ => pureV_pure (uRight_ok p) ⟨.free (encP_free _), trivial⟩, by simp, ?_⟩
  cases h1 : prefOk p with
  | false =>
    (conv => whnf)
    refine ⟨by kernel_rfl, ?_⟩
    (conv => whnf)
    exact (Ends.pure [] (by first | exact .bool_of (by simp [coversP, h1]) | exact .ptr rfl (by omega) | exact .osl_of rfl (by omega) rfl | exact .fr rfl | exact LeL.fr rfl | exact .yld rfl (by omega) | exact .eptr rfl (by omega) | exact .osl0 | exact .snil_sl | exact .to_any | exact LeV.nineA | exact LeV.noA | (refine .tupL ?_; repeat' (first | exact True.intro | exact .bool_of (by simp [coversP, h1]) | exact .ptr rfl (by omega) | exact .osl_of rfl (by omega) rfl | exact .fr rfl | exact LeL.fr rfl | exact .yld rfl (by omega) | exact .eptr rfl (by omega) | exact .osl0 | exact .snil_sl | exact .to_any | exact LeV.nineA | exact LeV.noA | refine .aggL ?_ | refine ⟨?_, ?_⟩)) | (refine .aggL ?_; repeat' (first | exact True.intro | exact .bool_of (by simp [coversP, h1]) | exact .ptr rfl (by omega) | exact .osl_of rfl (by omega) rfl | exact .fr rfl | exact LeL.fr rfl | exact .yld rfl (by omega) | exact .eptr rfl (by omega) | exact .osl0 | exact .snil_sl | exact .to_any | exact LeV.nineA | exact LeV.noA | refine ⟨?_, ?_⟩))) (by simp))
  | true =>
  (conv => whnf)
  refine ⟨_, [], fun h nx _ => pureV_pure (uRight_ok q) ⟨.free (encP_free _), trivial⟩, by simp, ?_⟩
  cases h2 : prefOk q with
  | false =>
    (conv => whnf)
    refine ⟨by kernel_rfl, ?_⟩
    (conv => whnf)
    exact (Ends.pure [] (by first | exact .bool_of (by simp [coversP, h1, h2]) | exact .ptr rfl (by omega) | exact .osl_of rfl (by omega) rfl | exact .fr rfl | exact LeL.fr rfl | exact .yld rfl (by omega) | exact .eptr rfl (by omega) | exact .osl0 | exact .snil_sl | exact .to_any | exact LeV.nineA | exact LeV.noA | (refine .tupL ?_; repeat' (first | exact True.intro | exact .bool_of (by simp [coversP, h1, h2]) | exact .ptr rfl (by omega) | exact .osl_of rfl (by omega) rfl | exact .fr rfl | exact LeL.fr rfl | exact .yld rfl (by omega) | exact .eptr rfl (by omega) | exact .osl0 | exact .snil_sl | exact .to_any | exact LeV.nineA | exact LeV.noA | refine .aggL ?_ | refine ⟨?_, ?_⟩)) | (refine .aggL ?_; repeat' (first | exact True.intro | exact .bool_of (by simp [coversP, h1, h2]) | exact .ptr rfl (by omega) | exact .osl_of rfl (by omega) rfl | exact .fr rfl | exact LeL.fr rfl | exact .yld rfl (by omega) | exact .eptr rfl (by omega) | exact .osl0 | exact .snil_sl | exact .to_any | exact LeV.nineA | exact LeV.noA | refine ⟨?_, ?_⟩))) (by simp))
  | true =>
  (conv => whnf)
  cases h3 : decide ((p.len.toNat : Int) ≤ (q.len.toNat : Int)) with
  | false =>
    (conv => whnf)
    refine ⟨by kernel_rfl, ?_⟩
    (conv => whnf)
    exact (Ends.pure [] (by first | exact .bool_of (by simp only [coversP, h1, h2, h3]; rfl) | exact .ptr rfl (by omega) | exact .osl_of rfl (by omega) rfl | exact .fr rfl | exact LeL.fr rfl | exact .yld rfl (by omega) | exact .eptr rfl (by omega) | exact .osl0 | exact .snil_sl | exact .to_any | exact LeV.nineA | exact LeV.noA | (refine .tupL ?_; repeat' (first | exact True.intro | exact .bool_of (by simp only [coversP, h1, h2, h3]; rfl) | exact .ptr rfl (by omega) | exact .osl_of rfl (by omega) rfl | exact .fr rfl | exact LeL.fr rfl | exact .yld rfl (by omega) | exact .eptr rfl (by omega) | exact .osl0 | exact .snil_sl | exact .to_any | exact LeV.nineA | exact LeV.noA | refine .aggL ?_ | refine ⟨?_, ?_⟩)) | (refine .aggL ?_; repeat' (first | exact True.intro | exact .bool_of (by simp only [coversP, h1, h2, h3]; rfl) | exact .ptr rfl (by omega) | exact .osl_of rfl (by omega) rfl | exact .fr rfl | exact LeL.fr rfl | exact .yld rfl (by omega) | exact .eptr rfl (by omega) | exact .osl0 | exact .snil_sl | exact .to_any | exact LeV.nineA | exact LeV.noA | refine ⟨?_, ?_⟩))) (by simp))
  | true =>
  (conv => whnf)
  refine ⟨_, [], fun h nx _ => pureV_pure (mask_ok p.len) ⟨.free .int, trivial⟩, by simp, ?_⟩
  (conv => whnf)
  refine ⟨by kernel_rfl, ?_⟩
  (conv => whnf)
  exact (Ends.pure [] (by first | exact .bool_of (by rw [coversP, h1, h2, h3, show 32 - p.len.toNat = hostN p from rfl, bits_and_mask _ (host_le p), cover_eq h1]; rfl) | exact .ptr rfl (by omega) | exact .osl_of rfl (by omega) rfl | exact .fr rfl | exact LeL.fr rfl | exact .yld rfl (by omega) | exact .eptr rfl (by omega) | exact .osl0 | exact .snil_sl | exact .to_any | exact LeV.nineA | exact LeV.noA | (refine .tupL ?_; repeat' (first | exact True.intro | exact .bool_of (by rw [coversP, h1, h2, h3, show 32 - p.len.toNat = hostN p from rfl, bits_and_mask _ (host_le p), cover_eq h1]; rfl) | exact .ptr rfl (by omega) | exact .osl_of rfl (by omega) rfl | exact .fr rfl | exact LeL.fr rfl | exact .yld rfl (by omega) | exact .eptr rfl (by omega) | exact .osl0 | exact .snil_sl | exact .to_any | exact LeV.nineA | exact LeV.noA | refine .aggL ?_ | refine ⟨?_, ?_⟩)) | (refine .aggL ?_; repeat' (first | exact True.intro | exact .bool_of (by rw [coversP, h1, h2, h3, show 32 - p.len.toNat = hostN p from rfl, bits_and_mask _ (host_le p), cover_eq h1]; rfl) | exact .ptr rfl (by omega) | exact .osl_of rfl (by omega) rfl | exact .fr rfl | exact LeL.fr rfl | exact .yld rfl (by omega) | exact .eptr rfl (by omega) | exact .osl0 | exact .snil_sl | exact .to_any | exact LeV.nineA | exact LeV.noA | refine ⟨?_, ?_⟩))) (by simp))
/-- One bit of an address. -/
def bitN (x : UInt32) (k : Nat) : Nat := x.toNat / 2 ^ k % 2
theorem tmod2 (d : Nat) : Int.tmod (d : Int) 2 = ((d % 2 : Nat) : Int) := by
  rw [Int.tmod_eq_emod_of_nonneg (by omega)]
  omega
theorem half_pow (x : UInt32) (k : Nat) : IntKind.u32.wrap (Int.tdiv ((x.toNat / 2 ^ k : Nat) : Int) 2) = ((x.toNat / 2 ^ (k + 1) : Nat) : Int) := by
  have hx := x.toNat_lt
  have h1 : x.toNat / 2 ^ k ≤ x.toNat := Nat.div_le_self _ _
  rw [Nat.pow_succ, ← Nat.div_div_eq_div_mul]
  generalize x.toNat / 2 ^ k = d at *
  rw [Int.tdiv_eq_ediv_of_nonneg (by omega), wrap32]
  omega
set_option maxRecDepth 100000 in
theorem bit_ok (x : UInt32) (i : Nat) (hi : i < 32) : PCon prog 69 [cW x, cI i] (.int .u32 (bitN x (31 - i) : Nat)) := by
  refine callV_of (fn := Go.Proofs.Tryz.f69) (body := _) tab_ok mixed rfl rfl (by decide) (by simp [Go.Proofs.Tryz.f69]) ?_
  (conv => whnf)
  refine vcg_loop tab_ok mixed (fun k : {k : Nat // k ≤ 31 - i} => ⟨[(0, .int .u32 (x.toNat / 2 ^ k.1 : Nat)), (1, cI i), (5, cI k.1)], [], 0⟩) (fun k => 31 - i - k.1) ⟨0, by omega⟩ (Wk.i (by repeat' (first | exact True.intro | exact id | exact rfl | decide | exact Nat.le_of_ble_eq_true rfl | exact .int_of (by simp) | exact .ptr rfl (by omega) | exact .osl_of rfl (by omega) rfl | exact .fr rfl | exact LeL.fr rfl | exact .yld rfl (by omega) | exact .eptr rfl (by omega) | exact .osl0 | exact .snil_sl | exact .to_any | exact LeV.nineA | exact LeV.noA | exact LeB.fr rfl id id | exact LeB.fr (by simp; done) id id | refine Or.inl ⟨by simp, _, rfl, ?_⟩ | exact Or.inr ⟨by simp, _, _, _, _, rfl⟩ | refine ⟨rfl, rfl, rfl, rfl, rfl, rfl, ?_⟩ | refine ⟨?_, ?_⟩)) (by omega)) (fun k => ?_)
  obtain ⟨k, hk⟩ := k
  have w1 : IntKind.i64.wrap (31 - (i : Int)) = ((31 - i : Nat) : Int) := by rw [wrap64] <;> omega
  (conv => whnf)
  split
  · rename_i hc
    have hc : k < 31 - i := by simp only [w1] at hc; simpa using hc
    have hx := x.toNat_lt
    (conv => whnf)
    refine ⟨by decide, ?_⟩
    (conv => whnf)
    refine ⟨⟨k + 1, by omega⟩, (Wk.i (by repeat' (first | exact True.intro | exact id | exact rfl | decide | exact Nat.le_of_ble_eq_true rfl | exact .int_of (half_pow x k) | exact .int_of (by simp only; rw [wrap64] <;> omega) | exact .ptr rfl (by omega) | exact .osl_of rfl (by omega) rfl | exact .fr rfl | exact LeL.fr rfl | exact .yld rfl (by omega) | exact .eptr rfl (by omega) | exact .osl0 | exact .snil_sl | exact .to_any | exact LeV.nineA | exact LeV.noA | exact LeB.fr rfl id id | exact LeB.fr (by simp; done) id id | refine Or.inl ⟨by simp, _, rfl, ?_⟩ | exact Or.inr ⟨by simp, _, _, _, _, rfl⟩ | refine ⟨rfl, rfl, rfl, rfl, rfl, rfl, ?_⟩ | refine ⟨?_, ?_⟩)) (by omega)), by simp only; omega⟩
  · rename_i hc
    have hc : k = 31 - i := by simp only [w1] at hc; simp at hc; omega
    subst hc
    (conv => whnf)
    refine ⟨by decide, ?_⟩
    (conv => whnf)
    exact (Ends.pure [] (by first | exact .int_of (by rw [bitN]; exact tmod2 _) | exact .ptr rfl (by omega) | exact .osl_of rfl (by omega) rfl | exact .fr rfl | exact LeL.fr rfl | exact .yld rfl (by omega) | exact .eptr rfl (by omega) | exact .osl0 | exact .snil_sl | exact .to_any | exact LeV.nineA | exact LeV.noA | (refine .tupL ?_; repeat' (first | exact True.intro | exact .int_of (by rw [bitN]; exact tmod2 _) | exact .ptr rfl (by omega) | exact .osl_of rfl (by omega) rfl | exact .fr rfl | exact LeL.fr rfl | exact .yld rfl (by omega) | exact .eptr rfl (by omega) | exact .osl0 | exact .snil_sl | exact .to_any | exact LeV.nineA | exact LeV.noA | refine .aggL ?_ | refine ⟨?_, ?_⟩)) | (refine .aggL ?_; repeat' (first | exact True.intro | exact .int_of (by rw [bitN]; exact tmod2 _) | exact .ptr rfl (by omega) | exact .osl_of rfl (by omega) rfl | exact .fr rfl | exact LeL.fr rfl | exact .yld rfl (by omega) | exact .eptr rfl (by omega) | exact .osl0 | exact .snil_sl | exact .to_any | exact LeV.nineA | exact LeV.noA | refine ⟨?_, ?_⟩))) (by simp))
theorem mod_bit (x : UInt32) {i : Nat} (hi : i < 32) : x.toNat % 2 ^ (32 - i) = x.toNat % 2 ^ (31 - i) + 2 ^ (31 - i) * bitN x (31 - i) := by
  rw [show 32 - i = (31 - i) + 1 by omega, Nat.mod_pow_succ]
  rfl
theorem div_bit (x : UInt32) {i : Nat} (hi : i < 32) : x.toNat / 2 ^ (31 - i) = 2 * (x.toNat / 2 ^ (32 - i)) + bitN x (31 - i) := by
  rw [show 32 - i = (31 - i) + 1 by omega, Nat.pow_succ, ← Nat.div_div_eq_div_mul, bitN]
  omega
/-- No bit is set from the length on, up to i. -/
def x32 (p : Prefix) (i : Nat) : Prop := p.addr.toNat % 2 ^ (32 - p.len.toNat) = p.addr.toNat % 2 ^ (32 - i)
/-- The first i bits are the same. -/
def y32 (p q : Prefix) (i : Nat) : Prop := q.addr.toNat / 2 ^ (32 - i) = p.addr.toNat / 2 ^ (32 - i)
theorem y32_zero (p q : Prefix) : y32 p q 0 := by
  unfold y32
  rw [Nat.div_eq_of_lt q.addr.toNat_lt, Nat.div_eq_of_lt p.addr.toNat_lt]
theorem bits_of_div {p q : Prefix} {i : Nat} (e : q.addr.toNat / 2 ^ hostN p = p.addr.toNat / 2 ^ hostN p) (hi : i < p.len.toNat) (h32 : p.len.toNat ≤ 32) : bitN p.addr (31 - i) = bitN q.addr (31 - i) := by
  have key : ∀ x : Nat, x / 2 ^ (31 - i) = x / 2 ^ hostN p / 2 ^ (p.len.toNat - 1 - i) := by
    intro x
    rw [Nat.div_div_eq_div_mul, ← Nat.pow_add]
    congr 2
    unfold hostN
    omega
  unfold bitN
  rw [key, key, e]
set_option maxRecDepth 100000 in
theorem rRight_ok (p : Prefix) : PCon prog 33 [encP p] (.bool (prefOk p)) := by
  refine callV_of (fn := Go.Proofs.Tryz.f33) (body := _) tab_ok mixed rfl rfl (by decide) (by simp [Go.Proofs.Tryz.f33]) ?_
  (conv => whnf)
  split
  · rename_i h
    (conv => whnf)
    exact (Ends.pure [] (by first | exact .bool_of (by simp at h; simp [prefOk]; omega) | exact .ptr rfl (by omega) | exact .osl_of rfl (by omega) rfl | exact .fr rfl | exact LeL.fr rfl | exact .yld rfl (by omega) | exact .eptr rfl (by omega) | exact .osl0 | exact .snil_sl | exact .to_any | exact LeV.nineA | exact LeV.noA | (refine .tupL ?_; repeat' (first | exact True.intro | exact .bool_of (by simp at h; simp [prefOk]; omega) | exact .ptr rfl (by omega) | exact .osl_of rfl (by omega) rfl | exact .fr rfl | exact LeL.fr rfl | exact .yld rfl (by omega) | exact .eptr rfl (by omega) | exact .osl0 | exact .snil_sl | exact .to_any | exact LeV.nineA | exact LeV.noA | refine .aggL ?_ | refine ⟨?_, ?_⟩)) | (refine .aggL ?_; repeat' (first | exact True.intro | exact .bool_of (by simp at h; simp [prefOk]; omega) | exact .ptr rfl (by omega) | exact .osl_of rfl (by omega) rfl | exact .fr rfl | exact LeL.fr rfl | exact .yld rfl (by omega) | exact .eptr rfl (by omega) | exact .osl0 | exact .snil_sl | exact .to_any | exact LeV.nineA | exact LeV.noA | refine ⟨?_, ?_⟩))) (by simp))
  · rename_i h
    have h32 : p.len.toNat ≤ 32 := by simp at h; omega
    have hn : hostN p = 32 - p.len.toNat := rfl
    have w0 : IntKind.i64.wrap (p.len.toNat : Int) = (p.len.toNat : Int) := wrap64 (by omega) (by omega)
    (conv => whnf)
    refine vcg_loop tab_ok mixed (fun i : {i : Nat // i ≤ 32 ∧ x32 p i} => ⟨[(1, .ptr 0 0), (3, cI i.1)], [(0, some (.var true 24 (cellsP p)))], 1⟩) (fun i => 32 - i.1) ⟨p.len.toNat, h32, rfl⟩ (Wk.i (by repeat' (first | exact True.intro | exact id | exact rfl | decide | exact Nat.le_of_ble_eq_true rfl | exact .int_of w0 | exact .ptr rfl (by omega) | exact .osl_of rfl (by omega) rfl | exact .fr rfl | exact LeL.fr rfl | exact .yld rfl (by omega) | exact .eptr rfl (by omega) | exact .osl0 | exact .snil_sl | exact .to_any | exact LeV.nineA | exact LeV.noA | exact LeB.fr rfl id id | exact LeB.fr (by simp; done) id id | refine Or.inl ⟨by simp, _, rfl, ?_⟩ | exact Or.inr ⟨by simp, _, _, _, _, rfl⟩ | refine ⟨rfl, rfl, rfl, rfl, rfl, rfl, ?_⟩ | refine ⟨?_, ?_⟩)) (by omega)) (fun i => ?_)
    obtain ⟨i, hi, hx⟩ := i
    (conv => whnf)
    split
    · rename_i hc
      have hc : i < 32 := by simp at hc; omega
      (conv => whnf)
      refine callV_pure (bit_ok p.addr i hc) ⟨.free .int, .int_of rfl, trivial⟩ ?_
      (conv => whnf)
      have hb := mod_bit p.addr hc
      have hlt : bitN p.addr (31 - i) < 2 := Nat.mod_lt _ (by decide)
      split
      · rename_i h1
        have h1 : bitN p.addr (31 - i) = 1 := by simp at h1; omega
        have hp := Nat.two_pow_pos (31 - i)
        (conv => whnf)
        refine (Ends.pure [] (by first | exact .bool_of (by symm; simp only [prefOk, Bool.and_eq_false_iff]; right; rw [decide_eq_false_iff_not, hn]; intro h0; unfold x32 at hx; rw [hx, hb, h1] at h0; omega) | exact .ptr rfl (by omega) | exact .osl_of rfl (by omega) rfl | exact .fr rfl | exact LeL.fr rfl | exact .yld rfl (by omega) | exact .eptr rfl (by omega) | exact .osl0 | exact .snil_sl | exact .to_any | exact LeV.nineA | exact LeV.noA | (refine .tupL ?_; repeat' (first | exact True.intro | exact .bool_of (by symm; simp only [prefOk, Bool.and_eq_false_iff]; right; rw [decide_eq_false_iff_not, hn]; intro h0; unfold x32 at hx; rw [hx, hb, h1] at h0; omega) | exact .ptr rfl (by omega) | exact .osl_of rfl (by omega) rfl | exact .fr rfl | exact LeL.fr rfl | exact .yld rfl (by omega) | exact .eptr rfl (by omega) | exact .osl0 | exact .snil_sl | exact .to_any | exact LeV.nineA | exact LeV.noA | refine .aggL ?_ | refine ⟨?_, ?_⟩)) | (refine .aggL ?_; repeat' (first | exact True.intro | exact .bool_of (by symm; simp only [prefOk, Bool.and_eq_false_iff]; right; rw [decide_eq_false_iff_not, hn]; intro h0; unfold x32 at hx; rw [hx, hb, h1] at h0; omega) | exact .ptr rfl (by omega) | exact .osl_of rfl (by omega) rfl | exact .fr rfl | exact LeL.fr rfl | exact .yld rfl (by omega) | exact .eptr rfl (by omega) | exact .osl0 | exact .snil_sl | exact .to_any | exact LeV.nineA | exact LeV.noA | refine ⟨?_, ?_⟩))) (by simp))
      · rename_i h1
        have h1 : bitN p.addr (31 - i) = 0 := by simp at h1; omega
        (conv => whnf)
        refine ⟨⟨i + 1, by omega, ?_⟩, (Wk.i (by repeat' (first | exact True.intro | exact id | exact rfl | decide | exact Nat.le_of_ble_eq_true rfl | exact .int_of (by simp only; rw [wrap64] <;> omega) | exact .ptr rfl (by omega) | exact .osl_of rfl (by omega) rfl | exact .fr rfl | exact LeL.fr rfl | exact .yld rfl (by omega) | exact .eptr rfl (by omega) | exact .osl0 | exact .snil_sl | exact .to_any | exact LeV.nineA | exact LeV.noA | exact LeB.fr rfl id id | exact LeB.fr (by simp; done) id id | refine Or.inl ⟨by simp, _, rfl, ?_⟩ | exact Or.inr ⟨by simp, _, _, _, _, rfl⟩ | refine ⟨rfl, rfl, rfl, rfl, rfl, rfl, ?_⟩ | refine ⟨?_, ?_⟩)) (by omega)), by simp only; omega⟩
        unfold x32 at hx ⊢
        rw [hx, hb, h1, show 32 - (i + 1) = 31 - i by omega]
        omega
    · rename_i hc
      have hc : i = 32 := by simp at hc; omega
      subst hc
      (conv => whnf)
      refine (Ends.pure [] (by first | exact .bool_of (by symm; simp only [prefOk, Bool.and_eq_true, decide_eq_true_eq]; refine ⟨by omega, ?_⟩; rw [hn]; unfold x32 at hx; rw [hx]; exact Nat.mod_one _) | exact .ptr rfl (by omega) | exact .osl_of rfl (by omega) rfl | exact .fr rfl | exact LeL.fr rfl | exact .yld rfl (by omega) | exact .eptr rfl (by omega) | exact .osl0 | exact .snil_sl | exact .to_any | exact LeV.nineA | exact LeV.noA | (refine .tupL ?_; repeat' (first | exact True.intro | exact .bool_of (by symm; simp only [prefOk, Bool.and_eq_true, decide_eq_true_eq]; refine ⟨by omega, ?_⟩; rw [hn]; unfold x32 at hx; rw [hx]; exact Nat.mod_one _) | exact .ptr rfl (by omega) | exact .osl_of rfl (by omega) rfl | exact .fr rfl | exact LeL.fr rfl | exact .yld rfl (by omega) | exact .eptr rfl (by omega) | exact .osl0 | exact .snil_sl | exact .to_any | exact LeV.nineA | exact LeV.noA | refine .aggL ?_ | refine ⟨?_, ?_⟩)) | (refine .aggL ?_; repeat' (first | exact True.intro | exact .bool_of (by symm; simp only [prefOk, Bool.and_eq_true, decide_eq_true_eq]; refine ⟨by omega, ?_⟩; rw [hn]; unfold x32 at hx; rw [hx]; exact Nat.mod_one _) | exact .ptr rfl (by omega) | exact .osl_of rfl (by omega) rfl | exact .fr rfl | exact LeL.fr rfl | exact .yld rfl (by omega) | exact .eptr rfl (by omega) | exact .osl0 | exact .snil_sl | exact .to_any | exact LeV.nineA | exact LeV.noA | refine ⟨?_, ?_⟩))) (by simp))
set_option maxRecDepth 100000 in
theorem rCovers_ok (p q : Prefix) : PCon prog 34 [encP p, encP q] (.bool (coversP p q)) := by
  refine callV_of (fn := Go.Proofs.Tryz.f34) (body := _) tab_ok mixed rfl rfl (by decide) (by simp [Go.Proofs.Tryz.f34]) ?_
  (conv => whnf)
  refine callV_pure (rRight_ok p) ⟨.free (encP_free _), trivial⟩ ?_
  cases h1 : prefOk p with
  | false =>
    (conv => whnf)
    exact (Ends.pure [] (by first | exact .bool_of (by simp [coversP, h1]) | exact .ptr rfl (by omega) | exact .osl_of rfl (by omega) rfl | exact .fr rfl | exact LeL.fr rfl | exact .yld rfl (by omega) | exact .eptr rfl (by omega) | exact .osl0 | exact .snil_sl | exact .to_any | exact LeV.nineA | exact LeV.noA | (refine .tupL ?_; repeat' (first | exact True.intro | exact .bool_of (by simp [coversP, h1]) | exact .ptr rfl (by omega) | exact .osl_of rfl (by omega) rfl | exact .fr rfl | exact LeL.fr rfl | exact .yld rfl (by omega) | exact .eptr rfl (by omega) | exact .osl0 | exact .snil_sl | exact .to_any | exact LeV.nineA | exact LeV.noA | refine .aggL ?_ | refine ⟨?_, ?_⟩)) | (refine .aggL ?_; repeat' (first | exact True.intro | exact .bool_of (by simp [coversP, h1]) | exact .ptr rfl (by omega) | exact .osl_of rfl (by omega) rfl | exact .fr rfl | exact LeL.fr rfl | exact .yld rfl (by omega) | exact .eptr rfl (by omega) | exact .osl0 | exact .snil_sl | exact .to_any | exact LeV.nineA | exact LeV.noA | refine ⟨?_, ?_⟩))) (by simp))
  | true =>
  (conv => whnf)
  refine callV_pure (rRight_ok q) ⟨.free (encP_free _), trivial⟩ ?_
  cases h2 : prefOk q with
  | false =>
    (conv => whnf)
    exact (Ends.pure [] (by first | exact .bool_of (by simp [coversP, h1, h2]) | exact .ptr rfl (by omega) | exact .osl_of rfl (by omega) rfl | exact .fr rfl | exact LeL.fr rfl | exact .yld rfl (by omega) | exact .eptr rfl (by omega) | exact .osl0 | exact .snil_sl | exact .to_any | exact LeV.nineA | exact LeV.noA | (refine .tupL ?_; repeat' (first | exact True.intro | exact .bool_of (by simp [coversP, h1, h2]) | exact .ptr rfl (by omega) | exact .osl_of rfl (by omega) rfl | exact .fr rfl | exact LeL.fr rfl | exact .yld rfl (by omega) | exact .eptr rfl (by omega) | exact .osl0 | exact .snil_sl | exact .to_any | exact LeV.nineA | exact LeV.noA | refine .aggL ?_ | refine ⟨?_, ?_⟩)) | (refine .aggL ?_; repeat' (first | exact True.intro | exact .bool_of (by simp [coversP, h1, h2]) | exact .ptr rfl (by omega) | exact .osl_of rfl (by omega) rfl | exact .fr rfl | exact LeL.fr rfl | exact .yld rfl (by omega) | exact .eptr rfl (by omega) | exact .osl0 | exact .snil_sl | exact .to_any | exact LeV.nineA | exact LeV.noA | refine ⟨?_, ?_⟩))) (by simp))
  | true =>
  (conv => whnf)
  split
  · rename_i h3
    (conv => whnf)
    exact (Ends.pure [] (by first | exact .bool_of (by symm; simp only [coversP, h1, h2]; simp at h3; simp; intro h; omega) | exact .ptr rfl (by omega) | exact .osl_of rfl (by omega) rfl | exact .fr rfl | exact LeL.fr rfl | exact .yld rfl (by omega) | exact .eptr rfl (by omega) | exact .osl0 | exact .snil_sl | exact .to_any | exact LeV.nineA | exact LeV.noA | (refine .tupL ?_; repeat' (first | exact True.intro | exact .bool_of (by symm; simp only [coversP, h1, h2]; simp at h3; simp; intro h; omega) | exact .ptr rfl (by omega) | exact .osl_of rfl (by omega) rfl | exact .fr rfl | exact LeL.fr rfl | exact .yld rfl (by omega) | exact .eptr rfl (by omega) | exact .osl0 | exact .snil_sl | exact .to_any | exact LeV.nineA | exact LeV.noA | refine .aggL ?_ | refine ⟨?_, ?_⟩)) | (refine .aggL ?_; repeat' (first | exact True.intro | exact .bool_of (by symm; simp only [coversP, h1, h2]; simp at h3; simp; intro h; omega) | exact .ptr rfl (by omega) | exact .osl_of rfl (by omega) rfl | exact .fr rfl | exact LeL.fr rfl | exact .yld rfl (by omega) | exact .eptr rfl (by omega) | exact .osl0 | exact .snil_sl | exact .to_any | exact LeV.nineA | exact LeV.noA | refine ⟨?_, ?_⟩))) (by simp))
  · rename_i h3
    have h3 : p.len.toNat ≤ q.len.toNat := by simp at h3; omega
    have hp32 : p.len.toNat ≤ 32 := by simp only [prefOk, Bool.and_eq_true, decide_eq_true_eq] at h1; omega
    have w0 : IntKind.i64.wrap (p.len.toNat : Int) = (p.len.toNat : Int) := wrap64 (by omega) (by omega)
    (conv => whnf)
    refine vcg_loop tab_ok mixed (fun i : {i : Nat // i ≤ p.len.toNat ∧ y32 p q i} => ⟨[(2, .ptr 0 0), (3, .ptr 1 0), (5, cI i.1)], [(0, some (.var true 24 (cellsP p))), (1, some (.var true 24 (cellsP q)))], 2⟩) (fun i => 32 - i.1) ⟨0, by omega, y32_zero p q⟩ (Wk.i (by repeat' (first | exact True.intro | exact id | exact rfl | decide | exact Nat.le_of_ble_eq_true rfl | exact .ptr rfl (by omega) | exact .osl_of rfl (by omega) rfl | exact .fr rfl | exact LeL.fr rfl | exact .yld rfl (by omega) | exact .eptr rfl (by omega) | exact .osl0 | exact .snil_sl | exact .to_any | exact LeV.nineA | exact LeV.noA | exact LeB.fr rfl id id | exact LeB.fr (by simp; done) id id | refine Or.inl ⟨by simp, _, rfl, ?_⟩ | exact Or.inr ⟨by simp, _, _, _, _, rfl⟩ | refine ⟨rfl, rfl, rfl, rfl, rfl, rfl, ?_⟩ | refine ⟨?_, ?_⟩)) (by omega)) (fun i => ?_)
    obtain ⟨i, hi, hx⟩ := i
    (conv => whnf)
    split
    · rename_i hc
      have hc : i < p.len.toNat := by simp only [w0] at hc; simpa using hc
      (conv => whnf)
      refine ⟨_, [], fun h nx _ => pureV_pure (bit_ok p.addr i (by omega)) ⟨.free .int, .int_of rfl, trivial⟩, by simp, ?_⟩
      (conv => whnf)
      refine ⟨_, [], fun h nx _ => pureV_pure (bit_ok q.addr i (by omega)) ⟨.free .int, .int_of rfl, trivial⟩, by simp, ?_⟩
      (conv => whnf)
      refine ⟨by kernel_rfl, ?_⟩
      (conv => whnf)
      have hb := div_bit p.addr (i := i) (by omega)
      have hb' := div_bit q.addr (i := i) (by omega)
      unfold y32 at hx
      split
      · rename_i hne
        have hne : bitN p.addr (31 - i) ≠ bitN q.addr (31 - i) := by intro e; rw [e] at hne; simp at hne
        (conv => whnf)
        refine (Ends.pure [] (by first | exact .bool_of (by symm; simp only [coversP, h1, h2, Bool.true_and, Bool.and_eq_false_iff]; right; rw [decide_eq_false_iff_not]; intro e; exact hne (bits_of_div e hc hp32)) | exact .ptr rfl (by omega) | exact .osl_of rfl (by omega) rfl | exact .fr rfl | exact LeL.fr rfl | exact .yld rfl (by omega) | exact .eptr rfl (by omega) | exact .osl0 | exact .snil_sl | exact .to_any | exact LeV.nineA | exact LeV.noA | (refine .tupL ?_; repeat' (first | exact True.intro | exact .bool_of (by symm; simp only [coversP, h1, h2, Bool.true_and, Bool.and_eq_false_iff]; right; rw [decide_eq_false_iff_not]; intro e; exact hne (bits_of_div e hc hp32)) | exact .ptr rfl (by omega) | exact .osl_of rfl (by omega) rfl | exact .fr rfl | exact LeL.fr rfl | exact .yld rfl (by omega) | exact .eptr rfl (by omega) | exact .osl0 | exact .snil_sl | exact .to_any | exact LeV.nineA | exact LeV.noA | refine .aggL ?_ | refine ⟨?_, ?_⟩)) | (refine .aggL ?_; repeat' (first | exact True.intro | exact .bool_of (by symm; simp only [coversP, h1, h2, Bool.true_and, Bool.and_eq_false_iff]; right; rw [decide_eq_false_iff_not]; intro e; exact hne (bits_of_div e hc hp32)) | exact .ptr rfl (by omega) | exact .osl_of rfl (by omega) rfl | exact .fr rfl | exact LeL.fr rfl | exact .yld rfl (by omega) | exact .eptr rfl (by omega) | exact .osl0 | exact .snil_sl | exact .to_any | exact LeV.nineA | exact LeV.noA | refine ⟨?_, ?_⟩))) (by simp))
      · rename_i hne
        have hne : bitN p.addr (31 - i) = bitN q.addr (31 - i) := by simp at hne; omega
        (conv => whnf)
        refine ⟨⟨i + 1, by omega, ?_⟩, (Wk.i (by repeat' (first | exact True.intro | exact id | exact rfl | decide | exact Nat.le_of_ble_eq_true rfl | exact .int_of (by simp only; rw [wrap64] <;> omega) | exact .ptr rfl (by omega) | exact .osl_of rfl (by omega) rfl | exact .fr rfl | exact LeL.fr rfl | exact .yld rfl (by omega) | exact .eptr rfl (by omega) | exact .osl0 | exact .snil_sl | exact .to_any | exact LeV.nineA | exact LeV.noA | exact LeB.fr rfl id id | exact LeB.fr (by simp; done) id id | refine Or.inl ⟨by simp, _, rfl, ?_⟩ | exact Or.inr ⟨by simp, _, _, _, _, rfl⟩ | refine ⟨rfl, rfl, rfl, rfl, rfl, rfl, ?_⟩ | refine ⟨?_, ?_⟩)) (by omega)), by simp only; omega⟩
        unfold y32
        rw [show 32 - (i + 1) = 31 - i by omega, hb, hb', hx, hne]
    · rename_i hc
      have hc : i = p.len.toNat := by simp only [w0] at hc; simp at hc; omega
      subst hc
      (conv => whnf)
      refine (Ends.pure [] (by first | exact .bool_of (by symm; simp only [coversP, h1, h2, Bool.true_and, Bool.and_eq_true, decide_eq_true_eq]; exact ⟨by omega, hx⟩) | exact .ptr rfl (by omega) | exact .osl_of rfl (by omega) rfl | exact .fr rfl | exact LeL.fr rfl | exact .yld rfl (by omega) | exact .eptr rfl (by omega) | exact .osl0 | exact .snil_sl | exact .to_any | exact LeV.nineA | exact LeV.noA | (refine .tupL ?_; repeat' (first | exact True.intro | exact .bool_of (by symm; simp only [coversP, h1, h2, Bool.true_and, Bool.and_eq_true, decide_eq_true_eq]; exact ⟨by omega, hx⟩) | exact .ptr rfl (by omega) | exact .osl_of rfl (by omega) rfl | exact .fr rfl | exact LeL.fr rfl | exact .yld rfl (by omega) | exact .eptr rfl (by omega) | exact .osl0 | exact .snil_sl | exact .to_any | exact LeV.nineA | exact LeV.noA | refine .aggL ?_ | refine ⟨?_, ?_⟩)) | (refine .aggL ?_; repeat' (first | exact True.intro | exact .bool_of (by symm; simp only [coversP, h1, h2, Bool.true_and, Bool.and_eq_true, decide_eq_true_eq]; exact ⟨by omega, hx⟩) | exact .ptr rfl (by omega) | exact .osl_of rfl (by omega) rfl | exact .fr rfl | exact LeL.fr rfl | exact .yld rfl (by omega) | exact .eptr rfl (by omega) | exact .osl0 | exact .snil_sl | exact .to_any | exact LeV.nineA | exact LeV.noA | refine ⟨?_, ?_⟩))) (by simp))
end Go.Proofs.YtjpfofmkgdjelaaGreat
/- Contracts: whether a rule, a policy may be. -/
set_option linter.unusedVariables false
set_option linter.unusedSimpArgs false
namespace Go.Proofs.YtjpfofmkgdjelaaGreat
open Go.RowKit
open Go.Proofs.Tryz (prog)
attribute [local irreducible] CallV RoundV

def ruleOk (r : Rule) : Bool := prefOk r.cover && decide ((r.least.toNat : Int) ≤ r.most.toNat) && decide ((r.most.toNat : Int) ≤ 32) && decide ((r.times.toNat : Int) ≤ 8) && (r.hasTag || r.tag == 0) && (r.hasPref || r.pref == 0) && (r.hasMed || r.med == 0) && (r.hasAdd || r.add == 0) && !(r.deny && (r.hasPref || r.hasMed || r.hasAdd || decide ((0 : Int) < r.times.toNat)))
theorem pos_ne (t : Nat) : decide (0 < t) = !((t : Int) == 0) := by
  cases t with
  | zero => rfl
  | succ t => rw [decide_eq_true (by omega)]; symm; rw [Bool.not_eq_true', beq_eq_false_iff_ne]; omega
set_option maxRecDepth 100000 in
theorem either_ok (b : Bool) (x : UInt32) : PCon prog 72 [.bool b, cW x] (.bool (b || x == 0)) := by
  refine callV_of (fn := Go.Proofs.Tryz.f72) (body := _) tab_ok mixed rfl rfl (by decide) (by simp [Go.Proofs.Tryz.f72]) ?_
  (conv => whnf)
  cases b with
  | true =>
    (conv => whnf)
    exact (Ends.pure [] (by first | exact .ptr rfl (by omega) | exact .osl_of rfl (by omega) rfl | exact .fr rfl | exact LeL.fr rfl | exact .yld rfl (by omega) | exact .eptr rfl (by omega) | exact .osl0 | exact .snil_sl | exact .to_any | exact LeV.nineA | exact LeV.noA) (by simp))
  | false =>
    (conv => whnf)
    exact (Ends.pure [] (by first | exact .bool_of (by rw [u32_eq]; rfl) | exact .ptr rfl (by omega) | exact .osl_of rfl (by omega) rfl | exact .fr rfl | exact LeL.fr rfl | exact .yld rfl (by omega) | exact .eptr rfl (by omega) | exact .osl0 | exact .snil_sl | exact .to_any | exact LeV.nineA | exact LeV.noA | (refine .tupL ?_; repeat' (first | exact True.intro | exact .bool_of (by rw [u32_eq]; rfl) | exact .ptr rfl (by omega) | exact .osl_of rfl (by omega) rfl | exact .fr rfl | exact LeL.fr rfl | exact .yld rfl (by omega) | exact .eptr rfl (by omega) | exact .osl0 | exact .snil_sl | exact .to_any | exact LeV.nineA | exact LeV.noA | refine .aggL ?_ | refine ⟨?_, ?_⟩)) | (refine .aggL ?_; repeat' (first | exact True.intro | exact .bool_of (by rw [u32_eq]; rfl) | exact .ptr rfl (by omega) | exact .osl_of rfl (by omega) rfl | exact .fr rfl | exact LeL.fr rfl | exact .yld rfl (by omega) | exact .eptr rfl (by omega) | exact .osl0 | exact .snil_sl | exact .to_any | exact LeV.nineA | exact LeV.noA | refine ⟨?_, ?_⟩))) (by simp))
set_option maxRecDepth 100000 in
set_option maxHeartbeats 16000000 in
theorem right23_ok (r : Rule) : PCon prog 38 [encRu r] (.bool (ruleOk r)) := by
  have fin : ∀ {s : St} {b : Bool}, ruleOk r = b → ∃ v1 h' nx', Ends 0 s (.bool b) v1 h' nx' ∧ (v1 = .bool (ruleOk r) ∧ h' = [] ∧ nx' = 0) := fun h => Ends.pure [] (.bool_of h.symm) (by simp)
  obtain ⟨⟨ca, cl⟩, least, most, hasTag, tag, sys, deny, hasPref, hasMed, hasAdd, pref, med, add, times⟩ := r
  refine callV_of (fn := Go.Proofs.Tryz.f38) (body := _) tab_ok mixed rfl rfl (by decide) (by simp [Go.Proofs.Tryz.f38]) ?_
  (conv => whnf)
  repeat' first
    | refine fin ?_
    | (split <;> (conv => whnf))
    | (refine callV_pure (uRight_ok ⟨ca, cl⟩) ⟨.free (encP_free _), trivial⟩ ?_; (conv => whnf))
    | (refine callV_pure (either_ok hasTag tag) ⟨.free .bool, .free .int, trivial⟩ ?_; (conv => whnf))
    | (refine callV_pure (either_ok hasPref pref) ⟨.free .bool, .free .int, trivial⟩ ?_; (conv => whnf))
    | (refine callV_pure (either_ok hasMed med) ⟨.free .bool, .free .int, trivial⟩ ?_; (conv => whnf))
    | (refine callV_pure (either_ok hasAdd add) ⟨.free .bool, .free .int, trivial⟩ ?_; (conv => whnf))
  all_goals clear fin
  all_goals (try simp_all [ruleOk])
  all_goals (try (intros; exfalso; omega))
set_option maxRecDepth 100000 in
set_option maxHeartbeats 16000000 in
theorem rule23_ok (r : Rule) : PCon prog 32 [encRu r] (.bool (ruleOk r)) := by
  have fin : ∀ {s : St} {b : Bool}, ruleOk r = b → ∃ v1 h' nx', Ends 0 s (.bool b) v1 h' nx' ∧ (v1 = .bool (ruleOk r) ∧ h' = [] ∧ nx' = 0) := fun h => Ends.pure [] (.bool_of h.symm) (by simp)
  obtain ⟨⟨ca, cl⟩, least, most, hasTag, tag, sys, deny, hasPref, hasMed, hasAdd, pref, med, add, times⟩ := r
  refine callV_of (fn := Go.Proofs.Tryz.f32) (body := _) tab_ok mixed rfl rfl (by decide) (by simp [Go.Proofs.Tryz.f32]) ?_
  (conv => whnf)
  refine callV_pure (rRight_ok ⟨ca, cl⟩) ⟨.free (encP_free _), trivial⟩ ?_
  (conv => whnf)
  repeat' first
    | refine fin ?_
    | (split <;> (conv => whnf))
  all_goals clear fin
  all_goals (try simp only [u32_ne, u32_eq] at *)
  all_goals (try simp_all [ruleOk])
  all_goals (try (intros; exfalso; omega))
  all_goals exact pos_ne _
set_option maxRecDepth 100000 in
theorem check1_ok (r : Rule) : PCon prog 37 [encRu r] (.bool (!ruleOk r)) := by
  refine callV_of (fn := Go.Proofs.Tryz.f37) (body := _) tab_ok mixed rfl rfl (by decide) (by simp [Go.Proofs.Tryz.f37]) ?_
  (conv => whnf)
  refine callV_pure (right23_ok r) ⟨.free (encRu_free _), trivial⟩ ?_
  (conv => whnf)
  exact (Ends.pure [] (by first | exact .ptr rfl (by omega) | exact .osl_of rfl (by omega) rfl | exact .fr rfl | exact LeL.fr rfl | exact .yld rfl (by omega) | exact .eptr rfl (by omega) | exact .osl0 | exact .snil_sl | exact .to_any | exact LeV.nineA | exact LeV.noA) (by simp))
def fnC1 : V := .fn (.func 37) [] []
theorem fnC1_free : Free fnC1 := .fn (by simp) (by simp)
set_option maxRecDepth 100000 in
theorem indexRu_ok (fr : Bool) (l : List Rule) : ∃ n : Int, PCon prog 71 [encRus fr l, fnC1] (.int .i64 n) ∧ (0 ≤ n ↔ l.all ruleOk = false) := by
  refine ⟨if l.all ruleOk then -1 else (l.findIdx (!ruleOk ·) : Nat), ?_, by split <;> rename_i h <;> simp [h]⟩
  refine callV_of (fn := Go.Proofs.Tryz.f71) (body := _) tab_ok mixed rfl rfl (by decide) (by simp [Go.Proofs.Tryz.f71]) ?_
  (conv => whnf)
  intro hl
  have hl : l.length ≤ maxLen := by simpa [gd] using hl
  (conv => whnf)
  refine vcg_loop tab_ok mixed (fun i : {i : Nat // i ≤ l.length ∧ (l.take i).all ruleOk = true} => ⟨[(0, encRus fr l), (1, fnC1), (7, cI l.length), (8, cI i.1)], [], 0⟩) (fun i => l.length - i.1) ⟨0, by omega, rfl⟩ (Wk.i (by repeat' (first | exact True.intro | exact id | exact rfl | decide | exact Nat.le_of_ble_eq_true rfl | exact .free fnC1_free | exact .int_of (by simp) | exact .ptr rfl (by omega) | exact .osl_of rfl (by omega) rfl | exact .fr rfl | exact LeL.fr rfl | exact .yld rfl (by omega) | exact .eptr rfl (by omega) | exact .osl0 | exact .snil_sl | exact .to_any | exact LeV.nineA | exact LeV.noA | exact LeB.fr rfl id id | exact LeB.fr (by simp; done) id id | refine Or.inl ⟨by simp, _, rfl, ?_⟩ | exact Or.inr ⟨by simp, _, _, _, _, rfl⟩ | refine ⟨rfl, rfl, rfl, rfl, rfl, rfl, ?_⟩ | refine ⟨?_, ?_⟩)) (by omega)) (fun i => ?_)
  obtain ⟨i, hi, hz⟩ := i
  (conv => whnf)
  split
  · rename_i hc
    have hc : i < l.length := by simpa using hc
    (conv => whnf)
    refine ⟨rfl, _, ⟨by simp only; omega, idxRu hc⟩, ?_⟩
    (conv => whnf)
    refine callV_pure (check1_ok l[i]) ⟨.free (encRu_free _), trivial⟩ ?_
    (conv => whnf)
    split
    · rename_i h1
      have h1 : ruleOk l[i] = false := by simpa using h1
      have := all_false (p := ruleOk) hc h1
      (conv => whnf)
      refine (Ends.pure [] (by first | exact .int_of (by rw [if_neg (by rw [this]; simp)]; congr 1; symm; rw [List.findIdx_eq hc]; refine ⟨by simp [h1], fun j hj => ?_⟩; rw [List.all_eq_true] at hz; have := hz (l[j]'(by omega)) (by rw [List.mem_take_iff_getElem]; exact ⟨j, by omega, rfl⟩); simpa using this) | exact .ptr rfl (by omega) | exact .osl_of rfl (by omega) rfl | exact .fr rfl | exact LeL.fr rfl | exact .yld rfl (by omega) | exact .eptr rfl (by omega) | exact .osl0 | exact .snil_sl | exact .to_any | exact LeV.nineA | exact LeV.noA | (refine .tupL ?_; repeat' (first | exact True.intro | exact .int_of (by rw [if_neg (by rw [this]; simp)]; congr 1; symm; rw [List.findIdx_eq hc]; refine ⟨by simp [h1], fun j hj => ?_⟩; rw [List.all_eq_true] at hz; have := hz (l[j]'(by omega)) (by rw [List.mem_take_iff_getElem]; exact ⟨j, by omega, rfl⟩); simpa using this) | exact .ptr rfl (by omega) | exact .osl_of rfl (by omega) rfl | exact .fr rfl | exact LeL.fr rfl | exact .yld rfl (by omega) | exact .eptr rfl (by omega) | exact .osl0 | exact .snil_sl | exact .to_any | exact LeV.nineA | exact LeV.noA | refine .aggL ?_ | refine ⟨?_, ?_⟩)) | (refine .aggL ?_; repeat' (first | exact True.intro | exact .int_of (by rw [if_neg (by rw [this]; simp)]; congr 1; symm; rw [List.findIdx_eq hc]; refine ⟨by simp [h1], fun j hj => ?_⟩; rw [List.all_eq_true] at hz; have := hz (l[j]'(by omega)) (by rw [List.mem_take_iff_getElem]; exact ⟨j, by omega, rfl⟩); simpa using this) | exact .ptr rfl (by omega) | exact .osl_of rfl (by omega) rfl | exact .fr rfl | exact LeL.fr rfl | exact .yld rfl (by omega) | exact .eptr rfl (by omega) | exact .osl0 | exact .snil_sl | exact .to_any | exact LeV.nineA | exact LeV.noA | refine ⟨?_, ?_⟩))) (by simp))
    · rename_i h1
      (conv => whnf)
      exact ⟨⟨i + 1, by omega, by rw [all_take_succ hc, hz]; simpa using h1⟩, (Wk.i (by repeat' (first | exact True.intro | exact id | exact rfl | decide | exact Nat.le_of_ble_eq_true rfl | exact .free fnC1_free | exact .int_of (wrap64_succ hc hl) | exact .ptr rfl (by omega) | exact .osl_of rfl (by omega) rfl | exact .fr rfl | exact LeL.fr rfl | exact .yld rfl (by omega) | exact .eptr rfl (by omega) | exact .osl0 | exact .snil_sl | exact .to_any | exact LeV.nineA | exact LeV.noA | exact LeB.fr rfl id id | exact LeB.fr (by simp; done) id id | refine Or.inl ⟨by simp, _, rfl, ?_⟩ | exact Or.inr ⟨by simp, _, _, _, _, rfl⟩ | refine ⟨rfl, rfl, rfl, rfl, rfl, rfl, ?_⟩ | refine ⟨?_, ?_⟩)) (by omega)), by simp only; omega⟩
  · rename_i hc
    have hc : i = l.length := by simp at hc; omega
    subst hc
    (conv => whnf)
    refine (Ends.pure [] (by first | exact .int_of (by rw [List.take_length] at hz; rw [if_pos hz]) | exact .ptr rfl (by omega) | exact .osl_of rfl (by omega) rfl | exact .fr rfl | exact LeL.fr rfl | exact .yld rfl (by omega) | exact .eptr rfl (by omega) | exact .osl0 | exact .snil_sl | exact .to_any | exact LeV.nineA | exact LeV.noA | (refine .tupL ?_; repeat' (first | exact True.intro | exact .int_of (by rw [List.take_length] at hz; rw [if_pos hz]) | exact .ptr rfl (by omega) | exact .osl_of rfl (by omega) rfl | exact .fr rfl | exact LeL.fr rfl | exact .yld rfl (by omega) | exact .eptr rfl (by omega) | exact .osl0 | exact .snil_sl | exact .to_any | exact LeV.nineA | exact LeV.noA | refine .aggL ?_ | refine ⟨?_, ?_⟩)) | (refine .aggL ?_; repeat' (first | exact True.intro | exact .int_of (by rw [List.take_length] at hz; rw [if_pos hz]) | exact .ptr rfl (by omega) | exact .osl_of rfl (by omega) rfl | exact .fr rfl | exact LeL.fr rfl | exact .yld rfl (by omega) | exact .eptr rfl (by omega) | exact .osl0 | exact .snil_sl | exact .to_any | exact LeV.nineA | exact LeV.noA | refine ⟨?_, ?_⟩))) (by simp))
set_option maxRecDepth 100000 in
theorem containsRu_ok (fr : Bool) (l : List Rule) : PCon prog 36 [encRus fr l, fnC1] (.bool (!l.all ruleOk)) := by
  obtain ⟨n, hn, hiff⟩ := indexRu_ok fr l
  refine callV_of (fn := Go.Proofs.Tryz.f36) (body := _) tab_ok mixed rfl rfl (by decide) (by simp [Go.Proofs.Tryz.f36]) ?_
  (conv => whnf)
  refine callV_pure hn ⟨.free (encRus_free _ _), .free fnC1_free, trivial⟩ ?_
  (conv => whnf)
  refine (Ends.pure [] (by first | exact .bool_of (by cases hb : l.all ruleOk with | true => rw [hb] at hiff; simp at hiff; simp; omega | false => have := hiff.2 hb; simp; omega) | exact .ptr rfl (by omega) | exact .osl_of rfl (by omega) rfl | exact .fr rfl | exact LeL.fr rfl | exact .yld rfl (by omega) | exact .eptr rfl (by omega) | exact .osl0 | exact .snil_sl | exact .to_any | exact LeV.nineA | exact LeV.noA | (refine .tupL ?_; repeat' (first | exact True.intro | exact .bool_of (by cases hb : l.all ruleOk with | true => rw [hb] at hiff; simp at hiff; simp; omega | false => have := hiff.2 hb; simp; omega) | exact .ptr rfl (by omega) | exact .osl_of rfl (by omega) rfl | exact .fr rfl | exact LeL.fr rfl | exact .yld rfl (by omega) | exact .eptr rfl (by omega) | exact .osl0 | exact .snil_sl | exact .to_any | exact LeV.nineA | exact LeV.noA | refine .aggL ?_ | refine ⟨?_, ?_⟩)) | (refine .aggL ?_; repeat' (first | exact True.intro | exact .bool_of (by cases hb : l.all ruleOk with | true => rw [hb] at hiff; simp at hiff; simp; omega | false => have := hiff.2 hb; simp; omega) | exact .ptr rfl (by omega) | exact .osl_of rfl (by omega) rfl | exact .fr rfl | exact LeL.fr rfl | exact .yld rfl (by omega) | exact .eptr rfl (by omega) | exact .osl0 | exact .snil_sl | exact .to_any | exact LeV.nineA | exact LeV.noA | refine ⟨?_, ?_⟩))) (by simp))
def checkP (p : Policy) : Int := if p.rules.all ruleOk = false then 2 else if 16 < p.rules.length then 3 else 0
set_option maxRecDepth 100000 in
theorem check23_ok (fr : Bool) (p : Policy) : PCon prog 16 [encPo fr p] (.int .i64 (checkP p)) := by
  refine callV_of (fn := Go.Proofs.Tryz.f16) (body := _) tab_ok mixed rfl rfl (by decide) (by simp [Go.Proofs.Tryz.f16]) ?_
  (conv => whnf)
  refine callV_pure (containsRu_ok fr p.rules) ⟨.free (encRus_free _ _), .free fnC1_free, trivial⟩ ?_
  cases h : p.rules.all ruleOk with
  | false =>
    (conv => whnf)
    exact (Ends.pure [] (by first | exact .int_of (by simp [checkP, h]) | exact .ptr rfl (by omega) | exact .osl_of rfl (by omega) rfl | exact .fr rfl | exact LeL.fr rfl | exact .yld rfl (by omega) | exact .eptr rfl (by omega) | exact .osl0 | exact .snil_sl | exact .to_any | exact LeV.nineA | exact LeV.noA | (refine .tupL ?_; repeat' (first | exact True.intro | exact .int_of (by simp [checkP, h]) | exact .ptr rfl (by omega) | exact .osl_of rfl (by omega) rfl | exact .fr rfl | exact LeL.fr rfl | exact .yld rfl (by omega) | exact .eptr rfl (by omega) | exact .osl0 | exact .snil_sl | exact .to_any | exact LeV.nineA | exact LeV.noA | refine .aggL ?_ | refine ⟨?_, ?_⟩)) | (refine .aggL ?_; repeat' (first | exact True.intro | exact .int_of (by simp [checkP, h]) | exact .ptr rfl (by omega) | exact .osl_of rfl (by omega) rfl | exact .fr rfl | exact LeL.fr rfl | exact .yld rfl (by omega) | exact .eptr rfl (by omega) | exact .osl0 | exact .snil_sl | exact .to_any | exact LeV.nineA | exact LeV.noA | refine ⟨?_, ?_⟩))) (by simp))
  | true =>
    (conv => whnf)
    intro _
    (conv => whnf)
    split
    · rename_i h16
      (conv => whnf)
      exact (Ends.pure [] (by first | exact .int_of (by simp only [checkP, h]; simp at h16; rw [if_neg (by simp), if_pos (by omega)]) | exact .ptr rfl (by omega) | exact .osl_of rfl (by omega) rfl | exact .fr rfl | exact LeL.fr rfl | exact .yld rfl (by omega) | exact .eptr rfl (by omega) | exact .osl0 | exact .snil_sl | exact .to_any | exact LeV.nineA | exact LeV.noA | (refine .tupL ?_; repeat' (first | exact True.intro | exact .int_of (by simp only [checkP, h]; simp at h16; rw [if_neg (by simp), if_pos (by omega)]) | exact .ptr rfl (by omega) | exact .osl_of rfl (by omega) rfl | exact .fr rfl | exact LeL.fr rfl | exact .yld rfl (by omega) | exact .eptr rfl (by omega) | exact .osl0 | exact .snil_sl | exact .to_any | exact LeV.nineA | exact LeV.noA | refine .aggL ?_ | refine ⟨?_, ?_⟩)) | (refine .aggL ?_; repeat' (first | exact True.intro | exact .int_of (by simp only [checkP, h]; simp at h16; rw [if_neg (by simp), if_pos (by omega)]) | exact .ptr rfl (by omega) | exact .osl_of rfl (by omega) rfl | exact .fr rfl | exact LeL.fr rfl | exact .yld rfl (by omega) | exact .eptr rfl (by omega) | exact .osl0 | exact .snil_sl | exact .to_any | exact LeV.nineA | exact LeV.noA | refine ⟨?_, ?_⟩))) (by simp))
    · rename_i h16
      (conv => whnf)
      exact (Ends.pure [] (by first | exact .int_of (by simp only [checkP, h]; simp at h16; rw [if_neg (by simp), if_neg (by omega)]) | exact .ptr rfl (by omega) | exact .osl_of rfl (by omega) rfl | exact .fr rfl | exact LeL.fr rfl | exact .yld rfl (by omega) | exact .eptr rfl (by omega) | exact .osl0 | exact .snil_sl | exact .to_any | exact LeV.nineA | exact LeV.noA | (refine .tupL ?_; repeat' (first | exact True.intro | exact .int_of (by simp only [checkP, h]; simp at h16; rw [if_neg (by simp), if_neg (by omega)]) | exact .ptr rfl (by omega) | exact .osl_of rfl (by omega) rfl | exact .fr rfl | exact LeL.fr rfl | exact .yld rfl (by omega) | exact .eptr rfl (by omega) | exact .osl0 | exact .snil_sl | exact .to_any | exact LeV.nineA | exact LeV.noA | refine .aggL ?_ | refine ⟨?_, ?_⟩)) | (refine .aggL ?_; repeat' (first | exact True.intro | exact .int_of (by simp only [checkP, h]; simp at h16; rw [if_neg (by simp), if_neg (by omega)]) | exact .ptr rfl (by omega) | exact .osl_of rfl (by omega) rfl | exact .fr rfl | exact LeL.fr rfl | exact .yld rfl (by omega) | exact .eptr rfl (by omega) | exact .osl0 | exact .snil_sl | exact .to_any | exact LeV.nineA | exact LeV.noA | refine ⟨?_, ?_⟩))) (by simp))
set_option maxRecDepth 100000 in
theorem rcheck23_ok (fr : Bool) (p : Policy) : PCon prog 17 [encPo fr p] (.int .i64 (checkP p)) := by
  refine callV_of (fn := Go.Proofs.Tryz.f17) (body := _) tab_ok mixed rfl rfl (by decide) (by simp [Go.Proofs.Tryz.f17]) ?_
  (conv => whnf)
  refine vcg_loop tab_ok mixed (fun i : {i : Nat // i ≤ p.rules.length ∧ (p.rules.take i).all ruleOk = true} => ⟨[(1, .ptr 0 0), (3, cI i.1)], [(0, some (.var true 29 (cellsPo fr p)))], 1⟩) (fun i => p.rules.length - i.1) ⟨0, by omega, rfl⟩ (Wk.i (by repeat' (first | exact True.intro | exact id | exact rfl | decide | exact Nat.le_of_ble_eq_true rfl | exact .ptr rfl (by omega) | exact .osl_of rfl (by omega) rfl | exact .fr rfl | exact LeL.fr rfl | exact .yld rfl (by omega) | exact .eptr rfl (by omega) | exact .osl0 | exact .snil_sl | exact .to_any | exact LeV.nineA | exact LeV.noA | exact LeB.fr rfl id id | exact LeB.fr (by simp; done) id id | refine Or.inl ⟨by simp, _, rfl, ?_⟩ | exact Or.inr ⟨by simp, _, _, _, _, rfl⟩ | refine ⟨rfl, rfl, rfl, rfl, rfl, rfl, ?_⟩ | refine ⟨?_, ?_⟩)) (by omega)) (fun i => ?_)
  obtain ⟨i, hi, hz⟩ := i
  (conv => whnf)
  intro hl
  have hl : p.rules.length ≤ maxLen := by simpa [gd] using hl
  (conv => whnf)
  split
  · rename_i hc
    have hc : i < p.rules.length := by simpa using hc
    (conv => whnf)
    refine ⟨rfl, _, ⟨by first | omega | (simp only; omega), idxRu hc⟩, ?_⟩
    (conv => whnf)
    refine callV_pure (rule23_ok p.rules[i]) ⟨.free (encRu_free _), trivial⟩ ?_
    (conv => whnf)
    split
    · rename_i h1
      have h1 : ruleOk p.rules[i] = false := by simpa using h1
      (conv => whnf)
      exact (Ends.pure [] (by first | exact .int_of (by simp [checkP, all_false hc h1]) | exact .ptr rfl (by omega) | exact .osl_of rfl (by omega) rfl | exact .fr rfl | exact LeL.fr rfl | exact .yld rfl (by omega) | exact .eptr rfl (by omega) | exact .osl0 | exact .snil_sl | exact .to_any | exact LeV.nineA | exact LeV.noA | (refine .tupL ?_; repeat' (first | exact True.intro | exact .int_of (by simp [checkP, all_false hc h1]) | exact .ptr rfl (by omega) | exact .osl_of rfl (by omega) rfl | exact .fr rfl | exact LeL.fr rfl | exact .yld rfl (by omega) | exact .eptr rfl (by omega) | exact .osl0 | exact .snil_sl | exact .to_any | exact LeV.nineA | exact LeV.noA | refine .aggL ?_ | refine ⟨?_, ?_⟩)) | (refine .aggL ?_; repeat' (first | exact True.intro | exact .int_of (by simp [checkP, all_false hc h1]) | exact .ptr rfl (by omega) | exact .osl_of rfl (by omega) rfl | exact .fr rfl | exact LeL.fr rfl | exact .yld rfl (by omega) | exact .eptr rfl (by omega) | exact .osl0 | exact .snil_sl | exact .to_any | exact LeV.nineA | exact LeV.noA | refine ⟨?_, ?_⟩))) (by simp))
    · rename_i h1
      (conv => whnf)
      exact ⟨⟨i + 1, by omega, by rw [all_take_succ hc, hz]; simpa using h1⟩, (Wk.i (by repeat' (first | exact True.intro | exact id | exact rfl | decide | exact Nat.le_of_ble_eq_true rfl | exact .int_of (wrap64_succ hc hl) | exact .ptr rfl (by omega) | exact .osl_of rfl (by omega) rfl | exact .fr rfl | exact LeL.fr rfl | exact .yld rfl (by omega) | exact .eptr rfl (by omega) | exact .osl0 | exact .snil_sl | exact .to_any | exact LeV.nineA | exact LeV.noA | exact LeB.fr rfl id id | exact LeB.fr (by simp; done) id id | refine Or.inl ⟨by simp, _, rfl, ?_⟩ | exact Or.inr ⟨by simp, _, _, _, _, rfl⟩ | refine ⟨rfl, rfl, rfl, rfl, rfl, rfl, ?_⟩ | refine ⟨?_, ?_⟩)) (by omega)), by simp only; omega⟩
  · rename_i hc
    have hc : i = p.rules.length := by simp at hc; omega
    subst hc
    rw [List.take_length] at hz
    (conv => whnf)
    intro _
    (conv => whnf)
    split
    · rename_i h16
      (conv => whnf)
      exact (Ends.pure [] (by first | exact .int_of (by simp only [checkP, hz]; simp at h16; rw [if_neg (by simp), if_pos (by omega)]) | exact .ptr rfl (by omega) | exact .osl_of rfl (by omega) rfl | exact .fr rfl | exact LeL.fr rfl | exact .yld rfl (by omega) | exact .eptr rfl (by omega) | exact .osl0 | exact .snil_sl | exact .to_any | exact LeV.nineA | exact LeV.noA | (refine .tupL ?_; repeat' (first | exact True.intro | exact .int_of (by simp only [checkP, hz]; simp at h16; rw [if_neg (by simp), if_pos (by omega)]) | exact .ptr rfl (by omega) | exact .osl_of rfl (by omega) rfl | exact .fr rfl | exact LeL.fr rfl | exact .yld rfl (by omega) | exact .eptr rfl (by omega) | exact .osl0 | exact .snil_sl | exact .to_any | exact LeV.nineA | exact LeV.noA | refine .aggL ?_ | refine ⟨?_, ?_⟩)) | (refine .aggL ?_; repeat' (first | exact True.intro | exact .int_of (by simp only [checkP, hz]; simp at h16; rw [if_neg (by simp), if_pos (by omega)]) | exact .ptr rfl (by omega) | exact .osl_of rfl (by omega) rfl | exact .fr rfl | exact LeL.fr rfl | exact .yld rfl (by omega) | exact .eptr rfl (by omega) | exact .osl0 | exact .snil_sl | exact .to_any | exact LeV.nineA | exact LeV.noA | refine ⟨?_, ?_⟩))) (by simp))
    · rename_i h16
      (conv => whnf)
      exact (Ends.pure [] (by first | exact .int_of (by simp only [checkP, hz]; simp at h16; rw [if_neg (by simp), if_neg (by omega)]) | exact .ptr rfl (by omega) | exact .osl_of rfl (by omega) rfl | exact .fr rfl | exact LeL.fr rfl | exact .yld rfl (by omega) | exact .eptr rfl (by omega) | exact .osl0 | exact .snil_sl | exact .to_any | exact LeV.nineA | exact LeV.noA | (refine .tupL ?_; repeat' (first | exact True.intro | exact .int_of (by simp only [checkP, hz]; simp at h16; rw [if_neg (by simp), if_neg (by omega)]) | exact .ptr rfl (by omega) | exact .osl_of rfl (by omega) rfl | exact .fr rfl | exact LeL.fr rfl | exact .yld rfl (by omega) | exact .eptr rfl (by omega) | exact .osl0 | exact .snil_sl | exact .to_any | exact LeV.nineA | exact LeV.noA | refine .aggL ?_ | refine ⟨?_, ?_⟩)) | (refine .aggL ?_; repeat' (first | exact True.intro | exact .int_of (by simp only [checkP, hz]; simp at h16; rw [if_neg (by simp), if_neg (by omega)]) | exact .ptr rfl (by omega) | exact .osl_of rfl (by omega) rfl | exact .fr rfl | exact LeL.fr rfl | exact .yld rfl (by omega) | exact .eptr rfl (by omega) | exact .osl0 | exact .snil_sl | exact .to_any | exact LeV.nineA | exact LeV.noA | refine ⟨?_, ?_⟩))) (by simp))
end Go.Proofs.YtjpfofmkgdjelaaGreat
/- Contracts: whether a rule fits, and which does first. -/
set_option linter.unusedVariables false
set_option linter.unusedSimpArgs false
namespace Go.Proofs.YtjpfofmkgdjelaaGreat
open Go.RowKit
open Go.Proofs.Tryz (prog)
attribute [local irreducible] CallV RoundV

def tagB (r : Rule) (a : Attrs) : Bool := !r.hasTag || a.tags.contains r.tag
def sysB (r : Rule) (a : Attrs) : Bool := r.sys == 0 || hasA a.path r.sys
def lenB (r : Rule) (p : Prefix) : Bool := decide ((r.least.toNat : Int) ≤ p.len.toNat) && decide ((p.len.toNat : Int) ≤ r.most.toNat)
def askB (r : Rule) (p : Prefix) (a : Attrs) : Nat → Bool
  | 0 => ruleOk r
  | 1 => prefOk p && rightA a
  | 2 => coversP r.cover p
  | 3 => lenB r p
  | 4 => tagB r a
  | _ => sysB r a
def fits (r : Rule) (p : Prefix) (a : Attrs) : Bool := ruleOk r && (prefOk p && rightA a) && coversP r.cover p && lenB r p && tagB r a && sysB r a
theorem fits_all {r : Rule} {p : Prefix} {a : Attrs} (h : ∀ k, k < 6 → askB r p a k = true) : fits r p a = true := by
  have h0 := h 0 (by omega)
  have h1 := h 1 (by omega)
  have h2 := h 2 (by omega)
  have h3 := h 3 (by omega)
  have h4 := h 4 (by omega)
  have h5 := h 5 (by omega)
  simp only [askB] at h0 h1 h2 h3 h4 h5
  simp only [fits, h0, h1, h2, h3, h4, h5]; rfl
theorem fits_not {r : Rule} {p : Prefix} {a : Attrs} {k : Nat} (hk : k < 6) (h : askB r p a k = false) : fits r p a = false := by
  rcases k with _ | _ | _ | _ | _ | _ | k
  · simp only [askB] at h; simp [fits, h]
  · simp only [askB] at h; simp only [fits, h]; simp
  · simp only [askB] at h; simp [fits, h]
  · simp only [askB] at h; simp [fits, h]
  · simp only [askB] at h; simp [fits, h]
  · simp only [askB] at h; simp [fits, h]
  · omega
theorem contains_all {l : List UInt32} {x : UInt32} : (!l.all (· != x)) = l.contains x := by
  rw [List.contains_eq_any_beq]
  induction l with
  | nil => rfl
  | cons y l ih =>
    simp only [List.all_cons, List.any_cons, Bool.not_and, ih]
    rw [show (!(y != x)) = (x == y) by rw [bne, Bool.not_not]; exact BEq.comm]
def asksRows (fr : Bool) (r : Rule) (p : Prefix) (a : Attrs) : List (List V) := [
  [.fn (.func 60) [] [.iptr true (cellsRu r)]],
  [.fn (.func 61) [] [.iptr true (cellsP p), .iptr true (cellsA fr a)]],
  [.fn (.func 62) [] [.iptr true (cellsRu r), .iptr true (cellsP p)]],
  [.fn (.func 64) [] [.iptr true (cellsRu r), .iptr true (cellsP p)]],
  [.fn (.func 65) [] [.iptr true (cellsRu r), .iptr true (cellsA fr a)]],
  [.fn (.func 67) [] [.iptr true (cellsRu r), .iptr true (cellsA fr a)]]]
def asksV (fr : Bool) (r : Rule) (p : Prefix) (a : Attrs) : V := .sl true 1 (asksRows fr r p a)
theorem asksRows_free (fr : Bool) (r : Rule) (p : Prefix) (a : Attrs) : ∀ x ∈ asksRows fr r p a, ∀ v ∈ x, Free v := by
  have h1 : Free (.iptr true (cellsRu r)) := .iptr (cellsRu_free r)
  have h2 : Free (.iptr true (cellsP p)) := .iptr (cellsP_free p)
  have h3 : Free (.iptr true (cellsA fr a)) := .iptr (cellsA_free fr a)
  intro x hx v hv
  simp only [asksRows, List.mem_cons, List.not_mem_nil, or_false] at hx
  rcases hx with rfl | rfl | rfl | rfl | rfl | rfl <;> (simp only [List.mem_singleton] at hv; subst hv; refine .fn (by simp) ?_; intro v hv; simp only [List.mem_cons, List.not_mem_nil, or_false] at hv)
  · subst hv; exact h1
  · rcases hv with rfl | rfl; exact h2; exact h3
  · rcases hv with rfl | rfl; exact h1; exact h2
  · rcases hv with rfl | rfl; exact h1; exact h2
  · rcases hv with rfl | rfl; exact h1; exact h3
  · rcases hv with rfl | rfl; exact h1; exact h3
theorem asksV_free (fr : Bool) (r : Rule) (p : Prefix) (a : Attrs) : Free (asksV fr r p a) := .sl (asksRows_free fr r p a)
instance {fr r p a} : FreeI (asksV fr r p a) := ⟨⟨asksV_free fr r p a⟩⟩
theorem LeV.fzP {h : Heap} {nx nx' : Nat} {ρ : Nat → Nat} {Z : List Nat} {b : Nat} {fr : Bool} {ty : TypeId} {cells : List V} (hz : b ∈ Z) (hb : hget h b = some (.var fr ty cells)) (hf : ∀ v ∈ cells, Free v) : LeV h nx ρ nx' Z (.ptr b 0) (.iptr fr cells) := LeV.freezeP (col := 0) hz hb hf
set_option maxRecDepth 100000 in
theorem asks_ok (fr : Bool) (r : Rule) (p : Prefix) (a : Attrs) : PCon prog 31 [encRu r, encP p, encA fr a] (asksV fr r p a) := by
  refine callV_of (fn := Go.Proofs.Tryz.f31) (body := _) tab_ok mixed rfl rfl (by decide) (by simp [Go.Proofs.Tryz.f31]) ?_
  (conv => whnf)
  refine Ends.pure [0, 1, 2, 3] (LeV.freezeR (by simp) rfl (Nat.le_refl 6) ⟨⟨.fnL trivial ⟨?_, trivial⟩, trivial⟩, ⟨.fnL trivial ⟨?_, ?_, trivial⟩, trivial⟩, ⟨.fnL trivial ⟨?_, ?_, trivial⟩, trivial⟩, ⟨.fnL trivial ⟨?_, ?_, trivial⟩, trivial⟩, ⟨.fnL trivial ⟨?_, ?_, trivial⟩, trivial⟩, ⟨.fnL trivial ⟨?_, ?_, trivial⟩, trivial⟩, trivial⟩) (by intro z hz; simp only [List.mem_cons, List.not_mem_nil, or_false] at hz; rcases hz with rfl | rfl | rfl | rfl <;> exact ne_none_of rfl)
  all_goals first | exact .fzP (by simp) rfl (cellsRu_free r) | exact .fzP (by simp) rfl (cellsP_free p) | exact .fzP (by simp) rfl (cellsA_free fr a)
set_option maxRecDepth 100000 in
theorem ask1_ok (fr : Bool) (r : Rule) : PCon prog 60 [.iptr true (cellsRu r)] (.bool (ruleOk r)) := by
  refine callV_of (fn := Go.Proofs.Tryz.f60) (body := _) tab_ok mixed rfl rfl (by decide) (by simp [Go.Proofs.Tryz.f60]) ?_
  (conv => whnf)
  refine callV_pure (right23_ok r) ⟨.free (encRu_free _), trivial⟩ ?_
  (conv => whnf)
  exact (Ends.pure [] (by first | exact .ptr rfl (by omega) | exact .osl_of rfl (by omega) rfl | exact .fr rfl | exact LeL.fr rfl | exact .yld rfl (by omega) | exact .eptr rfl (by omega) | exact .osl0 | exact .snil_sl | exact .to_any | exact LeV.nineA | exact LeV.noA) (by simp))
set_option maxRecDepth 100000 in
theorem ask2_ok (fr : Bool) (p : Prefix) (a : Attrs) : PCon prog 61 [.iptr true (cellsP p), .iptr true (cellsA fr a)] (.bool (prefOk p && rightA a)) := by
  refine callV_of (fn := Go.Proofs.Tryz.f61) (body := _) tab_ok mixed rfl rfl (by decide) (by simp [Go.Proofs.Tryz.f61]) ?_
  (conv => whnf)
  refine callV_pure (uRight_ok p) ⟨.free (encP_free _), trivial⟩ ?_
  cases h : prefOk p with
  | false =>
    (conv => whnf)
    exact (Ends.pure [] (by first | exact .ptr rfl (by omega) | exact .osl_of rfl (by omega) rfl | exact .fr rfl | exact LeL.fr rfl | exact .yld rfl (by omega) | exact .eptr rfl (by omega) | exact .osl0 | exact .snil_sl | exact .to_any | exact LeV.nineA | exact LeV.noA) (by simp))
  | true =>
    (conv => whnf)
    refine callV_pure (check_ok fr a) ⟨.free (encA_free _ _), trivial⟩ ?_
    (conv => whnf)
    exact (Ends.pure [] (by first | exact .bool_of (by cases hr : rightA a <;> simp [checkA, hr]) | exact .ptr rfl (by omega) | exact .osl_of rfl (by omega) rfl | exact .fr rfl | exact LeL.fr rfl | exact .yld rfl (by omega) | exact .eptr rfl (by omega) | exact .osl0 | exact .snil_sl | exact .to_any | exact LeV.nineA | exact LeV.noA | (refine .tupL ?_; repeat' (first | exact True.intro | exact .bool_of (by cases hr : rightA a <;> simp [checkA, hr]) | exact .ptr rfl (by omega) | exact .osl_of rfl (by omega) rfl | exact .fr rfl | exact LeL.fr rfl | exact .yld rfl (by omega) | exact .eptr rfl (by omega) | exact .osl0 | exact .snil_sl | exact .to_any | exact LeV.nineA | exact LeV.noA | refine .aggL ?_ | refine ⟨?_, ?_⟩)) | (refine .aggL ?_; repeat' (first | exact True.intro | exact .bool_of (by cases hr : rightA a <;> simp [checkA, hr]) | exact .ptr rfl (by omega) | exact .osl_of rfl (by omega) rfl | exact .fr rfl | exact LeL.fr rfl | exact .yld rfl (by omega) | exact .eptr rfl (by omega) | exact .osl0 | exact .snil_sl | exact .to_any | exact LeV.nineA | exact LeV.noA | refine ⟨?_, ?_⟩))) (by simp))
set_option maxRecDepth 100000 in
theorem ask3_ok (r : Rule) (p : Prefix) : PCon prog 62 [.iptr true (cellsRu r), .iptr true (cellsP p)] (.bool (coversP r.cover p)) := by
  refine callV_of (fn := Go.Proofs.Tryz.f62) (body := _) tab_ok mixed rfl rfl (by decide) (by simp [Go.Proofs.Tryz.f62]) ?_
  (conv => whnf)
  refine callV_pure (uCovers_ok r.cover p) ⟨.free (encP_free _), .free (encP_free _), trivial⟩ ?_
  (conv => whnf)
  exact (Ends.pure [] (by first | exact .ptr rfl (by omega) | exact .osl_of rfl (by omega) rfl | exact .fr rfl | exact LeL.fr rfl | exact .yld rfl (by omega) | exact .eptr rfl (by omega) | exact .osl0 | exact .snil_sl | exact .to_any | exact LeV.nineA | exact LeV.noA) (by simp))
set_option maxRecDepth 100000 in
theorem ask4_ok (r : Rule) (p : Prefix) : PCon prog 64 [.iptr true (cellsRu r), .iptr true (cellsP p)] (.bool (lenB r p)) := by
  refine callV_of (fn := Go.Proofs.Tryz.f64) (body := _) tab_ok mixed rfl rfl (by decide) (by simp [Go.Proofs.Tryz.f64]) ?_
  (conv => whnf)
  cases h : decide ((r.least.toNat : Int) ≤ (p.len.toNat : Int)) with
  | false =>
    (conv => whnf)
    exact (Ends.pure [] (by first | exact .bool_of (by simp only [lenB, h]; rfl) | exact .ptr rfl (by omega) | exact .osl_of rfl (by omega) rfl | exact .fr rfl | exact LeL.fr rfl | exact .yld rfl (by omega) | exact .eptr rfl (by omega) | exact .osl0 | exact .snil_sl | exact .to_any | exact LeV.nineA | exact LeV.noA | (refine .tupL ?_; repeat' (first | exact True.intro | exact .bool_of (by simp only [lenB, h]; rfl) | exact .ptr rfl (by omega) | exact .osl_of rfl (by omega) rfl | exact .fr rfl | exact LeL.fr rfl | exact .yld rfl (by omega) | exact .eptr rfl (by omega) | exact .osl0 | exact .snil_sl | exact .to_any | exact LeV.nineA | exact LeV.noA | refine .aggL ?_ | refine ⟨?_, ?_⟩)) | (refine .aggL ?_; repeat' (first | exact True.intro | exact .bool_of (by simp only [lenB, h]; rfl) | exact .ptr rfl (by omega) | exact .osl_of rfl (by omega) rfl | exact .fr rfl | exact LeL.fr rfl | exact .yld rfl (by omega) | exact .eptr rfl (by omega) | exact .osl0 | exact .snil_sl | exact .to_any | exact LeV.nineA | exact LeV.noA | refine ⟨?_, ?_⟩))) (by simp))
  | true =>
    (conv => whnf)
    exact (Ends.pure [] (by first | exact .bool_of (by simp only [lenB, h]; rfl) | exact .ptr rfl (by omega) | exact .osl_of rfl (by omega) rfl | exact .fr rfl | exact LeL.fr rfl | exact .yld rfl (by omega) | exact .eptr rfl (by omega) | exact .osl0 | exact .snil_sl | exact .to_any | exact LeV.nineA | exact LeV.noA | (refine .tupL ?_; repeat' (first | exact True.intro | exact .bool_of (by simp only [lenB, h]; rfl) | exact .ptr rfl (by omega) | exact .osl_of rfl (by omega) rfl | exact .fr rfl | exact LeL.fr rfl | exact .yld rfl (by omega) | exact .eptr rfl (by omega) | exact .osl0 | exact .snil_sl | exact .to_any | exact LeV.nineA | exact LeV.noA | refine .aggL ?_ | refine ⟨?_, ?_⟩)) | (refine .aggL ?_; repeat' (first | exact True.intro | exact .bool_of (by simp only [lenB, h]; rfl) | exact .ptr rfl (by omega) | exact .osl_of rfl (by omega) rfl | exact .fr rfl | exact LeL.fr rfl | exact .yld rfl (by omega) | exact .eptr rfl (by omega) | exact .osl0 | exact .snil_sl | exact .to_any | exact LeV.nineA | exact LeV.noA | refine ⟨?_, ?_⟩))) (by simp))
set_option maxRecDepth 100000 in
theorem ask5_ok (fr : Bool) (r : Rule) (a : Attrs) : PCon prog 65 [.iptr true (cellsRu r), .iptr true (cellsA fr a)] (.bool (tagB r a)) := by
  obtain ⟨c, least, most, hasTag, tag, sys, deny, hasPref, hasMed, hasAdd, pref, med, add, times⟩ := r
  refine callV_of (fn := Go.Proofs.Tryz.f65) (body := _) tab_ok mixed rfl rfl (by decide) (by simp [Go.Proofs.Tryz.f65]) ?_
  (conv => whnf)
  cases hasTag with
  | false =>
    (conv => whnf)
    exact (Ends.pure [] (by first | exact .ptr rfl (by omega) | exact .osl_of rfl (by omega) rfl | exact .fr rfl | exact LeL.fr rfl | exact .yld rfl (by omega) | exact .eptr rfl (by omega) | exact .osl0 | exact .snil_sl | exact .to_any | exact LeV.nineA | exact LeV.noA) (by simp))
  | true =>
    (conv => whnf)
    refine callV_pure (contains_ok fr a.tags tag) ⟨.free (encW_free _ _), .free .int, trivial⟩ ?_
    (conv => whnf)
    exact (Ends.pure [] (by first | exact .bool_of (by rw [contains_all]; rfl) | exact .ptr rfl (by omega) | exact .osl_of rfl (by omega) rfl | exact .fr rfl | exact LeL.fr rfl | exact .yld rfl (by omega) | exact .eptr rfl (by omega) | exact .osl0 | exact .snil_sl | exact .to_any | exact LeV.nineA | exact LeV.noA | (refine .tupL ?_; repeat' (first | exact True.intro | exact .bool_of (by rw [contains_all]; rfl) | exact .ptr rfl (by omega) | exact .osl_of rfl (by omega) rfl | exact .fr rfl | exact LeL.fr rfl | exact .yld rfl (by omega) | exact .eptr rfl (by omega) | exact .osl0 | exact .snil_sl | exact .to_any | exact LeV.nineA | exact LeV.noA | refine .aggL ?_ | refine ⟨?_, ?_⟩)) | (refine .aggL ?_; repeat' (first | exact True.intro | exact .bool_of (by rw [contains_all]; rfl) | exact .ptr rfl (by omega) | exact .osl_of rfl (by omega) rfl | exact .fr rfl | exact LeL.fr rfl | exact .yld rfl (by omega) | exact .eptr rfl (by omega) | exact .osl0 | exact .snil_sl | exact .to_any | exact LeV.nineA | exact LeV.noA | refine ⟨?_, ?_⟩))) (by simp))
set_option maxRecDepth 100000 in
theorem ask6_ok (fr : Bool) (r : Rule) (a : Attrs) (hr : rightA a = true) : PCon prog 67 [.iptr true (cellsRu r), .iptr true (cellsA fr a)] (.bool (sysB r a)) := by
  obtain ⟨h1, h2, h3, _⟩ := few_of_right hr
  refine callV_of (fn := Go.Proofs.Tryz.f67) (body := _) tab_ok mixed rfl rfl (by decide) (by simp [Go.Proofs.Tryz.f67]) ?_
  (conv => whnf)
  cases h : ((r.sys.toNat : Int) == 0) with
  | true =>
    (conv => whnf)
    exact (Ends.pure [] (by first | exact .bool_of (by rw [u32_eq] at h; simp [sysB, h]) | exact .ptr rfl (by omega) | exact .osl_of rfl (by omega) rfl | exact .fr rfl | exact LeL.fr rfl | exact .yld rfl (by omega) | exact .eptr rfl (by omega) | exact .osl0 | exact .snil_sl | exact .to_any | exact LeV.nineA | exact LeV.noA | (refine .tupL ?_; repeat' (first | exact True.intro | exact .bool_of (by rw [u32_eq] at h; simp [sysB, h]) | exact .ptr rfl (by omega) | exact .osl_of rfl (by omega) rfl | exact .fr rfl | exact LeL.fr rfl | exact .yld rfl (by omega) | exact .eptr rfl (by omega) | exact .osl0 | exact .snil_sl | exact .to_any | exact LeV.nineA | exact LeV.noA | refine .aggL ?_ | refine ⟨?_, ?_⟩)) | (refine .aggL ?_; repeat' (first | exact True.intro | exact .bool_of (by rw [u32_eq] at h; simp [sysB, h]) | exact .ptr rfl (by omega) | exact .osl_of rfl (by omega) rfl | exact .fr rfl | exact LeL.fr rfl | exact .yld rfl (by omega) | exact .eptr rfl (by omega) | exact .osl0 | exact .snil_sl | exact .to_any | exact LeV.nineA | exact LeV.noA | refine ⟨?_, ?_⟩))) (by simp))
  | false =>
    (conv => whnf)
    refine callV_pure (has_ok fr a r.sys (by omega) (fun p hp => by have := h2 p hp; omega) (by omega)) ⟨.free (encA_free _ _), .free .int, trivial⟩ ?_
    (conv => whnf)
    exact (Ends.pure [] (by first | exact .bool_of (by rw [u32_eq] at h; simp [sysB, h]) | exact .ptr rfl (by omega) | exact .osl_of rfl (by omega) rfl | exact .fr rfl | exact LeL.fr rfl | exact .yld rfl (by omega) | exact .eptr rfl (by omega) | exact .osl0 | exact .snil_sl | exact .to_any | exact LeV.nineA | exact LeV.noA | (refine .tupL ?_; repeat' (first | exact True.intro | exact .bool_of (by rw [u32_eq] at h; simp [sysB, h]) | exact .ptr rfl (by omega) | exact .osl_of rfl (by omega) rfl | exact .fr rfl | exact LeL.fr rfl | exact .yld rfl (by omega) | exact .eptr rfl (by omega) | exact .osl0 | exact .snil_sl | exact .to_any | exact LeV.nineA | exact LeV.noA | refine .aggL ?_ | refine ⟨?_, ?_⟩)) | (refine .aggL ?_; repeat' (first | exact True.intro | exact .bool_of (by rw [u32_eq] at h; simp [sysB, h]) | exact .ptr rfl (by omega) | exact .osl_of rfl (by omega) rfl | exact .fr rfl | exact LeL.fr rfl | exact .yld rfl (by omega) | exact .eptr rfl (by omega) | exact .osl0 | exact .snil_sl | exact .to_any | exact LeV.nineA | exact LeV.noA | refine ⟨?_, ?_⟩))) (by simp))
set_option maxRecDepth 100000 in
set_option maxHeartbeats 4000000 in
theorem fits_ok (fr : Bool) (r : Rule) (p : Prefix) (a : Attrs) : PCon prog 11 [encRu r, encP p, encA fr a] (.bool (fits r p a)) := by
  refine callV_of (fn := Go.Proofs.Tryz.f11) (body := _) tab_ok mixed rfl rfl (by decide) (by simp [Go.Proofs.Tryz.f11]) ?_
  (conv => whnf)
  refine callV_pure (asks_ok fr r p a) ⟨.free (encRu_free _), .free (encP_free _), .free (encA_free _ _), trivial⟩ ?_
  (conv => whnf)
  intro _
  (conv => whnf)
  refine vcg_loop tab_ok mixed (fun i : {i : Nat // i ≤ 6 ∧ ∀ k, k < i → askB r p a k = true} => ⟨[(7, .bool true), (13, asksV fr r p a), (14, .int .i64 6), (15, cI i.1)], [], 0⟩) (fun i => 6 - i.1) ⟨0, by omega, fun k hk => by omega⟩ (Wk.i (by repeat' (first | exact True.intro | exact id | exact rfl | decide | exact Nat.le_of_ble_eq_true rfl | exact .ptr rfl (by omega) | exact .osl_of rfl (by omega) rfl | exact .fr rfl | exact LeL.fr rfl | exact .yld rfl (by omega) | exact .eptr rfl (by omega) | exact .osl0 | exact .snil_sl | exact .to_any | exact LeV.nineA | exact LeV.noA | exact LeB.fr rfl id id | exact LeB.fr (by simp; done) id id | refine Or.inl ⟨by simp, _, rfl, ?_⟩ | exact Or.inr ⟨by simp, _, _, _, _, rfl⟩ | refine ⟨rfl, rfl, rfl, rfl, rfl, rfl, ?_⟩ | refine ⟨?_, ?_⟩)) (by omega)) (fun i => ?_)
  obtain ⟨i, hi, hall⟩ := i
  have hi' : i = 0 ∨ i = 1 ∨ i = 2 ∨ i = 3 ∨ i = 4 ∨ i = 5 ∨ i = 6 := by omega
  rcases hi' with rfl | rfl | rfl | rfl | rfl | rfl | rfl
  ·
    (conv => whnf)
    refine ⟨rfl, _, ⟨by simp, rfl⟩, ?_⟩
    (conv => whnf)
    refine callV_pure (ask1_ok fr r) ⟨.free (.iptr (cellsRu_free _)), trivial⟩ ?_
    (conv => whnf)
    cases hb : askB r p a 0 with
    | true =>
      have hb' := hb
      simp only [askB] at hb'
      rw [hb']
      (conv => whnf)
      exact ⟨⟨0 + 1, by omega, fun k hk => by rcases Nat.lt_or_ge k 0 with h1 | h1; exact hall k h1; obtain rfl : k = 0 := (by omega); exact hb⟩, (Wk.i (by repeat' (first | exact True.intro | exact id | exact rfl | decide | exact Nat.le_of_ble_eq_true rfl | exact .int_of (by decide) | exact .ptr rfl (by omega) | exact .osl_of rfl (by omega) rfl | exact .fr rfl | exact LeL.fr rfl | exact .yld rfl (by omega) | exact .eptr rfl (by omega) | exact .osl0 | exact .snil_sl | exact .to_any | exact LeV.nineA | exact LeV.noA | exact LeB.fr rfl id id | exact LeB.fr (by simp; done) id id | refine Or.inl ⟨by simp, _, rfl, ?_⟩ | exact Or.inr ⟨by simp, _, _, _, _, rfl⟩ | refine ⟨rfl, rfl, rfl, rfl, rfl, rfl, ?_⟩ | refine ⟨?_, ?_⟩)) (by omega)), by simp only; omega⟩
    | false =>
      have hb' := hb
      simp only [askB] at hb'
      rw [hb']
      (conv => whnf)
      exact (Ends.pure [] (by first | exact .bool_of (fits_not (k := 0) (by omega) hb).symm | exact .ptr rfl (by omega) | exact .osl_of rfl (by omega) rfl | exact .fr rfl | exact LeL.fr rfl | exact .yld rfl (by omega) | exact .eptr rfl (by omega) | exact .osl0 | exact .snil_sl | exact .to_any | exact LeV.nineA | exact LeV.noA | (refine .tupL ?_; repeat' (first | exact True.intro | exact .bool_of (fits_not (k := 0) (by omega) hb).symm | exact .ptr rfl (by omega) | exact .osl_of rfl (by omega) rfl | exact .fr rfl | exact LeL.fr rfl | exact .yld rfl (by omega) | exact .eptr rfl (by omega) | exact .osl0 | exact .snil_sl | exact .to_any | exact LeV.nineA | exact LeV.noA | refine .aggL ?_ | refine ⟨?_, ?_⟩)) | (refine .aggL ?_; repeat' (first | exact True.intro | exact .bool_of (fits_not (k := 0) (by omega) hb).symm | exact .ptr rfl (by omega) | exact .osl_of rfl (by omega) rfl | exact .fr rfl | exact LeL.fr rfl | exact .yld rfl (by omega) | exact .eptr rfl (by omega) | exact .osl0 | exact .snil_sl | exact .to_any | exact LeV.nineA | exact LeV.noA | refine ⟨?_, ?_⟩))) (by simp))
  ·
    (conv => whnf)
    refine ⟨rfl, _, ⟨by simp, rfl⟩, ?_⟩
    (conv => whnf)
    refine callV_pure (ask2_ok fr p a) ⟨.free (.iptr (cellsP_free _)), .free (.iptr (cellsA_free _ _)), trivial⟩ ?_
    (conv => whnf)
    cases hb : askB r p a 1 with
    | true =>
      have hb' := hb
      simp only [askB] at hb'
      rw [hb']
      (conv => whnf)
      exact ⟨⟨1 + 1, by omega, fun k hk => by rcases Nat.lt_or_ge k 1 with h1 | h1; exact hall k h1; obtain rfl : k = 1 := (by omega); exact hb⟩, (Wk.i (by repeat' (first | exact True.intro | exact id | exact rfl | decide | exact Nat.le_of_ble_eq_true rfl | exact .int_of (by decide) | exact .ptr rfl (by omega) | exact .osl_of rfl (by omega) rfl | exact .fr rfl | exact LeL.fr rfl | exact .yld rfl (by omega) | exact .eptr rfl (by omega) | exact .osl0 | exact .snil_sl | exact .to_any | exact LeV.nineA | exact LeV.noA | exact LeB.fr rfl id id | exact LeB.fr (by simp; done) id id | refine Or.inl ⟨by simp, _, rfl, ?_⟩ | exact Or.inr ⟨by simp, _, _, _, _, rfl⟩ | refine ⟨rfl, rfl, rfl, rfl, rfl, rfl, ?_⟩ | refine ⟨?_, ?_⟩)) (by omega)), by simp only; omega⟩
    | false =>
      have hb' := hb
      simp only [askB] at hb'
      rw [hb']
      (conv => whnf)
      exact (Ends.pure [] (by first | exact .bool_of (fits_not (k := 1) (by omega) hb).symm | exact .ptr rfl (by omega) | exact .osl_of rfl (by omega) rfl | exact .fr rfl | exact LeL.fr rfl | exact .yld rfl (by omega) | exact .eptr rfl (by omega) | exact .osl0 | exact .snil_sl | exact .to_any | exact LeV.nineA | exact LeV.noA | (refine .tupL ?_; repeat' (first | exact True.intro | exact .bool_of (fits_not (k := 1) (by omega) hb).symm | exact .ptr rfl (by omega) | exact .osl_of rfl (by omega) rfl | exact .fr rfl | exact LeL.fr rfl | exact .yld rfl (by omega) | exact .eptr rfl (by omega) | exact .osl0 | exact .snil_sl | exact .to_any | exact LeV.nineA | exact LeV.noA | refine .aggL ?_ | refine ⟨?_, ?_⟩)) | (refine .aggL ?_; repeat' (first | exact True.intro | exact .bool_of (fits_not (k := 1) (by omega) hb).symm | exact .ptr rfl (by omega) | exact .osl_of rfl (by omega) rfl | exact .fr rfl | exact LeL.fr rfl | exact .yld rfl (by omega) | exact .eptr rfl (by omega) | exact .osl0 | exact .snil_sl | exact .to_any | exact LeV.nineA | exact LeV.noA | refine ⟨?_, ?_⟩))) (by simp))
  ·
    (conv => whnf)
    refine ⟨rfl, _, ⟨by simp, rfl⟩, ?_⟩
    (conv => whnf)
    refine callV_pure (ask3_ok r p) ⟨.free (.iptr (cellsRu_free _)), .free (.iptr (cellsP_free _)), trivial⟩ ?_
    (conv => whnf)
    cases hb : askB r p a 2 with
    | true =>
      have hb' := hb
      simp only [askB] at hb'
      rw [hb']
      (conv => whnf)
      exact ⟨⟨2 + 1, by omega, fun k hk => by rcases Nat.lt_or_ge k 2 with h1 | h1; exact hall k h1; obtain rfl : k = 2 := (by omega); exact hb⟩, (Wk.i (by repeat' (first | exact True.intro | exact id | exact rfl | decide | exact Nat.le_of_ble_eq_true rfl | exact .int_of (by decide) | exact .ptr rfl (by omega) | exact .osl_of rfl (by omega) rfl | exact .fr rfl | exact LeL.fr rfl | exact .yld rfl (by omega) | exact .eptr rfl (by omega) | exact .osl0 | exact .snil_sl | exact .to_any | exact LeV.nineA | exact LeV.noA | exact LeB.fr rfl id id | exact LeB.fr (by simp; done) id id | refine Or.inl ⟨by simp, _, rfl, ?_⟩ | exact Or.inr ⟨by simp, _, _, _, _, rfl⟩ | refine ⟨rfl, rfl, rfl, rfl, rfl, rfl, ?_⟩ | refine ⟨?_, ?_⟩)) (by omega)), by simp only; omega⟩
    | false =>
      have hb' := hb
      simp only [askB] at hb'
      rw [hb']
      (conv => whnf)
      exact (Ends.pure [] (by first | exact .bool_of (fits_not (k := 2) (by omega) hb).symm | exact .ptr rfl (by omega) | exact .osl_of rfl (by omega) rfl | exact .fr rfl | exact LeL.fr rfl | exact .yld rfl (by omega) | exact .eptr rfl (by omega) | exact .osl0 | exact .snil_sl | exact .to_any | exact LeV.nineA | exact LeV.noA | (refine .tupL ?_; repeat' (first | exact True.intro | exact .bool_of (fits_not (k := 2) (by omega) hb).symm | exact .ptr rfl (by omega) | exact .osl_of rfl (by omega) rfl | exact .fr rfl | exact LeL.fr rfl | exact .yld rfl (by omega) | exact .eptr rfl (by omega) | exact .osl0 | exact .snil_sl | exact .to_any | exact LeV.nineA | exact LeV.noA | refine .aggL ?_ | refine ⟨?_, ?_⟩)) | (refine .aggL ?_; repeat' (first | exact True.intro | exact .bool_of (fits_not (k := 2) (by omega) hb).symm | exact .ptr rfl (by omega) | exact .osl_of rfl (by omega) rfl | exact .fr rfl | exact LeL.fr rfl | exact .yld rfl (by omega) | exact .eptr rfl (by omega) | exact .osl0 | exact .snil_sl | exact .to_any | exact LeV.nineA | exact LeV.noA | refine ⟨?_, ?_⟩))) (by simp))
  ·
    (conv => whnf)
    refine ⟨rfl, _, ⟨by simp, rfl⟩, ?_⟩
    (conv => whnf)
    refine callV_pure (ask4_ok r p) ⟨.free (.iptr (cellsRu_free _)), .free (.iptr (cellsP_free _)), trivial⟩ ?_
    (conv => whnf)
    cases hb : askB r p a 3 with
    | true =>
      have hb' := hb
      simp only [askB] at hb'
      rw [hb']
      (conv => whnf)
      exact ⟨⟨3 + 1, by omega, fun k hk => by rcases Nat.lt_or_ge k 3 with h1 | h1; exact hall k h1; obtain rfl : k = 3 := (by omega); exact hb⟩, (Wk.i (by repeat' (first | exact True.intro | exact id | exact rfl | decide | exact Nat.le_of_ble_eq_true rfl | exact .int_of (by decide) | exact .ptr rfl (by omega) | exact .osl_of rfl (by omega) rfl | exact .fr rfl | exact LeL.fr rfl | exact .yld rfl (by omega) | exact .eptr rfl (by omega) | exact .osl0 | exact .snil_sl | exact .to_any | exact LeV.nineA | exact LeV.noA | exact LeB.fr rfl id id | exact LeB.fr (by simp; done) id id | refine Or.inl ⟨by simp, _, rfl, ?_⟩ | exact Or.inr ⟨by simp, _, _, _, _, rfl⟩ | refine ⟨rfl, rfl, rfl, rfl, rfl, rfl, ?_⟩ | refine ⟨?_, ?_⟩)) (by omega)), by simp only; omega⟩
    | false =>
      have hb' := hb
      simp only [askB] at hb'
      rw [hb']
      (conv => whnf)
      exact (Ends.pure [] (by first | exact .bool_of (fits_not (k := 3) (by omega) hb).symm | exact .ptr rfl (by omega) | exact .osl_of rfl (by omega) rfl | exact .fr rfl | exact LeL.fr rfl | exact .yld rfl (by omega) | exact .eptr rfl (by omega) | exact .osl0 | exact .snil_sl | exact .to_any | exact LeV.nineA | exact LeV.noA | (refine .tupL ?_; repeat' (first | exact True.intro | exact .bool_of (fits_not (k := 3) (by omega) hb).symm | exact .ptr rfl (by omega) | exact .osl_of rfl (by omega) rfl | exact .fr rfl | exact LeL.fr rfl | exact .yld rfl (by omega) | exact .eptr rfl (by omega) | exact .osl0 | exact .snil_sl | exact .to_any | exact LeV.nineA | exact LeV.noA | refine .aggL ?_ | refine ⟨?_, ?_⟩)) | (refine .aggL ?_; repeat' (first | exact True.intro | exact .bool_of (fits_not (k := 3) (by omega) hb).symm | exact .ptr rfl (by omega) | exact .osl_of rfl (by omega) rfl | exact .fr rfl | exact LeL.fr rfl | exact .yld rfl (by omega) | exact .eptr rfl (by omega) | exact .osl0 | exact .snil_sl | exact .to_any | exact LeV.nineA | exact LeV.noA | refine ⟨?_, ?_⟩))) (by simp))
  ·
    (conv => whnf)
    refine ⟨rfl, _, ⟨by simp, rfl⟩, ?_⟩
    (conv => whnf)
    refine callV_pure (ask5_ok fr r a) ⟨.free (.iptr (cellsRu_free _)), .free (.iptr (cellsA_free _ _)), trivial⟩ ?_
    (conv => whnf)
    cases hb : askB r p a 4 with
    | true =>
      have hb' := hb
      simp only [askB] at hb'
      rw [hb']
      (conv => whnf)
      exact ⟨⟨4 + 1, by omega, fun k hk => by rcases Nat.lt_or_ge k 4 with h1 | h1; exact hall k h1; obtain rfl : k = 4 := (by omega); exact hb⟩, (Wk.i (by repeat' (first | exact True.intro | exact id | exact rfl | decide | exact Nat.le_of_ble_eq_true rfl | exact .int_of (by decide) | exact .ptr rfl (by omega) | exact .osl_of rfl (by omega) rfl | exact .fr rfl | exact LeL.fr rfl | exact .yld rfl (by omega) | exact .eptr rfl (by omega) | exact .osl0 | exact .snil_sl | exact .to_any | exact LeV.nineA | exact LeV.noA | exact LeB.fr rfl id id | exact LeB.fr (by simp; done) id id | refine Or.inl ⟨by simp, _, rfl, ?_⟩ | exact Or.inr ⟨by simp, _, _, _, _, rfl⟩ | refine ⟨rfl, rfl, rfl, rfl, rfl, rfl, ?_⟩ | refine ⟨?_, ?_⟩)) (by omega)), by simp only; omega⟩
    | false =>
      have hb' := hb
      simp only [askB] at hb'
      rw [hb']
      (conv => whnf)
      exact (Ends.pure [] (by first | exact .bool_of (fits_not (k := 4) (by omega) hb).symm | exact .ptr rfl (by omega) | exact .osl_of rfl (by omega) rfl | exact .fr rfl | exact LeL.fr rfl | exact .yld rfl (by omega) | exact .eptr rfl (by omega) | exact .osl0 | exact .snil_sl | exact .to_any | exact LeV.nineA | exact LeV.noA | (refine .tupL ?_; repeat' (first | exact True.intro | exact .bool_of (fits_not (k := 4) (by omega) hb).symm | exact .ptr rfl (by omega) | exact .osl_of rfl (by omega) rfl | exact .fr rfl | exact LeL.fr rfl | exact .yld rfl (by omega) | exact .eptr rfl (by omega) | exact .osl0 | exact .snil_sl | exact .to_any | exact LeV.nineA | exact LeV.noA | refine .aggL ?_ | refine ⟨?_, ?_⟩)) | (refine .aggL ?_; repeat' (first | exact True.intro | exact .bool_of (fits_not (k := 4) (by omega) hb).symm | exact .ptr rfl (by omega) | exact .osl_of rfl (by omega) rfl | exact .fr rfl | exact LeL.fr rfl | exact .yld rfl (by omega) | exact .eptr rfl (by omega) | exact .osl0 | exact .snil_sl | exact .to_any | exact LeV.nineA | exact LeV.noA | refine ⟨?_, ?_⟩))) (by simp))
  · have hr : rightA a = true := by have := hall 1 (by omega); simp only [askB, Bool.and_eq_true] at this; exact this.2
    (conv => whnf)
    refine ⟨rfl, _, ⟨by simp, rfl⟩, ?_⟩
    (conv => whnf)
    refine callV_pure (ask6_ok fr r a hr) ⟨.free (.iptr (cellsRu_free _)), .free (.iptr (cellsA_free _ _)), trivial⟩ ?_
    (conv => whnf)
    cases hb : askB r p a 5 with
    | true =>
      have hb' := hb
      simp only [askB] at hb'
      rw [hb']
      (conv => whnf)
      exact ⟨⟨5 + 1, by omega, fun k hk => by rcases Nat.lt_or_ge k 5 with h1 | h1; exact hall k h1; obtain rfl : k = 5 := (by omega); exact hb⟩, (Wk.i (by repeat' (first | exact True.intro | exact id | exact rfl | decide | exact Nat.le_of_ble_eq_true rfl | exact .int_of (by decide) | exact .ptr rfl (by omega) | exact .osl_of rfl (by omega) rfl | exact .fr rfl | exact LeL.fr rfl | exact .yld rfl (by omega) | exact .eptr rfl (by omega) | exact .osl0 | exact .snil_sl | exact .to_any | exact LeV.nineA | exact LeV.noA | exact LeB.fr rfl id id | exact LeB.fr (by simp; done) id id | refine Or.inl ⟨by simp, _, rfl, ?_⟩ | exact Or.inr ⟨by simp, _, _, _, _, rfl⟩ | refine ⟨rfl, rfl, rfl, rfl, rfl, rfl, ?_⟩ | refine ⟨?_, ?_⟩)) (by omega)), by simp only; omega⟩
    | false =>
      have hb' := hb
      simp only [askB] at hb'
      rw [hb']
      (conv => whnf)
      exact (Ends.pure [] (by first | exact .bool_of (fits_not (k := 5) (by omega) hb).symm | exact .ptr rfl (by omega) | exact .osl_of rfl (by omega) rfl | exact .fr rfl | exact LeL.fr rfl | exact .yld rfl (by omega) | exact .eptr rfl (by omega) | exact .osl0 | exact .snil_sl | exact .to_any | exact LeV.nineA | exact LeV.noA | (refine .tupL ?_; repeat' (first | exact True.intro | exact .bool_of (fits_not (k := 5) (by omega) hb).symm | exact .ptr rfl (by omega) | exact .osl_of rfl (by omega) rfl | exact .fr rfl | exact LeL.fr rfl | exact .yld rfl (by omega) | exact .eptr rfl (by omega) | exact .osl0 | exact .snil_sl | exact .to_any | exact LeV.nineA | exact LeV.noA | refine .aggL ?_ | refine ⟨?_, ?_⟩)) | (refine .aggL ?_; repeat' (first | exact True.intro | exact .bool_of (fits_not (k := 5) (by omega) hb).symm | exact .ptr rfl (by omega) | exact .osl_of rfl (by omega) rfl | exact .fr rfl | exact LeL.fr rfl | exact .yld rfl (by omega) | exact .eptr rfl (by omega) | exact .osl0 | exact .snil_sl | exact .to_any | exact LeV.nineA | exact LeV.noA | refine ⟨?_, ?_⟩))) (by simp))
  · (conv => whnf)
    exact (Ends.pure [] (by first | exact .bool_of (fits_all hall).symm | exact .ptr rfl (by omega) | exact .osl_of rfl (by omega) rfl | exact .fr rfl | exact LeL.fr rfl | exact .yld rfl (by omega) | exact .eptr rfl (by omega) | exact .osl0 | exact .snil_sl | exact .to_any | exact LeV.nineA | exact LeV.noA | (refine .tupL ?_; repeat' (first | exact True.intro | exact .bool_of (fits_all hall).symm | exact .ptr rfl (by omega) | exact .osl_of rfl (by omega) rfl | exact .fr rfl | exact LeL.fr rfl | exact .yld rfl (by omega) | exact .eptr rfl (by omega) | exact .osl0 | exact .snil_sl | exact .to_any | exact LeV.nineA | exact LeV.noA | refine .aggL ?_ | refine ⟨?_, ?_⟩)) | (refine .aggL ?_; repeat' (first | exact True.intro | exact .bool_of (fits_all hall).symm | exact .ptr rfl (by omega) | exact .osl_of rfl (by omega) rfl | exact .fr rfl | exact LeL.fr rfl | exact .yld rfl (by omega) | exact .eptr rfl (by omega) | exact .osl0 | exact .snil_sl | exact .to_any | exact LeV.nineA | exact LeV.noA | refine ⟨?_, ?_⟩))) (by simp))
end Go.Proofs.YtjpfofmkgdjelaaGreat
/- Contracts: whether a rule fits, by the document; which does first, of both. -/
set_option linter.unusedVariables false
set_option linter.unusedSimpArgs false
namespace Go.Proofs.YtjpfofmkgdjelaaGreat
open Go.RowKit
open Go.Proofs.Tryz (prog)
attribute [local irreducible] CallV RoundV

set_option maxRecDepth 100000 in
set_option maxHeartbeats 8000000 in
theorem rfits_ok (fr : Bool) (r : Rule) (p : Prefix) (a : Attrs) : PCon prog 12 [encRu r, encP p, encA fr a] (.bool (fits r p a)) := by
  have no : ∀ {s : St}, fits r p a = false → ∃ v1 h' nx', Ends 0 s (.bool false) v1 h' nx' ∧ (v1 = .bool (fits r p a) ∧ h' = [] ∧ nx' = 0) := fun h => Ends.pure [] (.bool_of h.symm) (by simp)
  refine callV_of (fn := Go.Proofs.Tryz.f12) (body := _) tab_ok mixed rfl rfl (by decide) (by simp [Go.Proofs.Tryz.f12]) ?_
  (conv => whnf)
  refine callV_pure (rule23_ok r) ⟨.free (encRu_free _), trivial⟩ ?_
  cases h0 : ruleOk r with
  | false =>
    (conv => whnf)
    exact no (by simp [fits, h0])
  | true =>
  (conv => whnf)
  refine callV_pure (rRight_ok p) ⟨.free (encP_free _), trivial⟩ ?_
  cases h1 : prefOk p with
  | false =>
    (conv => whnf)
    exact no (by simp [fits, h1])
  | true =>
  (conv => whnf)
  refine callV_pure (right_ok fr a) ⟨.free (encA_free _ _), trivial⟩ ?_
  cases h2 : rightA a with
  | false =>
    (conv => whnf)
    exact no (by simp [fits, h2])
  | true =>
  (conv => whnf)
  refine callV_pure (rCovers_ok r.cover p) ⟨.free (encP_free _), .free (encP_free _), trivial⟩ ?_
  cases h3 : coversP r.cover p with
  | false =>
    (conv => whnf)
    exact no (by simp [fits, h3])
  | true =>
  (conv => whnf)
  cases h4 : decide ((p.len.toNat : Int) < (r.least.toNat : Int)) with
  | true =>
    have h4' : lenB r p = false := by simp at h4; simp [lenB]; omega
    (conv => whnf)
    exact no (by simp [fits, h4'])
  | false =>
  (conv => whnf)
  cases h5 : decide ((r.most.toNat : Int) < (p.len.toNat : Int)) with
  | true =>
    have h5' : lenB r p = false := by simp at h5; simp [lenB]; omega
    (conv => whnf)
    exact no (by simp [fits, h5'])
  | false =>
  have hl : lenB r p = true := by simp at h4 h5; simp [lenB]; omega
  obtain ⟨q1, q2, q3, _⟩ := few_of_right h2
  have fin : ∀ {b : Bool}, tagB r a = true → b = sysB r a → b = fits r p a := fun ht hb => by simp [fits, h0, h1, h2, h3, hl, ht, hb]
  (conv => whnf)
  cases h6 : r.hasTag
  case' true =>
    (conv => whnf)
    refine vcg_loop tab_ok mixed (fun k : {k : Nat // k ≤ a.tags.length} => ⟨[(3, .ptr 0 0), (4, .ptr 1 0), (5, .ptr 2 0), (7, .bool (hasN (a.tags.take k.1) r.tag)), (8, cI k.1)], [(0, some (.var true 26 (cellsRu r))), (1, some (.var true 24 (cellsP p))), (2, some (.var true 33 (cellsA fr a)))], 3⟩) (fun k => a.tags.length - k.1) ⟨0, by omega⟩ (Wk.i (by repeat' (first | exact True.intro | exact id | exact rfl | decide | exact Nat.le_of_ble_eq_true rfl | exact .ptr rfl (by omega) | exact .osl_of rfl (by omega) rfl | exact .fr rfl | exact LeL.fr rfl | exact .yld rfl (by omega) | exact .eptr rfl (by omega) | exact .osl0 | exact .snil_sl | exact .to_any | exact LeV.nineA | exact LeV.noA | exact LeB.fr rfl id id | exact LeB.fr (by simp; done) id id | refine Or.inl ⟨by simp, _, rfl, ?_⟩ | exact Or.inr ⟨by simp, _, _, _, _, rfl⟩ | refine ⟨rfl, rfl, rfl, rfl, rfl, rfl, ?_⟩ | refine ⟨?_, ?_⟩)) (by omega)) (fun k => ?_)
    obtain ⟨k, hk⟩ := k
    (conv => whnf)
    intro _
    (conv => whnf)
    split
    case' h_1 hc =>
      have hc : k < a.tags.length := by simpa using hc
      have hs := hasN_take_succ r.tag hc
      (conv => whnf)
      cases hh : hasN (a.tags.take k) r.tag with
      | true =>
        (conv => whnf)
        refine ⟨by kernel_rfl, ?_⟩
        (conv => whnf)
        exact ⟨⟨k + 1, by omega⟩, (Wk.i (by repeat' (first | exact True.intro | exact id | exact rfl | decide | exact Nat.le_of_ble_eq_true rfl | exact .bool_of (by rw [hs, hh]; rfl) | exact .int_of (wrap64_succ hc (show a.tags.length ≤ maxLen by unfold maxLen; omega)) | exact .ptr rfl (by omega) | exact .osl_of rfl (by omega) rfl | exact .fr rfl | exact LeL.fr rfl | exact .yld rfl (by omega) | exact .eptr rfl (by omega) | exact .osl0 | exact .snil_sl | exact .to_any | exact LeV.nineA | exact LeV.noA | exact LeB.fr rfl id id | exact LeB.fr (by simp; done) id id | refine Or.inl ⟨by simp, _, rfl, ?_⟩ | exact Or.inr ⟨by simp, _, _, _, _, rfl⟩ | refine ⟨rfl, rfl, rfl, rfl, rfl, rfl, ?_⟩ | refine ⟨?_, ?_⟩)) (by omega)), by simp only; omega⟩
      | false =>
        (conv => whnf)
        refine ⟨rfl, _, ⟨by first | omega | (simp only; omega), idxW hc⟩, ?_⟩
        (conv => whnf)
        refine ⟨by kernel_rfl, ?_⟩
        (conv => whnf)
        exact ⟨⟨k + 1, by omega⟩, (Wk.i (by repeat' (first | exact True.intro | exact id | exact rfl | decide | exact Nat.le_of_ble_eq_true rfl | exact .bool_of (by rw [hs, hh, w_eq]; rfl) | exact .int_of (wrap64_succ hc (show a.tags.length ≤ maxLen by unfold maxLen; omega)) | exact .ptr rfl (by omega) | exact .osl_of rfl (by omega) rfl | exact .fr rfl | exact LeL.fr rfl | exact .yld rfl (by omega) | exact .eptr rfl (by omega) | exact .osl0 | exact .snil_sl | exact .to_any | exact LeV.nineA | exact LeV.noA | exact LeB.fr rfl id id | exact LeB.fr (by simp; done) id id | refine Or.inl ⟨by simp, _, rfl, ?_⟩ | exact Or.inr ⟨by simp, _, _, _, _, rfl⟩ | refine ⟨rfl, rfl, rfl, rfl, rfl, rfl, ?_⟩ | refine ⟨?_, ?_⟩)) (by omega)), by simp only; omega⟩
    case' h_2 hc =>
      have hc : k = a.tags.length := by simp at hc; omega
      subst hc
      have htg : hasN (a.tags.take a.tags.length) r.tag = a.tags.contains r.tag := by
        rw [List.take_length, List.contains_eq_any_beq, hasN]
        congr 1
        funext y
        exact BEq.comm
      (conv => whnf)
      rw [htg]
      cases ht : a.tags.contains r.tag with
      | false =>
        (conv => whnf)
        exact no (by simp only [fits, tagB, h6, ht]; simp)
      | true => ?_
  all_goals
    have htg : tagB r a = true := by first | (rw [tagB, h6]; rfl) | (rw [tagB, h6, ht]; rfl)
    (conv => whnf)
    cases h7 : ((r.sys.toNat : Int) == 0) with
    | true =>
      (conv => whnf)
      exact (Ends.pure [] (by first | exact .bool_of (fin htg (by rw [u32_eq] at h7; simp [sysB, h7])) | exact .ptr rfl (by omega) | exact .osl_of rfl (by omega) rfl | exact .fr rfl | exact LeL.fr rfl | exact .yld rfl (by omega) | exact .eptr rfl (by omega) | exact .osl0 | exact .snil_sl | exact .to_any | exact LeV.nineA | exact LeV.noA | (refine .tupL ?_; repeat' (first | exact True.intro | exact .bool_of (fin htg (by rw [u32_eq] at h7; simp [sysB, h7])) | exact .ptr rfl (by omega) | exact .osl_of rfl (by omega) rfl | exact .fr rfl | exact LeL.fr rfl | exact .yld rfl (by omega) | exact .eptr rfl (by omega) | exact .osl0 | exact .snil_sl | exact .to_any | exact LeV.nineA | exact LeV.noA | refine .aggL ?_ | refine ⟨?_, ?_⟩)) | (refine .aggL ?_; repeat' (first | exact True.intro | exact .bool_of (fin htg (by rw [u32_eq] at h7; simp [sysB, h7])) | exact .ptr rfl (by omega) | exact .osl_of rfl (by omega) rfl | exact .fr rfl | exact LeL.fr rfl | exact .yld rfl (by omega) | exact .eptr rfl (by omega) | exact .osl0 | exact .snil_sl | exact .to_any | exact LeV.nineA | exact LeV.noA | refine ⟨?_, ?_⟩))) (by simp))
    | false =>
      (conv => whnf)
      refine callV_pure (ref_has_ok fr a r.sys (by omega) (fun p hp => by have := q2 p hp; omega)) ⟨.free (encA_free _ _), .free .int, trivial⟩ ?_
      (conv => whnf)
      exact (Ends.pure [] (by first | exact .bool_of (fin htg (by rw [u32_eq] at h7; simp [sysB, h7])) | exact .ptr rfl (by omega) | exact .osl_of rfl (by omega) rfl | exact .fr rfl | exact LeL.fr rfl | exact .yld rfl (by omega) | exact .eptr rfl (by omega) | exact .osl0 | exact .snil_sl | exact .to_any | exact LeV.nineA | exact LeV.noA | (refine .tupL ?_; repeat' (first | exact True.intro | exact .bool_of (fin htg (by rw [u32_eq] at h7; simp [sysB, h7])) | exact .ptr rfl (by omega) | exact .osl_of rfl (by omega) rfl | exact .fr rfl | exact LeL.fr rfl | exact .yld rfl (by omega) | exact .eptr rfl (by omega) | exact .osl0 | exact .snil_sl | exact .to_any | exact LeV.nineA | exact LeV.noA | refine .aggL ?_ | refine ⟨?_, ?_⟩)) | (refine .aggL ?_; repeat' (first | exact True.intro | exact .bool_of (fin htg (by rw [u32_eq] at h7; simp [sysB, h7])) | exact .ptr rfl (by omega) | exact .osl_of rfl (by omega) rfl | exact .fr rfl | exact LeL.fr rfl | exact .yld rfl (by omega) | exact .eptr rfl (by omega) | exact .osl0 | exact .snil_sl | exact .to_any | exact LeV.nineA | exact LeV.noA | refine ⟨?_, ?_⟩))) (by simp))
def whichP (p : Policy) (to : Prefix) (a : Attrs) : Int := if p.rules.any (fun r => fits r to a) then (p.rules.findIdx (fun r => fits r to a) : Nat) else -1
theorem which_at {p : Policy} {to : Prefix} {a : Attrs} {i : Nat} (hi : i < p.rules.length) (hno : ∀ r ∈ p.rules.take i, fits r to a = false) (h : fits p.rules[i] to a = true) : whichP p to a = i := by
  unfold whichP
  rw [if_pos (List.any_eq_true.2 ⟨p.rules[i], List.getElem_mem hi, h⟩)]
  congr 1
  rw [List.findIdx_eq hi]
  refine ⟨h, fun j hj => ?_⟩
  exact hno _ (List.mem_take_iff_getElem.2 ⟨j, by omega, rfl⟩)
theorem which_none {p : Policy} {to : Prefix} {a : Attrs} (hno : ∀ r ∈ p.rules, fits r to a = false) : whichP p to a = -1 := by
  unfold whichP
  rw [if_neg]
  rw [Bool.not_eq_true, List.any_eq_false]
  intro r hr
  simp [hno r hr]
theorem nofit_succ {l : List Rule} {to : Prefix} {a : Attrs} {i : Nat} (hi : i < l.length) (hno : ∀ r ∈ l.take i, fits r to a = false) (h : fits l[i] to a = false) : ∀ r ∈ l.take (i + 1), fits r to a = false := by
  intro r hr
  rw [List.take_succ_eq_append_getElem hi] at hr
  rcases List.mem_append.1 hr with h1 | h1
  · exact hno r h1
  · simp at h1; subst h1; exact h
set_option maxRecDepth 100000 in
theorem rwhich_ok (fr fr' : Bool) (p : Policy) (to : Prefix) (a : Attrs) : PCon prog 14 [encPo fr p, encP to, encA fr' a] (.int .i64 (whichP p to a)) := by
  refine callV_of (fn := Go.Proofs.Tryz.f14) (body := _) tab_ok mixed rfl rfl (by decide) (by simp [Go.Proofs.Tryz.f14]) ?_
  (conv => whnf)
  refine vcg_loop tab_ok mixed (fun i : {i : Nat // i ≤ p.rules.length ∧ ∀ r ∈ p.rules.take i, fits r to a = false} => ⟨[(3, .ptr 0 0), (4, .ptr 1 0), (5, .ptr 2 0), (7, cI i.1)], [(0, some (.var true 29 (cellsPo fr p))), (1, some (.var true 24 (cellsP to))), (2, some (.var true 33 (cellsA fr' a)))], 3⟩) (fun i => p.rules.length - i.1) ⟨0, by omega, by simp⟩ (Wk.i (by repeat' (first | exact True.intro | exact id | exact rfl | decide | exact Nat.le_of_ble_eq_true rfl | exact .ptr rfl (by omega) | exact .osl_of rfl (by omega) rfl | exact .fr rfl | exact LeL.fr rfl | exact .yld rfl (by omega) | exact .eptr rfl (by omega) | exact .osl0 | exact .snil_sl | exact .to_any | exact LeV.nineA | exact LeV.noA | exact LeB.fr rfl id id | exact LeB.fr (by simp; done) id id | refine Or.inl ⟨by simp, _, rfl, ?_⟩ | exact Or.inr ⟨by simp, _, _, _, _, rfl⟩ | refine ⟨rfl, rfl, rfl, rfl, rfl, rfl, ?_⟩ | refine ⟨?_, ?_⟩)) (by omega)) (fun i => ?_)
  obtain ⟨i, hi, hno⟩ := i
  (conv => whnf)
  intro hl
  have hl : p.rules.length ≤ maxLen := by simpa [gd] using hl
  (conv => whnf)
  split
  · rename_i hc
    have hc : i < p.rules.length := by simpa using hc
    (conv => whnf)
    refine ⟨rfl, _, ⟨by first | omega | (simp only; omega), idxRu hc⟩, ?_⟩
    (conv => whnf)
    have hR := rfits_ok fr' (p.rules[i]'hc) to a
    refine ⟨_, [], fun h nx _ => pureV_pure hR ⟨.free (encRu_free _), .free (encP_free _), .free (encA_free _ _), trivial⟩, by simp, ?_⟩
    (conv => whnf)
    refine ⟨by kernel_rfl, ?_⟩
    (conv => whnf)
    cases hf : fits p.rules[i] to a with
    | true =>
      (conv => whnf)
      exact (Ends.pure [] (by first | exact .int_of (which_at hc hno hf).symm | exact .ptr rfl (by omega) | exact .osl_of rfl (by omega) rfl | exact .fr rfl | exact LeL.fr rfl | exact .yld rfl (by omega) | exact .eptr rfl (by omega) | exact .osl0 | exact .snil_sl | exact .to_any | exact LeV.nineA | exact LeV.noA | (refine .tupL ?_; repeat' (first | exact True.intro | exact .int_of (which_at hc hno hf).symm | exact .ptr rfl (by omega) | exact .osl_of rfl (by omega) rfl | exact .fr rfl | exact LeL.fr rfl | exact .yld rfl (by omega) | exact .eptr rfl (by omega) | exact .osl0 | exact .snil_sl | exact .to_any | exact LeV.nineA | exact LeV.noA | refine .aggL ?_ | refine ⟨?_, ?_⟩)) | (refine .aggL ?_; repeat' (first | exact True.intro | exact .int_of (which_at hc hno hf).symm | exact .ptr rfl (by omega) | exact .osl_of rfl (by omega) rfl | exact .fr rfl | exact LeL.fr rfl | exact .yld rfl (by omega) | exact .eptr rfl (by omega) | exact .osl0 | exact .snil_sl | exact .to_any | exact LeV.nineA | exact LeV.noA | refine ⟨?_, ?_⟩))) (by simp))
    | false =>
      (conv => whnf)
      exact ⟨⟨i + 1, by omega, nofit_succ hc hno hf⟩, (Wk.i (by repeat' (first | exact True.intro | exact id | exact rfl | decide | exact Nat.le_of_ble_eq_true rfl | exact .int_of (wrap64_succ hc hl) | exact .ptr rfl (by omega) | exact .osl_of rfl (by omega) rfl | exact .fr rfl | exact LeL.fr rfl | exact .yld rfl (by omega) | exact .eptr rfl (by omega) | exact .osl0 | exact .snil_sl | exact .to_any | exact LeV.nineA | exact LeV.noA | exact LeB.fr rfl id id | exact LeB.fr (by simp; done) id id | refine Or.inl ⟨by simp, _, rfl, ?_⟩ | exact Or.inr ⟨by simp, _, _, _, _, rfl⟩ | refine ⟨rfl, rfl, rfl, rfl, rfl, rfl, ?_⟩ | refine ⟨?_, ?_⟩)) (by omega)), by simp only; omega⟩
  · rename_i hc
    have hc : i = p.rules.length := by simp at hc; omega
    subst hc
    rw [List.take_length] at hno
    (conv => whnf)
    exact (Ends.pure [] (by first | exact .int_of (which_none hno).symm | exact .ptr rfl (by omega) | exact .osl_of rfl (by omega) rfl | exact .fr rfl | exact LeL.fr rfl | exact .yld rfl (by omega) | exact .eptr rfl (by omega) | exact .osl0 | exact .snil_sl | exact .to_any | exact LeV.nineA | exact LeV.noA | (refine .tupL ?_; repeat' (first | exact True.intro | exact .int_of (which_none hno).symm | exact .ptr rfl (by omega) | exact .osl_of rfl (by omega) rfl | exact .fr rfl | exact LeL.fr rfl | exact .yld rfl (by omega) | exact .eptr rfl (by omega) | exact .osl0 | exact .snil_sl | exact .to_any | exact LeV.nineA | exact LeV.noA | refine .aggL ?_ | refine ⟨?_, ?_⟩)) | (refine .aggL ?_; repeat' (first | exact True.intro | exact .int_of (which_none hno).symm | exact .ptr rfl (by omega) | exact .osl_of rfl (by omega) rfl | exact .fr rfl | exact LeL.fr rfl | exact .yld rfl (by omega) | exact .eptr rfl (by omega) | exact .osl0 | exact .snil_sl | exact .to_any | exact LeV.nineA | exact LeV.noA | refine ⟨?_, ?_⟩))) (by simp))
set_option maxRecDepth 100000 in
theorem fitting_ok (fr fr' : Bool) (p : Policy) (to : Prefix) (a : Attrs) : PCon prog 35 [encPo fr p, encP to, encA fr' a] (.fn (.func 70) [] [.iptr true (cellsPo fr p), .iptr true (cellsP to), .iptr true (cellsA fr' a)]) := by
  refine callV_of (fn := Go.Proofs.Tryz.f35) (body := _) tab_ok mixed rfl rfl (by decide) (by simp [Go.Proofs.Tryz.f35]) ?_
  (conv => whnf)
  exact Ends.pure [0, 1, 2] (.fnL trivial ⟨.fzP (by simp) rfl (cellsPo_free fr p), .fzP (by simp) rfl (cellsP_free to), .fzP (by simp) rfl (cellsA_free fr' a), trivial⟩) (by intro z hz; simp only [List.mem_cons, List.not_mem_nil, or_false] at hz; rcases hz with rfl | rfl | rfl <;> exact ne_none_of rfl)
set_option maxRecDepth 100000 in
set_option maxHeartbeats 4000000 in
theorem which_ok (fr fr' : Bool) (p : Policy) (to : Prefix) (a : Attrs) : PCon prog 13 [encPo fr p, encP to, encA fr' a] (.int .i64 (whichP p to a)) := by
  refine callV_of (fn := Go.Proofs.Tryz.f13) (body := _) tab_ok mixed rfl rfl (by decide) (by simp [Go.Proofs.Tryz.f13]) ?_
  (conv => whnf)
  refine callV_pure (fitting_ok fr fr' p to a) ⟨.free (encPo_free _ _), .free (encP_free _), .free (encA_free _ _), trivial⟩ ?_
  (conv => whnf)
  refine callV_loop [(6, .ptr 3 0)] ⟨rfl, trivial⟩ fun asg' body' hasg hbody => ?_
  refine callV_of (fn := Go.Proofs.Tryz.f70) (body := _) tab_ok mixed rfl rfl (by decide) (by simp [Go.Proofs.Tryz.f70]) ?_
  (conv => whnf)
  intro hl
  have hl : p.rules.length ≤ maxLen := by simpa [gd] using hl
  (conv => whnf)
  refine vcg_loop tab_ok mixed (fun i : {i : Nat // i ≤ p.rules.length ∧ ∀ r ∈ p.rules.take i, fits r to a = false} => ⟨[(0, .yld 4), (2, .iptr true (cellsP to)), (3, .iptr true (cellsA fr' a)), (8, encRus fr p.rules), (9, cI p.rules.length), (10, cI i.1)], [(4, some (.loop 14 [(6, .ptr 3 0)] [12] asg' body' .ready none)), (3, some (.var true 3 [.int .i64 0]))], 5⟩) (fun i => p.rules.length - i.1) ⟨0, by omega, by simp⟩ (Wk.i (by repeat' (first | exact True.intro | exact id | exact rfl | decide | exact Nat.le_of_ble_eq_true rfl | exact .free (.iptr (cellsP_free _)) | exact .free (.iptr (cellsA_free _ _)) | exact .int_of (by simp) | exact .ptr rfl (by omega) | exact .osl_of rfl (by omega) rfl | exact .fr rfl | exact LeL.fr rfl | exact .yld rfl (by omega) | exact .eptr rfl (by omega) | exact .osl0 | exact .snil_sl | exact .to_any | exact LeV.nineA | exact LeV.noA | exact LeB.fr rfl id id | exact LeB.fr (by simp; done) id id | refine Or.inl ⟨by simp, _, rfl, ?_⟩ | exact Or.inr ⟨by simp, _, _, _, _, rfl⟩ | refine ⟨rfl, rfl, rfl, rfl, rfl, rfl, ?_⟩ | refine ⟨?_, ?_⟩)) (by omega)) (fun i => ?_)
  obtain ⟨i, hi, hno⟩ := i
  (conv => whnf)
  split
  · rename_i hc
    have hc : i < p.rules.length := by simpa using hc
    (conv => whnf)
    refine ⟨rfl, _, ⟨by first | omega | (simp only; omega), idxRu hc⟩, ?_⟩
    (conv => whnf)
    refine callV_pure (fits_ok fr' (p.rules[i]'hc) to a) ⟨.free (encRu_free _), .free (encP_free _), .free (encA_free _ _), trivial⟩ ?_
    cases hf : fits p.rules[i] to a with
    | true =>
      (conv => whnf)
      subst hasg hbody
      refine roundV_of tab_ok mixed rfl (by simp) (show 4 < 6 by omega) ?_
      (conv => whnf)
      refine ⟨rfl, ?_⟩
      (conv => whnf)
      refine ⟨rfl, ?_⟩
      (conv => whnf)
      refine ⟨_, _, _, Ends.here, ?_⟩
      (conv => whnf)
      exact (Ends.pure [] (by first | exact .int_of (which_at hc hno hf).symm | exact .ptr rfl (by omega) | exact .osl_of rfl (by omega) rfl | exact .fr rfl | exact LeL.fr rfl | exact .yld rfl (by omega) | exact .eptr rfl (by omega) | exact .osl0 | exact .snil_sl | exact .to_any | exact LeV.nineA | exact LeV.noA | (refine .tupL ?_; repeat' (first | exact True.intro | exact .int_of (which_at hc hno hf).symm | exact .ptr rfl (by omega) | exact .osl_of rfl (by omega) rfl | exact .fr rfl | exact LeL.fr rfl | exact .yld rfl (by omega) | exact .eptr rfl (by omega) | exact .osl0 | exact .snil_sl | exact .to_any | exact LeV.nineA | exact LeV.noA | refine .aggL ?_ | refine ⟨?_, ?_⟩)) | (refine .aggL ?_; repeat' (first | exact True.intro | exact .int_of (which_at hc hno hf).symm | exact .ptr rfl (by omega) | exact .osl_of rfl (by omega) rfl | exact .fr rfl | exact LeL.fr rfl | exact .yld rfl (by omega) | exact .eptr rfl (by omega) | exact .osl0 | exact .snil_sl | exact .to_any | exact LeV.nineA | exact LeV.noA | refine ⟨?_, ?_⟩))) (by simp))
    | false =>
      (conv => whnf)
      exact ⟨⟨i + 1, by omega, nofit_succ hc hno hf⟩, (Wk.i (by repeat' (first | exact True.intro | exact id | exact rfl | decide | exact Nat.le_of_ble_eq_true rfl | exact .free (.iptr (cellsP_free _)) | exact .free (.iptr (cellsA_free _ _)) | exact .int_of (wrap64_succ hc hl) | exact .ptr rfl (by omega) | exact .osl_of rfl (by omega) rfl | exact .fr rfl | exact LeL.fr rfl | exact .yld rfl (by omega) | exact .eptr rfl (by omega) | exact .osl0 | exact .snil_sl | exact .to_any | exact LeV.nineA | exact LeV.noA | exact LeB.fr rfl id id | exact LeB.fr (by simp; done) id id | refine Or.inl ⟨by simp, _, rfl, ?_⟩ | exact Or.inr ⟨by simp, _, _, _, _, rfl⟩ | refine ⟨rfl, rfl, rfl, rfl, rfl, rfl, ?_⟩ | refine ⟨?_, ?_⟩)) (by omega)), by simp only; omega⟩
  · rename_i hc
    have hc : i = p.rules.length := by simp at hc; omega
    subst hc
    rw [List.take_length] at hno
    (conv => whnf)
    refine ⟨_, _, _, Ends.here, ?_⟩
    (conv => whnf)
    exact (Ends.pure [] (by first | exact .int_of (which_none hno).symm | exact .ptr rfl (by omega) | exact .osl_of rfl (by omega) rfl | exact .fr rfl | exact LeL.fr rfl | exact .yld rfl (by omega) | exact .eptr rfl (by omega) | exact .osl0 | exact .snil_sl | exact .to_any | exact LeV.nineA | exact LeV.noA | (refine .tupL ?_; repeat' (first | exact True.intro | exact .int_of (which_none hno).symm | exact .ptr rfl (by omega) | exact .osl_of rfl (by omega) rfl | exact .fr rfl | exact LeL.fr rfl | exact .yld rfl (by omega) | exact .eptr rfl (by omega) | exact .osl0 | exact .snil_sl | exact .to_any | exact LeV.nineA | exact LeV.noA | refine .aggL ?_ | refine ⟨?_, ?_⟩)) | (refine .aggL ?_; repeat' (first | exact True.intro | exact .int_of (which_none hno).symm | exact .ptr rfl (by omega) | exact .osl_of rfl (by omega) rfl | exact .fr rfl | exact LeL.fr rfl | exact .yld rfl (by omega) | exact .eptr rfl (by omega) | exact .osl0 | exact .snil_sl | exact .to_any | exact LeV.nineA | exact LeV.noA | refine ⟨?_, ?_⟩))) (by simp))
end Go.Proofs.YtjpfofmkgdjelaaGreat
