/- Helpers for walks. -/
import Derived.Test.YtcfkendgjinmiaaVN
set_option linter.unusedVariables false
set_option linter.unusedSimpArgs false
namespace Go.Proofs.Ytcfkendgjinmiaa
open Go.RowKit

theorem LeV.int_of {h nx ρ nx' Z} {k : IntKind} {n m : Int} (e : n = m) : LeV h nx ρ nx' Z (.int k n) (.int k m) := e ▸ .free .int
theorem LeV.bool_of {h nx ρ nx' Z} {n m : Bool} (e : n = m) : LeV h nx ρ nx' Z (.bool n) (.bool m) := e ▸ .free .bool
theorem LeV.eq_of {h nx ρ nx' Z} {v v' : V} (e : v = v') (hf : Free v') : LeV h nx ρ nx' Z v v' := by subst e; exact .free hf
theorem LeV.sl_of {h nx ρ nx' Z} {fr : Bool} {sz : Nat} {xs ys : List (List V)} (e : xs = ys) (hf : Free (.sl fr sz ys)) : LeV h nx ρ nx' Z (.sl fr sz xs) (.sl fr sz ys) := by subst e; exact .free hf
theorem LeV.opt_of {h nx ρ nx' Z} {c : Bool} {v v' : V} (hc : c = true) (e : LeV h nx ρ nx' Z v v') : LeV h nx ρ nx' Z (.opt c v) v' := fun G w u hr hv => by
  cases hv with
  | opt _ _ _ h1 _ => exact e G w u hr (h1 hc)
theorem LeV.osl_of {h nx ρ nx' Z} {b b' sz row n n' : Nat} (hb : ρ b' = b) (hn : b' < nx') (e : n = n') : LeV h nx ρ nx' Z (.osl b sz row n) (.osl b' sz row n') := e ▸ .osl hb hn
theorem LeV.freeze_of {h nx ρ nx' Z} {b sz row n : Nat} {fr ex : Bool} {ty : TypeId} {rows ys : List (List V)} (hz : b ∈ Z) (hb : hget h b = some (.arr fr ex ty sz rows)) (hn : row + n ≤ rows.length) (hf : ∀ x ∈ rows, ∀ v ∈ x, Free v)
    (e : (rows.drop row).take n = ys) : LeV h nx ρ nx' Z (.osl b sz row n) (.sl fr sz ys) := e ▸ .freeze hz hb hn hf
theorem LeV.fresh_off {h nx ρ nx' Z} {v : V} {sz : Nat} {xs : List (List V)} (e : LeV h nx ρ nx' Z v (.sl true sz xs)) : LeV h nx ρ nx' Z v (.sl false sz xs) :=
  e.less (.sl (by simp) rfl fun j v v' h1 h2 => by rw [h1] at h2; cases h2; exact Less.refl _)

theorem LeH.nil {base : Nat} {h : Heap} {nx nx' : Nat} {ρ : Nat → Nat} {Z : List Nat} (hn : base ≤ nx') (hl : ∀ b, b < base → ρ b = b) (hz : ∀ z, z ∈ Z → hget h z ≠ none) : LeH base h nx ρ nx' Z [] :=
  ⟨fun b k hb => by simp [hget] at hb, fun b b' hb => by simp [hget] at hb, hl, hn, hz⟩
/-- The heap's blocks, one by one. -/
def leHL (h : Heap) (nx : Nat) (ρ : Nat → Nat) (nx' : Nat) (Z : List Nat) : Heap → Prop
  | [] => True
  | (b, some blk') :: r => (b < nx' ∧ ((ρ b ∉ Z ∧ ∃ blk, hget h (ρ b) = some blk ∧ LeB h nx ρ nx' Z blk blk') ∨ (nx ≤ ρ b ∧ ∃ fr ex ty sz, blk' = .arr fr ex ty sz []))) ∧ leHL h nx ρ nx' Z r
  | (_, none) :: r => leHL h nx ρ nx' Z r
theorem leHL.out {h : Heap} {nx nx' : Nat} {ρ : Nat → Nat} {Z : List Nat} : ∀ {h' : Heap}, leHL h nx ρ nx' Z h' → ∀ b blk', hget h' b = some blk' → b < nx' ∧ ((ρ b ∉ Z ∧ ∃ blk, hget h (ρ b) = some blk ∧ LeB h nx ρ nx' Z blk blk') ∨ (nx ≤ ρ b ∧ ∃ fr ex ty sz, blk' = .arr fr ex ty sz []))
  | [], _, b, k, hb => by simp [hget] at hb
  | (i, none) :: r, hh, b, k, hb => by
    rw [hget_cons] at hb
    split at hb
    · cases hb
    · exact leHL.out (h' := r) hh b k hb
  | (i, some blk) :: r, hh, b, k, hb => by
    rw [hget_cons] at hb
    split at hb
    · rename_i e; subst e; cases hb; exact hh.1
    · exact leHL.out hh.2 b k hb
theorem hget_mem : ∀ {h : Heap} {b : Nat}, hget h b ≠ none → b ∈ h.map Prod.fst
  | [], b, hb => by simp [hget] at hb
  | (i, ob) :: r, b, hb => by
    rw [hget_cons] at hb
    split at hb
    · rename_i e; subst e; simp
    · exact List.mem_cons_of_mem _ (hget_mem hb)
theorem LeH.of {base : Nat} {h h' : Heap} {nx nx' : Nat} {ρ : Nat → Nat} {Z : List Nat} (hb : leHL h nx ρ nx' Z h') (hi : ∀ b ∈ h'.map Prod.fst, ∀ b' ∈ h'.map Prod.fst, ρ b = ρ b' → b = b') (hl : ∀ b, b < base → ρ b = b) (hn : base ≤ nx') (hz : ∀ z ∈ Z, hget h z ≠ none) : LeH base h nx ρ nx' Z h' :=
  ⟨hb.out, fun b b' h1 h2 => hi b (hget_mem h1) b' (hget_mem h2), hl, hn, hz⟩
/-- A renaming off a list: what it does not name stays. -/
def renOf : List (Nat × Nat) → Nat → Nat
  | [], b => b
  | (i, j) :: r, b => match Nat.beq i b with | true => j | false => renOf r b

/-- How a pure function ends. -/
theorem Ends.pure {s : St} {v v' : V} (Z : List Nat) (hv : LeV s.h s.nx id 0 Z v v') (hz : ∀ z ∈ Z, hget s.h z ≠ none) : ∃ v1 h' nx', Ends 0 s v v1 h' nx' ∧ (v1 = v' ∧ h' = [] ∧ nx' = 0) :=
  ⟨v', [], 0, Ends.of id Z hv (LeH.nil (Nat.le_refl _) (fun b hb => by omega) hz), rfl, rfl, rfl⟩

/-! ### Ranges over functions -/
/-- Each temporary of the list is one of the other's. -/
def subT (t : List (Nat × V)) : List (Nat × V) → Prop
  | [] => True
  | (i, v) :: r => look t i = v ∧ subT t r
theorem subT.out {t : List (Nat × V)} : ∀ {t' : List (Nat × V)}, subT t t' → ∀ i, look t' i = .any ∨ look t' i = look t i
  | [], _, i => .inl rfl
  | (j, v) :: r, h, i => by
    rw [look_cons]
    split
    · rename_i e; subst e; exact .inr h.1.symm
    · exact subT.out h.2 i
/-- The record's temporaries, fewer; its code, by name. -/
theorem callV_loop {P : Program} {f : FuncId} {args : List V} {b N nx : Nat} {t : List (Nat × V)} {ps : List Nat} {asg body : Code} {st : LoopState} {pend : Option Code} {h : Heap} {R : V → Heap → Nat → Prop} (t' : List (Nat × V)) (ht : subT t t')
    (hc : ∀ asg' body', asg' = asg → body' = body → CallV P f args ((b, some (.loop N t' ps asg' body' st pend)) :: h) nx R) : CallV P f args ((b, some (.loop N t ps asg body st pend)) :: h) nx R := by
  have hc := hc asg body rfl rfl
  refine ⟨hc.1, fun G w us hr hv => hc.2 G w us ?_ hv⟩
  have live : ∀ {b' k}, hget ((b, some (.loop N t' ps asg body st pend)) :: h) b' = some k → ∃ k', hget ((b, some (.loop N t ps asg body st pend)) :: h) b' = some k' := by
    intro b' k hk
    rw [hget_cons] at hk ⊢
    split at hk
    · rename_i e; rw [if_pos e]; exact ⟨_, rfl⟩
    · rename_i e; rw [if_neg e]; exact ⟨k, hk⟩
  refine ⟨hr.amb_lt, hr.B_le, hr.dom, fun b' k hk => ?_, fun b1 b2 k1 k2 c h1 h2 => ?_, fun b' k c hk => ?_, hr.lt, fun b' k hk => ?_⟩
  · rw [hget_cons] at hk
    split at hk
    · rename_i e
      subst e
      cases hk
      obtain ⟨c, r, h1, h2, h3, h4, h5, h6, h7, h8, h9⟩ : BlkOk G w b (.loop N t ps asg body st pend) := hr.own b _ (by rw [hget_cons, if_pos rfl])
      refine ⟨c, r, h1, h2, h3, h4, h5, h6, h7, h8, fun i => ?_⟩
      rcases ht.out i with e | e
      · rw [e]; exact .any _
      · rw [e]; exact h9 i
    · rename_i e
      exact hr.own b' k (by rw [hget_cons, if_neg e]; exact hk)
  · obtain ⟨_, g1⟩ := live h1
    obtain ⟨_, g2⟩ := live h2
    exact hr.inj b1 b2 _ _ c g1 g2
  · obtain ⟨_, g1⟩ := live hk
    exact hr.apart b' _ c g1
  · obtain ⟨_, g1⟩ := live hk
    exact hr.hdom b' _ g1
/-- A call, walked where it is made: what it leaves, is left. -/
theorem Ends.here {base : Nat} {s : St} {v : V} : Ends base s v v s.h s.nx := fun G w u hr hb hv => ⟨G, hr, hv, Evo.refl _ _ _, hb⟩

/-! ### Data -/
def encB (fr : Bool) (b : List UInt8) : V := .sl fr 1 (b.map fun x => [.int .u8 x.toNat])
def encW (fr : Bool) (l : List UInt32) : V := .sl fr 1 (l.map fun x => [.int .u32 x.toNat])
theorem rowsB_free (b : List UInt8) : ∀ x ∈ b.map (fun x => [V.int .u8 x.toNat]), ∀ v ∈ x, Free v := by
  intro x hx v hv
  obtain ⟨y, _, rfl⟩ := List.mem_map.1 hx
  simp at hv; subst hv; exact .int
theorem rowsW_free (b : List UInt32) : ∀ x ∈ b.map (fun x => [V.int .u32 x.toNat]), ∀ v ∈ x, Free v := by
  intro x hx v hv
  obtain ⟨y, _, rfl⟩ := List.mem_map.1 hx
  simp at hv; subst hv; exact .int
theorem encB_free (fr : Bool) (b : List UInt8) : Free (encB fr b) := .sl (rowsB_free b)
theorem encW_free (fr : Bool) (b : List UInt32) : Free (encW fr b) := .sl (rowsW_free b)
theorem encB_cold (b : List UInt8) : Cold (encB false b) := .sl (by
  intro x hx v hv
  obtain ⟨y, _, rfl⟩ := List.mem_map.1 hx
  simp at hv; subst hv; exact .int)
theorem encW_cold (b : List UInt32) : Cold (encW false b) := .sl (by
  intro x hx v hv
  obtain ⟨y, _, rfl⟩ := List.mem_map.1 hx
  simp at hv; subst hv; exact .int)
theorem encB_fresh (b : List UInt8) : Fresh (encB true b) := .sl (by
  intro x hx v hv
  obtain ⟨y, _, rfl⟩ := List.mem_map.1 hx
  simp at hv; subst hv; exact .int)
theorem encW_fresh (b : List UInt32) : Fresh (encW true b) := .sl (by
  intro x hx v hv
  obtain ⟨y, _, rfl⟩ := List.mem_map.1 hx
  simp at hv; subst hv; exact .int)
theorem wrap64 {n : Int} (h : 0 ≤ n) (h' : n < 9223372036854775808) : IntKind.i64.wrap n = n := by
  rw [show IntKind.i64.wrap n = (n + 9223372036854775808) % 18446744073709551616 - 9223372036854775808 by simp [IntKind.wrap, IntKind.bits, IntKind.signed]; split <;> omega]
  omega
theorem wrap64' (n : Int) : IntKind.i64.wrap n = (n + 9223372036854775808) % 18446744073709551616 - 9223372036854775808 := by simp [IntKind.wrap, IntKind.bits, IntKind.signed]; split <;> omega
theorem wrap8 (n : Int) : IntKind.u8.wrap n = n % 256 := by simp [IntKind.wrap, IntKind.bits, IntKind.signed]
theorem wrap32 (n : Int) : IntKind.u32.wrap n = n % 4294967296 := by simp [IntKind.wrap, IntKind.bits, IntKind.signed]
theorem wrapu64 (n : Int) : IntKind.u64.wrap n = n % 18446744073709551616 := by simp [IntKind.wrap, IntKind.bits, IntKind.signed]
end Go.Proofs.Ytcfkendgjinmiaa
