/- Operations that write nothing. -/
import Derived.Test.YtcfkendgjinmiaaVC
import Derived.Laws.Small
import Derived.Laws.Strings
import Derived.Lib.SliceRun
set_option linter.unusedVariables false
set_option linter.unusedSimpArgs false
namespace Go.Proofs.Ytcfkendgjinmiaa
open Go.RowKit

variable {P : Program} {T : Tab} {s : St} {g : Option Bool} {o : Oper} {K : OK}
theorem szK_out {ti : TI} {K : Nat → Prop} (h : szK ti K) : K ti.size ∧ ti.k ≠ .other := by
  unfold szK at h
  split at h
  · rename_i hk
    rw [forceN_eq] at h
    exact ⟨h, fun e => by rw [e] at hk; simp [known] at hk⟩
  · exact h.elim
theorem otm (o : Oper) {x : Operand} (hx : x ∈ o.op.operands) {s' : St} (ha : ∀ i, i ∈ otmps o.op → s'.get i = s.get i) : ∀ i, x = .tmp i → s'.get i = s.get i := by
  rintro i rfl
  refine ha i ?_
  unfold otmps
  rw [List.mem_filterMap]
  exact ⟨.tmp i, by simpa using hx, rfl⟩

theorem ex_move {x : Operand} (ho : o.op = .move x ∨ o.op = .assign x) (h : argK g (ev s x) fun v => K v [] [] s.nx) : ExOk P s g o K := by
  obtain ⟨v, hK, hv⟩ := argK_out h
  refine .of_pure (rd := []) hK fun hg G N a w s' hs ha _ => ⟨a.eval x, ?_, hv hg G w _ (ev_vr hs x (otm o (by rcases ho with ho | ho <;> simp [ho, Op.operands]) ha))⟩
  rcases ho with ho | ho <;> simp [execOp, ho]

theorem pickK_out {c : Bool} {a b : V} {K : V → Prop} (h : pickK c a b K) : ∃ v, K v ∧ ∀ (G : Gh) (w : World) ua ub, vr G w a ua → vr G w b ub → vr G w v (if c then ua else ub) := by
  cases c with
  | true => exact ⟨a, h, fun G w ua ub ha _ => ha⟩
  | false => exact ⟨b, h, fun G w ua ub _ hb => hb⟩

theorem ex_pick {c x y : Operand} (ho : o.op = .pick c x y) (h : exec T s g o K) : ExOk P s g o K := by
  simp only [exec, ho] at h
  obtain ⟨v, hK, hv⟩ := argK_out h
  split at hK
  · rename_i c' 
    obtain ⟨val, hK, hp⟩ := pickK_out hK
    refine .of_pure (rd := []) hK fun hg G N a w s' hs ha _ => ⟨if c' then a.eval x else a.eval y, ?_, hp G w _ _ (ev_vr hs x (otm o (by simp [ho, Op.operands]) ha)) (ev_vr hs y (otm o (by simp [ho, Op.operands]) ha))⟩
    have hc := VR.bool_iff.1 (hv hg G w _ (ev_vr hs c (otm o (by simp [ho, Op.operands]) ha)))
    simp [execOp, ho, hc, asBool]
  · exact hK.elim

theorem kEq_eq {a b : IntKind} (h : kEq a b = true) : a = b := by
  unfold kEq at h
  split at h <;> first | rfl | cases h
theorem binK_out (hT : TabOk P T) {op : BinOp} {t : TypeId} {x y : Operand} {a b : V} {K : V → Prop} (h : binK (T t).k op a b K) :
    ∃ v, K v ∧ ∀ (G : Gh) (w : World) ua ub, vr G w a ua → vr G w b ub → ∃ u, (do eqGuard op t x y ua ub; binOp op t ua ub : Sem Value).run P w = .ok u w ∧ vr G w v u := by
  unfold binK at h
  split at h
  · rename_i k p k' q
    have key : ∀ v, K v → (∀ w : World, ∃ u, (binOp op t (.int k p) (.int k' q)).run P w = .ok u w ∧ ∀ G, vr G w v u) →
        ∃ v, K v ∧ ∀ (G : Gh) (w : World) ua ub, vr G w (.int k p) ua → vr G w (.int k' q) ub → ∃ u, (do eqGuard op t x y ua ub; binOp op t ua ub : Sem Value).run P w = .ok u w ∧ vr G w v u := by
      intro v hK hv
      refine ⟨v, hK, fun G w ua ub ha hb => ?_⟩
      rw [VR.int_iff.1 ha, VR.int_iff.1 hb]
      obtain ⟨u, hu, hv⟩ := hv w
      refine ⟨u, ?_, hv G⟩
      have he : (eqGuard op t x y (.int k p) (.int k' q)).run P w = .ok () w := by
        unfold eqGuard
        cases op <;> simp
      simp only [Sem.run_bind, he, Result.andThen_ok, hu]
    split at h
    · exact key _ h.2 fun w => ⟨_, by simp [binOp, Op.shift, show ¬ q < 0 by omega], fun _ => .int _ _⟩
    · exact key _ h.2 fun w => ⟨_, by simp [binOp, Op.shift, show ¬ q < 0 by omega], fun _ => .int _ _⟩
    · split at h
      · exact h.elim
      · rename_i hk
        have hk := kEq_eq hk
        subst hk
        split at h <;> first
          | exact h.elim
          | exact key _ h fun w => ⟨_, by simp [binOp, Op.intArith, Op.intCmp]; rfl, fun _ => .int _ _⟩
          | exact key _ h fun w => ⟨_, by simp [binOp, Op.intArith, Op.intCmp], fun _ => .int _ _⟩
          | exact key _ h fun w => ⟨_, by simp [binOp, Op.intBits, bits]; rfl, fun _ => .int _ _⟩
          | exact key _ h fun w => ⟨_, by simp [binOp, Op.intCmp], fun _ => .bool _⟩
          | exact key _ h fun w => ⟨_, by simp [binOp, Op.intCmp]; rfl, fun _ => .bool _⟩
          | exact key _ h.2 fun w => ⟨_, by simp [binOp, Op.intDiv, h.1], fun _ => .int _ _⟩
  · rename_i p q
    split at h
    case h_2 => exact h.elim
    rename_i hkb
    have htk : (T t).k ≠ .other := by rw [hkb]; simp
    have key : ∀ v : Bool, K (.bool v) → (op = .eql ∧ v = (p == q) ∨ op = .neq ∧ v = (p != q)) →
        ∃ v, K v ∧ ∀ (G : Gh) (w : World) ua ub, vr G w (.bool p) ua → vr G w (.bool q) ub → ∃ u, (do eqGuard op t x y ua ub; binOp op t ua ub : Sem Value).run P w = .ok u w ∧ vr G w v u := by
      intro v hK hv
      refine ⟨.bool v, hK, fun G w ua ub ha hb => ⟨.bool v, ?_, .bool v⟩⟩
      rw [VR.bool_iff.1 ha, VR.bool_iff.1 hb]
      have hd := hT.at htk
      obtain ⟨i, z, d, _, _, _, _, _, h6, h7⟩ := hd
      rw [hkb, DescOk] at h7
      subst h7
      have he : ∀ op, (eqGuard op t x y (.bool p) (.bool q)).run P w = .ok () w := by
        intro op
        unfold eqGuard
        cases op <;> simp
      rcases hv with ⟨rfl, rfl⟩ | ⟨rfl, rfl⟩
      · simp only [Sem.run_bind, he, Result.andThen_ok, run_eql_bool w t p q h6]
      · simp only [Sem.run_bind, he, Result.andThen_ok, run_neq_bool w t p q h6, bne]
    split at h
    · exact key _ h (.inl ⟨rfl, rfl⟩)
    · exact key _ h (.inr ⟨rfl, rfl⟩)
    · exact h.elim
  · rename_i p q
    split at h
    · refine ⟨_, h, fun G w ua ub ha hb => ⟨_, ?_, .bool _⟩⟩
      rw [VR.str_iff.1 ha, VR.str_iff.1 hb]
      simp [eqGuard, binOp, Op.stringOp, ByteArray.toList_eq]
    · refine ⟨_, h, fun G w ua ub ha hb => ⟨_, ?_, .bool _⟩⟩
      rw [VR.str_iff.1 ha, VR.str_iff.1 hb]
      simp [eqGuard, binOp, Op.stringOp, ByteArray.toList_eq, bne]
    · exact h.elim
  · exact h.elim

theorem run_eqIn_nil' {P : Program} {w : World} {t e : TypeId} (h6 : P.underlying t = some (.slice e)) {A : Option Addr} {n c n0 c0 d : Nat} : (Op.equalIn (d + 1) t (.slice A n c) (.slice none n0 c0)).run P w = .ok A.isNone w := by
  cases A <;> simp [Op.equalIn, run_underlying h6]
theorem run_eqIn_nil {P : Program} {w : World} {t e : TypeId} (h6 : P.underlying t = some (.slice e)) {A : Option Addr} {n c n0 c0 : Nat} : (Op.equalIn Op.maxDepth t (.slice A n c) (.slice none n0 c0)).run P w = .ok A.isNone w :=
  run_eqIn_nil' (d := 9999) h6
theorem ex_bin (hT : TabOk P T) {op : BinOp} {t t' : TypeId} {x y : Operand} (ho : o.op = .binOp op t x y t') (h : exec T s g o K) : ExOk P s g o K := by
  simp only [exec, ho] at h
  split at h
  · rename_i hy
    split at h
    · rename_i e hk
      obtain ⟨v, h', hv⟩ := argK_out h; clear h; have h := h'; clear h'
      obtain ⟨_, _, d, _, _, _, _, _, h6, h7⟩ := hT.at (t := t) (by rw [hk]; simp)
      rw [hk, DescOk] at h7
      subst h7
      obtain ⟨n0, c0, rfl⟩ : ∃ n0 c0, y = .const (.slice none n0 c0) := by
        unfold nilC at hy
        split at hy
        · split at hy
          · exact ⟨_, _, rfl⟩
          · cases hy
        · cases hy
      have run : ∀ (w : World) (A : Option Addr) (n c : Nat) , (do eqGuard .eql t x (.const (.slice none n0 c0)) (.slice A n c) (.slice none n0 c0); binOp .eql t (.slice A n c) (.slice none n0 c0) : Sem Value).run P w = .ok (.bool A.isNone) w := by
        intro w A n c
        have h9 : (Op.equalIn Op.maxDepth t (.slice A n c) (.slice none n0 c0)).run P w = .ok A.isNone w := run_eqIn_nil h6
        simp only [eqGuard, binOp, Op.equal, Sem.run_bind, h9, Result.andThen_ok, Bool.not_true, Bool.false_eq_true, if_false, Sem.run_pure]
      have fin : ∀ (val : V), K val [] [] s.nx → (∀ (G : Gh) (w : World) (u : Value), vr G w v u → ∃ A n c, u = .slice A n c ∧ (val = .ubool ∨ (val = .bool false ∧ A ≠ none))) → ExOk P s g o K := by
        intro val hK hval
        refine .of_pure (rd := []) hK fun hg G N a w s' hs ha _ => ?_
        obtain ⟨A, n, c, hu, hcase⟩ := hval G w _ (hv hg G w _ (ev_vr hs x (otm o (by simp [ho, Op.operands]) ha)))
        have hr := run w A n c
        simp only [Sem.run_bind] at hr
        refine ⟨.bool A.isNone, by simp only [execOp, ho, Sem.run_bind, hu]; rw [show a.eval (.const (.slice none n0 c0)) = .slice none n0 c0 from rfl, hr]; rfl, ?_⟩
        rcases hcase with rfl | ⟨rfl, hA⟩
        · exact .ubool _
        · cases A with
          | none => exact absurd rfl hA
          | some A => exact .bool _
      unfold nilK at h
      split at h
      · exact fin _ h fun G w u hu => by cases hu; exact ⟨_, _, _, rfl, .inl rfl⟩
      · split at h
        · exact fin _ h fun G w u hu => by cases hu; exact ⟨_, _, _, rfl, .inl rfl⟩
        · refine fin _ h fun G w u hu => ?_
          cases hu with
          | sl _ _ _ A cap us hcap hm hA hrow hc hval =>
            obtain ⟨ad, hA, _⟩ := hA (by simp)
            exact ⟨A, _, _, rfl, .inr ⟨rfl, by simp [hA]⟩⟩
      · split at h
        · refine fin _ h fun G w u hu => ?_
          cases hu <;> exact ⟨_, _, _, rfl, .inl rfl⟩
        · refine fin _ h fun G w u hu => ?_
          cases hu
          exact ⟨_, _, _, rfl, .inr ⟨rfl, by simp⟩⟩
      · exact h.elim
    · exact h.elim
  obtain ⟨a, h, ha'⟩ := argK_out h
  obtain ⟨b, h, hb'⟩ := argK_out h
  obtain ⟨v, hK, hv⟩ := binK_out hT (t := t) (x := x) (y := y) h
  refine .of_pure (rd := []) hK fun hg G N a w s' hs ha _ => ?_
  obtain ⟨u, hu, hv⟩ := hv G w _ _ (ha' hg G w _ (ev_vr hs x (otm o (by simp [ho, Op.operands]) ha))) (hb' hg G w _ (ev_vr hs y (otm o (by simp [ho, Op.operands]) ha)))
  exact ⟨u, by simp only [Sem.run_bind] at hu; simp only [execOp, ho, Sem.run_bind, hu, Result.andThen_ok, Sem.run_pure], hv⟩

theorem ex_not {t : TypeId} {x : Operand} (ho : o.op = .unOp .not t x) (h : exec T s g o K) : ExOk P s g o K := by
  simp only [exec, ho] at h
  obtain ⟨v, h, hv⟩ := argK_out h
  split at h
  · refine .of_pure (rd := []) h fun hg G N a w s' hs ha _ => ⟨_, ?_, .bool _⟩
    have hx := VR.bool_iff.1 (hv hg G w _ (ev_vr hs x (otm o (by simp [ho, Op.operands]) ha)))
    simp [execOp, ho, hx, Op.unary]
  · exact h.elim

theorem list_drop_head {α : Type} {l : List α} {i : Nat} {v : α} {r : List α} (h : l.drop i = v :: r) : l[i]? = some v := by
  have := List.getElem?_drop (xs := l) (i := i) (j := 0)
  rw [h] at this
  simpa using this.symm

theorem ex_extract {x : Operand} {i : Nat} (ho : o.op = .extract x i) (h : exec T s g o K) : ExOk P s g o K := by
  simp only [exec, ho] at h
  obtain ⟨v, h, hv⟩ := argK_out h
  split at h
  · rename_i vs
    obtain ⟨hl, h⟩ := dropK_out h
    split at h
    · rename_i v' r hr
      refine .of_pure (rd := []) h fun hg G N a w s' hs ha _ => ?_
      have hx := hv hg G w _ (ev_vr hs x (otm o (by simp [ho, Op.operands]) ha))
      generalize hux : a.eval x = ux at hx
      cases hx with
      | tup _ us hl' h' =>
        have hi : i < us.length := by
          rw [← hl']
          have := List.getElem?_eq_some_iff.1 (list_drop_head hr)
          exact this.1
        refine ⟨us[i], ?_, h' i v' _ (list_drop_head hr) (List.getElem?_eq_getElem hi)⟩
        simp [execOp, ho, hux, Instr.extract, List.getElem?_eq_getElem hi]
    · exact h.elim
  · exact h.elim

theorem ex_nilCheck {x : Operand} (ho : o.op = .nilCheck x) (h : exec T s g o K) : ExOk P s g o K := by
  simp only [exec, ho] at h
  obtain ⟨v, h, hv⟩ := argK_out h
  split at h
  · refine .of_pure (rd := []) h fun hg G N a w s' hs ha _ => ?_
    have hx := hv hg G w _ (ev_vr hs x (otm o (by simp [ho, Op.operands]) ha))
    refine ⟨_, ?_, hx⟩
    cases hx' : a.eval x <;> rw [hx'] at hx <;> cases hx
    simp [execOp, ho, hx']
  · refine .of_pure (rd := []) h fun hg G N a w s' hs ha _ => ?_
    have hx := hv hg G w _ (ev_vr hs x (otm o (by simp [ho, Op.operands]) ha))
    refine ⟨_, ?_, hx⟩
    cases hx' : a.eval x <;> rw [hx'] at hx <;> cases hx
    simp [execOp, ho, hx']
  · refine .of_pure (rd := []) h fun hg G N a w s' hs ha _ => ?_
    have hx := hv hg G w _ (ev_vr hs x (otm o (by simp [ho, Op.operands]) ha))
    refine ⟨_, ?_, hx⟩
    cases hx' : a.eval x <;> rw [hx'] at hx <;> cases hx
    simp [execOp, ho, hx']
  · exact h.elim


/-- Cells that lie in a row in memory, and what they read as. -/
def Reads (G : Gh) (w : World) (ad : Addr) (vs : List V) : Prop :=
  ad.spot = none ∧ ∃ us : Nat → Value, ∀ (j : Nat) (v : V), vs[j]? = some v → w.cell? ⟨ad.block, ad.off + j, none⟩ = some (us j) ∧ vr G w v (us j)
theorem Reads.drop {G : Gh} {w : World} {ad : Addr} {vs : List V} (h : Reads G w ad vs) (n : Nat) : Reads G w ⟨ad.block, ad.off + n, none⟩ (vs.drop n) := by
  obtain ⟨_, us, h⟩ := h
  refine ⟨rfl, fun j => us (n + j), fun j v hv => ?_⟩
  rw [List.getElem?_drop] at hv
  have := h _ _ hv
  simpa [Nat.add_assoc] using this
theorem addr_eta {ad : Addr} (h : ad.spot = none) : ad = ⟨ad.block, ad.off, none⟩ := by cases ad; simp_all
theorem add_none {ad : Addr} (h : ad.spot = none) (n : Nat) : ad.add n = ⟨ad.block, ad.off + n, none⟩ := by
  unfold Addr.add
  split
  · rename_i hn; subst hn; cases ad; simp_all
  · rfl

theorem partK_out (hT : TabOk P T) {t : Nat} {cs : List V} {K : V → Prop} (h : partK (T t) cs K) :
    ∃ v, K v ∧ ∀ (G : Gh) (w : World) (ad : Addr), Reads G w ad cs → ∃ u, (loadVar t ad).run P w = .ok u w ∧ vr G w v u := by
  unfold partK at h
  obtain ⟨h, ht⟩ := szK_out h
  split at h
  · rename_i hk
    obtain ⟨hl, h⟩ := takeK_out h
    refine ⟨_, h, fun G w ad ⟨hs, us, hu⟩ => ⟨.agg ((List.range (T t).size).map us).toArray, ?_, ?_⟩⟩
    · simp only [loadVar, Sem.run_bind, hT.isAgg ht, Result.andThen_ok, hk, if_true, hT.sizeOf ht]
      rw [run_loadCells w ad (T t).size us (fun j hj => by
        have hj' : j < cs.length := by omega
        rw [add_none hs]
        exact (hu j _ (List.getElem?_eq_getElem hj')).1)]
      rfl
    · refine .agg _ _ (by simp; omega) fun j v u hv hu' => ?_
      have hj : j < (T t).size := by
        rcases Nat.lt_or_ge j (T t).size with h | h
        · exact h
        · rw [List.getElem?_eq_none (by simp; omega)] at hv; cases hv
      rw [List.getElem?_take_of_lt hj] at hv
      have := (hu j v hv).2
      simp [hj] at hu'
      subst hu'
      exact this
  · rename_i hk
    cases cs with
    | nil => exact h.elim
    | cons v r =>
      refine ⟨v, h, fun G w ad ⟨hs, us, hu⟩ => ⟨us 0, ?_, (hu 0 v rfl).2⟩⟩
      have := (hu 0 v rfl).1
      rw [Nat.add_zero, ← addr_eta hs] at this
      simp [loadVar, hT.isAgg ht, hk, this]

theorem reads_iptr {G : Gh} {w : World} {fr : Bool} {cs : List V} {u : Value} (h : vr G w (.iptr fr cs) u) : ∃ ad, u = .pointer (some ad) ∧ Reads G w ad cs := by
  cases h with
  | iptr _ _ ad us hs hc hv => exact ⟨ad, rfl, hs, us, fun j v hj => ⟨(hc j v hj).1, hv j v hj⟩⟩
theorem Holds.reads {G : Gh} {w : World} {b : Nat} {fr ex : Bool} {ty : TypeId} {vs : List V} (h : Holds G w b fr ex ty vs) {c : Nat} (hc : G.ι b = some c) : Reads G w ⟨c, 0, none⟩ vs := by
  obtain ⟨c', cs, h1, h2, h3, _, _, h6⟩ := h
  rw [hc] at h1; cases h1
  refine ⟨rfl, fun j => cs.getD j undef, fun j v hv => ?_⟩
  obtain ⟨u, hu, _, hr⟩ := h6 j v hv
  have : cs.getD j undef = u := by simp [Array.getD_eq_getD_getElem?, hu]
  simp only [this]
  exact ⟨by simp [World.cell?, h2, hu], hr⟩
theorem flatten_row {rows : List (List V)} {sz row : Nat} {r : List V} (hs : ∀ x, x ∈ rows → x.length = sz) (hr : rows[row]? = some r) :
    ∀ (j : Nat) (v : V), r[j]? = some v → rows.flatten[row * sz + j]? = some v := by
  induction rows generalizing row with
  | nil => simp at hr
  | cons x rows ih =>
    intro j v hv
    have hx : x.length = sz := hs x (by simp)
    cases row with
    | zero =>
      simp at hr
      subst hr
      have hj := (List.getElem?_eq_some_iff.1 hv).1
      rw [List.flatten_cons, Nat.zero_mul, Nat.zero_add, List.getElem?_append_left hj]
      exact hv
    | succ row =>
      rw [List.flatten_cons, List.getElem?_append_right (by rw [hx, Nat.succ_mul]; omega)]
      have := ih (fun y hy => hs y (by simp [hy])) (by simpa using hr) j v hv
      rw [hx, show (row + 1) * sz + j - sz = row * sz + j by rw [Nat.succ_mul]; omega]
      exact this
theorem Reads.sub {G : Gh} {w : World} {c o : Nat} {vs : List V} (h : Reads G w ⟨c, 0, none⟩ vs) {ws : List V} (hw : ∀ (j : Nat) (v : V), ws[j]? = some v → vs[o + j]? = some v) : Reads G w ⟨c, o, none⟩ ws := by
  obtain ⟨_, us, hu⟩ := h
  exact ⟨rfl, fun j => us (o + j), fun j v hv => by simpa using hu _ _ (hw j v hv)⟩

theorem ex_load (hT : TabOk P T) {t : TypeId} {x : Operand} (ho : o.op = .load t x) (h : exec T s g o K) : ExOk P s g o K := by
  simp only [exec, ho] at h
  obtain ⟨v, h, hv⟩ := argK_out h
  split at h
  · obtain ⟨val, hK, hp⟩ := partK_out hT h
    refine .of_pure (rd := []) hK fun hg G N a w s' hs ha _ => ?_
    obtain ⟨ad, hx, hr⟩ := reads_iptr (hv hg G w _ (ev_vr hs x (otm o (by simp [ho, Op.operands]) ha)))
    obtain ⟨u, hu, hvr⟩ := hp G w ad hr
    exact ⟨u, by simp [execOp, ho, hx, Instr.loadAt, Instr.sureAddr, hu], hvr⟩
  · rename_i b c
    split at h
    · rename_i fr ty cells hb
      obtain ⟨hl, h⟩ := dropK_out h
      obtain ⟨val, hK, hp⟩ := partK_out hT h
      refine .of_pure hK (fun hg G N a w s' hs ha hrd => ?_) (.cons (.inl hb) (.nil _))
      have hx := hv hg G w _ (ev_vr hs x (otm o (by simp [ho, Op.operands]) ha))
      generalize hux : a.eval x = ux at hx
      cases hx with
      | ptr _ _ c' hc =>
        have hown : Holds G w b fr true ty cells := hs.hr.own b (.var fr ty cells) (hrd b _ (by simp))
        obtain ⟨u, hu, hvr⟩ := hp G w ⟨c', c, none⟩ (by simpa using (hown.reads hc).drop c)
        exact ⟨u, by simp [execOp, ho, hux, Instr.loadAt, Instr.sureAddr, hu], hvr⟩
    · exact h.elim
  · rename_i b sz row c
    split at h
    · rename_i fr ex ty sz' rows hb
      obtain ⟨rfl, r, hr, h⟩ := h
      obtain ⟨hl, h⟩ := dropK_out h
      obtain ⟨val, hK, hp⟩ := partK_out hT h
      refine .of_pure hK (fun hg G N a w s' hs ha hrd => ?_) (.cons (.inl hb) (.nil _))
      have hx := hv hg G w _ (ev_vr hs x (otm o (by simp [ho, Op.operands]) ha))
      generalize hux : a.eval x = ux at hx
      cases hx with
      | eptr _ _ _ _ c' hc =>
        obtain ⟨hsz, hown⟩ := hs.hr.own b (.arr fr ex ty sz' rows) (hrd b _ (by simp))
        rcases hown with ⟨hn, _⟩ | hown
        · rw [hn] at hc; cases hc
        obtain ⟨u, hu, hvr⟩ := hp G w ⟨c', row * sz' + c, none⟩ ((hown.reads hc).sub (o := row * sz' + c) fun j v hj => by
          rw [List.getElem?_drop] at hj
          have := flatten_row hsz hr _ _ hj
          rwa [← Nat.add_assoc] at this)
        exact ⟨u, by simp [execOp, ho, hux, Instr.loadAt, Instr.sureAddr, hu], hvr⟩
    · exact h.elim
  · exact h.elim
end Go.Proofs.Ytcfkendgjinmiaa
