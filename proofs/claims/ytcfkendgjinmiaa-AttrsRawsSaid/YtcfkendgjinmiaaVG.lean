/- Stores, literals, makes, appends. -/
import Derived.Test.YtcfkendgjinmiaaVF
set_option linter.unusedVariables false
set_option linter.unusedSimpArgs false
namespace Go.Proofs.Ytcfkendgjinmiaa
open Go.RowKit

variable {P : Program} {T : Tab} {s : St} {g : Option Bool} {o : Oper} {K : OK}

theorem splice_get {α : Type} (l m : List α) (o : Nat) (h : o + m.length ≤ l.length) (j : Nat) :
    (l.take o ++ m ++ l.drop (o + m.length))[j]? = if j < o then l[j]? else if j < o + m.length then m[j - o]? else l[j]? := by
  have ho : (l.take o).length = o := by simp; omega
  by_cases h1 : j < o
  · rw [if_pos h1, List.append_assoc, List.getElem?_append_left (by omega), List.getElem?_take_of_lt h1]
  · rw [if_neg h1, List.append_assoc, List.getElem?_append_right (by omega), ho]
    by_cases h2 : j < o + m.length
    · rw [if_pos h2, List.getElem?_append_left (by omega)]
    · rw [if_neg h2, List.getElem?_append_right (by omega), List.getElem?_drop]
      congr 1
      omega

theorem Holds.splice {G : Gh} {w : World} {b : Nat} {fr ex : Bool} {ty : TypeId} {F : List V} {c : Nat} {cs : Array Value} (h : Holds G w b fr ex ty F) (hc : G.ι b = some c) (hh : w.heap[c]? = some (.cells cs ty (0, 0)))
    (ha : ¬ G.amb c) {o : Nat} {news : List V} {us : List Value} (hn : vrs G w news us) (hn1 : ∀ u ∈ us, u.oneCell' = true) (ho : o + news.length ≤ F.length) :
    Holds G (w.setRow c (cs.toList.take o ++ us ++ cs.toList.drop (o + us.length)).toArray) b fr ex ty (F.take o ++ news ++ F.drop (o + news.length)) := by
  obtain ⟨c', cs', h1, h2, h3, h4, h5, h6⟩ := h
  rw [hc] at h1; cases h1
  rw [hh] at h2; cases h2
  have hl : us.length = news.length := hn.1.symm
  have hsz : (cs.toList.take o ++ us ++ cs.toList.drop (o + us.length)).toArray.size = cs.size := by simp; omega
  have he : EvoA G w G (w.setRow c (cs.toList.take o ++ us ++ cs.toList.drop (o + us.length)).toArray) := EvoA.setRow hh hsz ha hc
  have hF : (F.take o ++ news ++ F.drop (o + news.length)).length = F.length := by simp; omega
  refine ⟨c, _, hc, setRow_heap _ _ _ _ _ _ hh, by rw [hF, hsz]; exact h3, fun hex => by rw [hF, hsz]; exact h4 hex, h5, fun j v hv => ?_⟩
  rw [splice_get _ _ _ ho] at hv
  have hget : ∀ j, (cs.toList.take o ++ us ++ cs.toList.drop (o + us.length)).toArray[j]? = if j < o then cs[j]? else if j < o + us.length then us[j - o]? else cs[j]? := by
    intro j
    rw [List.getElem?_toArray, splice_get _ _ _ (by simp; omega)]
    simp
  rw [hget]
  split at hv
  · rename_i hj
    rw [if_pos hj]
    obtain ⟨u, hu, hone, hr⟩ := h6 j v hv
    exact ⟨u, hu, hone, he.vr hr⟩
  · rename_i hj
    rw [if_neg hj]
    split at hv
    · rename_i hj2
      rw [if_pos (by omega)]
      have hlt : j - o < us.length := by omega
      exact ⟨us[j - o], List.getElem?_eq_getElem hlt, hn1 _ (List.getElem_mem hlt), he.vr (hn.2 _ v _ hv (List.getElem?_eq_getElem hlt))⟩
    · rename_i hj2
      rw [if_neg (by omega)]
      obtain ⟨u, hu, hone, hr⟩ := h6 j v hv
      exact ⟨u, hu, hone, he.vr hr⟩

theorem storeAt_run (hT : TabOk P T) {t : TypeId} (ht : (T t).k ≠ .other) {w : World} {c o : Nat} {cs : Array Value} {ty : TypeId} {u : Value} (hh : w.heap[c]? = some (.cells cs ty (0, 0))) (hn : u.cells.toList.length = (T t).size)
    (ho : o + u.cells.toList.length ≤ cs.size) (h1 : ∀ x ∈ u.cells.toList, x.oneCell' = true) :
    (Instr.storeAt t (.pointer (some ⟨c, o, none⟩)) u).run P w = .ok () (w.setRow c (cs.toList.take o ++ u.cells.toList ++ cs.toList.drop (o + u.cells.toList.length)).toArray) := by
  have hst := run_storeCells_at P c o ty u.cells.toList 0 cs w hh (by omega) h1
  have hn' : u.cells.size = (T t).size := by simpa using hn
  simp only [Instr.storeAt, Instr.sureAddr, storeVar, Sem.run_bind, Sem.run_pure, Result.andThen_ok, hT.sizeOf ht, hn', ne_eq, not_true_eq_false, if_false]
  simpa using hst

theorem flatten_set {rows : List (List V)} {sz row : Nat} {r r' : List V} (hs : ∀ x, x ∈ rows → x.length = sz) (hr : rows[row]? = some r) (hl : r'.length = sz) :
    (rows.set row r').flatten = rows.flatten.take (row * sz) ++ r' ++ rows.flatten.drop (row * sz + sz) := by
  induction rows generalizing row with
  | nil => simp at hr
  | cons x rows ih =>
    have hx : x.length = sz := hs x (by simp)
    cases row with
    | zero =>
      rw [List.set_cons_zero, List.flatten_cons, List.flatten_cons, Nat.zero_mul, Nat.zero_add, List.take_zero, List.nil_append, ← hx, List.drop_left]
    | succ row =>
      have hd : ∀ n, (x ++ rows.flatten).drop (x.length + n) = rows.flatten.drop n := by intro n; rw [List.drop_append]; simp
      rw [List.set_cons_succ, List.flatten_cons, ih (fun y hy => hs y (by simp [hy])) (by simpa using hr), List.flatten_cons, Nat.succ_mul,
        show row * sz + sz = x.length + row * sz by omega, List.take_length_add_append, show x.length + row * sz + sz = x.length + (row * sz + sz) by omega, hd]
      simp [List.append_assoc, Nat.add_comm, hx]

theorem ex_store (hT : TabOk P T) {t : TypeId} {x y : Operand} (ho : o.op = .store t x y) (h : exec T s g o K) : ExOk P s g o K := by
  simp only [exec, ho] at h
  split at h
  · exact h.elim
  obtain ⟨h', ht⟩ := szK_out h; clear h; have h := h'; clear h'
  obtain ⟨new, h', hl, h1, hv⟩ := cellsK_out h; clear h; have h := h'; clear h'
  split at h
  · rename_i b c hx
    split at h
    · rename_i fr ty cells hb
      obtain ⟨hle, h'⟩ := putK_out h; clear h; have h := h'; clear h'
      refine ⟨_, _, _, _, h, .cons (.inl hb) (.nil _), fun _ => ⟨Nat.le_refl _, fun G N a w s' hs ha hr hn => ?_⟩, fun hg => absurd rfl hg⟩
      have hvx := ev_vr hs x (otm o (by simp [ho, Op.operands]) ha)
      have hvy := hv G w _ (ev_vr hs y (otm o (by simp [ho, Op.operands]) ha))
      rw [hx] at hvx
      generalize hux : a.eval x = ux at hvx
      cases hvx with
      | ptr _ _ c' hc =>
        have hb' : hget s'.h b = some (.var fr ty cells) := hr b _ (by simp)
        have hown : Holds G w b fr true ty cells := hs.hr.own b (.var fr ty cells) hb'
        obtain ⟨c2, cs, e1, hh, hlen, hex, _⟩ := id hown
        rw [hc] at e1; cases e1
        have hap := hs.hr.apart b _ c' hb' hc
        have hul : (a.eval y).cells.toList.length = new.length := hvy.1.symm
        have run := storeAt_run hT ht (w := w) (c := c') (o := c) (u := a.eval y) hh (by omega) (by have := hex rfl; omega) (hvy.one h1)
        have hok := hown.splice hc hh hap (o := c) hvy (hvy.one h1) (by omega)
        have hsz : (cs.toList.take c ++ (a.eval y).cells.toList ++ cs.toList.drop (c + (a.eval y).cells.toList.length)).toArray.size = cs.size := by
          have := hex rfl
          simp only [List.size_toArray, List.length_append, List.length_take, List.length_drop, Array.length_toList] at *
          omega
        refine ⟨undef, _, G, .inr ⟨by simp only [execOp, ho, hux, Sem.run_bind, run, Result.andThen_ok, Sem.run_pure], rfl⟩, .any _, ?_, fun _ _ => rfl, EvoA.setRow hh hsz hap hc⟩
        have := HR.setRow hs.hr hb' hc hh hsz (.var fr ty (cells.take c ++ new ++ cells.drop (c + new.length))) hok
        exact ⟨this.amb_lt, this.B_le, fun b hb => this.dom b (by omega), this.own, this.inj, this.apart, this.lt, fun b blk hb => by have := this.hdom b blk hb; omega⟩
    · exact h.elim
  · rename_i b sz row c hx
    split at h
    · rename_i fr ex ty sz' rows hb
      obtain ⟨rfl, r, hrow, h⟩ := h
      obtain ⟨hle, h'⟩ := putK_out h; clear h; have h := h'; clear h'
      refine ⟨_, _, _, _, h, .cons (.inl hb) (.nil _), fun _ => ⟨Nat.le_refl _, fun G N a w s' hs ha hr hn => ?_⟩, fun hg => absurd rfl hg⟩
      have hvx := ev_vr hs x (otm o (by simp [ho, Op.operands]) ha)
      have hvy := hv G w _ (ev_vr hs y (otm o (by simp [ho, Op.operands]) ha))
      rw [hx] at hvx
      generalize hux : a.eval x = ux at hvx
      cases hvx with
      | eptr _ _ _ _ c' hc =>
        have hb' : hget s'.h b = some (.arr fr ex ty sz' rows) := hr b _ (by simp)
        obtain ⟨hsz', hown⟩ := hs.hr.own b (.arr fr ex ty sz' rows) hb'
        rcases hown with ⟨hn', _⟩ | hown
        · rw [hn'] at hc; cases hc
        obtain ⟨c2, cs, e1, hh, hlen, hex, _⟩ := id hown
        rw [hc] at e1; cases e1
        have hap := hs.hr.apart b _ c' hb' hc
        have hul : (a.eval y).cells.toList.length = new.length := hvy.1.symm
        have hrl : r.length = sz' := hsz' r (List.mem_of_getElem? hrow)
        have hrlt : row < rows.length := (List.getElem?_eq_some_iff.1 hrow).1
        have hfl := flatten_cells hsz'
        have hmul : (row + 1) * sz' ≤ rows.length * sz' := Nat.mul_le_mul_right _ hrlt
        rw [Nat.succ_mul] at hmul
        have run := storeAt_run hT ht (w := w) (c := c') (o := row * sz' + c) (u := a.eval y) hh (by omega) (by omega) (hvy.one h1)
        have hok := hown.splice hc hh hap (o := row * sz' + c) hvy (hvy.one h1) (by omega)
        have hsz : (cs.toList.take (row * sz' + c) ++ (a.eval y).cells.toList ++ cs.toList.drop (row * sz' + c + (a.eval y).cells.toList.length)).toArray.size = cs.size := by
          simp only [List.size_toArray, List.length_append, List.length_take, List.length_drop, Array.length_toList] at *
          omega
        have heq : (rows.set row (r.take c ++ new ++ r.drop (c + new.length))).flatten = rows.flatten.take (row * sz' + c) ++ new ++ rows.flatten.drop (row * sz' + c + new.length) := by
          rw [flatten_set hsz' hrow (by simp; omega)]
          apply List.ext_getElem?
          intro j
          have e1 := splice_get rows.flatten new (row * sz' + c) (by omega) j
          rw [e1]
          have hL : (r.take c ++ new ++ r.drop (c + new.length)).length = sz' := by simp; omega
          have e2 := splice_get rows.flatten (r.take c ++ new ++ r.drop (c + new.length)) (row * sz') (by omega) j
          rw [hL] at e2
          rw [e2]
          have e3 := splice_get r new c (by omega) (j - row * sz')
          rw [e3]
          by_cases q1 : j < row * sz'
          · rw [if_pos q1, if_pos (show j < row * sz' + c by omega)]
          · rw [if_neg q1]
            have hfr : ∀ k, k < sz' → rows.flatten[row * sz' + k]? = r[k]? := by
              intro k hk
              rw [flatten_row hsz' hrow k r[k] (List.getElem?_eq_getElem (by omega)), List.getElem?_eq_getElem (by omega)]
            by_cases q2 : j < row * sz' + sz'
            · rw [if_pos q2]
              have := hfr (j - row * sz') (by omega)
              rw [show row * sz' + (j - row * sz') = j by omega] at this
              by_cases q3 : j - row * sz' < c
              · rw [if_pos q3, if_pos (show j < row * sz' + c by omega), this]
              · rw [if_neg q3, if_neg (show ¬ j < row * sz' + c by omega)]
                by_cases q4 : j - row * sz' < c + new.length
                · rw [if_pos q4, if_pos (show j < row * sz' + c + new.length by omega)]; congr 1; omega
                · rw [if_neg q4, if_neg (show ¬ j < row * sz' + c + new.length by omega), this]
            · rw [if_neg q2, if_neg (show ¬ j < row * sz' + c by omega), if_neg (show ¬ j < row * sz' + c + new.length by omega)]
        refine ⟨undef, _, G, .inr ⟨by simp only [execOp, ho, hux, Sem.run_bind, run, Result.andThen_ok, Sem.run_pure], rfl⟩, .any _, ?_, fun _ _ => rfl, EvoA.setRow hh hsz hap hc⟩
        have := HR.setRow hs.hr hb' hc hh hsz (.arr fr ex ty sz' (rows.set row (r.take c ++ new ++ r.drop (c + new.length)))) ⟨fun x hx => by
            rcases List.mem_or_eq_of_mem_set hx with hx | rfl
            · exact hsz' x hx
            · simp; omega, .inr (by rw [heq]; exact hok)⟩
        exact ⟨this.amb_lt, this.B_le, fun b hb => this.dom b (by omega), this.own, this.inj, this.apart, this.lt, fun b blk hb => by have := this.hdom b blk hb; omega⟩
    · exact h.elim
  · exact h.elim
end Go.Proofs.Ytcfkendgjinmiaa
