/- Operations that write nothing, II. -/
import Derived.Test.YtcfkendgjinmiaaVD
import Derived.Laws.Slices
import Derived.Laws.Strings2
set_option linter.unusedVariables false
set_option linter.unusedSimpArgs false
namespace Go.Proofs.Ytcfkendgjinmiaa
open Go.RowKit

variable {P : Program} {T : Tab} {s : St} {g : Option Bool} {o : Oper} {K : OK}

theorem nth_getElem? {α : Type} (d : α) : ∀ (l : List α) (n : Nat), n < l.length → l[n]? = some (nth d l n)
  | _ :: _, 0, _ => rfl
  | _ :: r, n + 1, h => by simpa [nth] using nth_getElem? d r n (by simpa using h)
  | [], _, h => by simp at h
/-- A field, as the table has it. -/
theorem TabOk.field (hT : TabOk P T) {t : Nat} {fs : List (Nat × Nat)} (hk : (T t).k = .struct fs) {f : Nat} (hf : Nat.blt f fs.length = true) :
    ∃ fields fd, P.underlying t = some (.struct fields) ∧ fields[f]? = some fd ∧ (fd.offset, fd.type) = nth (0, 0) fs f := by
  obtain ⟨i, z, d, _, _, _, _, _, h6, h7⟩ := hT.at (t := t) (by rw [hk]; simp)
  rw [hk, DescOk] at h7
  obtain ⟨fields, rfl, hfs⟩ := h7
  have hf : f < fs.length := by simpa [Nat.blt_eq] using hf
  have h := nth_getElem? (0, 0) fs f hf
  rw [← hfs, List.getElem?_map] at h
  obtain ⟨fd, h1, h2⟩ := Option.map_eq_some_iff.1 h
  rw [hfs] at h2
  exact ⟨fields, fd, h6, by simpa using h1, h2⟩

theorem ex_fieldAddr (hT : TabOk P T) {t : TypeId} {x : Operand} {f : Nat} (ho : o.op = .fieldAddr t x f) (h : exec T s g o K) : ExOk P s g o K := by
  simp only [exec, ho] at h
  obtain ⟨v, h', hv⟩ := argK_out h; clear h; have h := h'; clear h'
  split at h
  · rename_i fs hk
    obtain ⟨h', ht⟩ := szK_out h; clear h; have h := h'; clear h'
    split at h
    · rename_i hz hl
      obtain ⟨fields, fd, hu, hfd, he⟩ := hT.field hk hl
      have e1 : (nth (0, 0) fs f).1 = fd.offset := by rw [← he]
      have e2 : (nth (0, 0) fs f).2 = fd.type := by rw [← he]
      simp only [e1, e2] at h hz ht
      have hz : (T fd.type).size ≠ 0 := by intro e; simp [e] at hz
      have run : ∀ (w : World) (ad : Addr), (Instr.fieldAt t (.pointer (some ad)) f).run P w = .ok (.pointer (some (ad.add fd.offset))) w := by
        intro w ad
        simp [Instr.fieldAt, run_underlying hu, hfd, Instr.sureAddr, fieldPlace, hT.sizeOf ht, hz]
      split at h
      · refine .of_pure (rd := []) h fun hg G N a w s' hs ha _ => ?_
        have hx := hv hg G w _ (ev_vr hs x (otm o (by simp [ho, Op.operands]) ha))
        generalize hux : a.eval x = ux at hx
        cases hx with
        | ptr b c c' hc => exact ⟨_, by simp only [execOp, ho, hux, Sem.run_bind, run, Result.andThen_ok, Sem.run_pure, add_none], .ptr _ _ _ hc⟩
      · refine .of_pure (rd := []) h fun hg G N a w s' hs ha _ => ?_
        have hx := hv hg G w _ (ev_vr hs x (otm o (by simp [ho, Op.operands]) ha))
        generalize hux : a.eval x = ux at hx
        cases hx with
        | eptr b sz r c c' hc => exact ⟨_, by simp only [execOp, ho, hux, Sem.run_bind, run, Result.andThen_ok, Sem.run_pure, add_none, Nat.add_assoc], .eptr _ _ _ _ _ hc⟩
      · obtain ⟨_, h⟩ := dropK_out h
        refine .of_pure (rd := []) h fun hg G N a w s' hs ha _ => ?_
        have hx := hv hg G w _ (ev_vr hs x (otm o (by simp [ho, Op.operands]) ha))
        generalize hux : a.eval x = ux at hx
        cases hx with
        | iptr fr cs ad us hs' hc hv' =>
          refine ⟨.pointer (some ⟨ad.block, ad.off + fd.offset, none⟩), by simp only [execOp, ho, hux, Sem.run_bind, run, Result.andThen_ok, Sem.run_pure, add_none hs'], .iptr _ _ _ (fun j => us (fd.offset + j)) rfl (fun j v hj => ?_) fun j v hj => ?_⟩
          · rw [List.getElem?_drop] at hj
            have := hc _ _ hj
            simpa [Nat.add_assoc] using this
          · rw [List.getElem?_drop] at hj
            exact hv' _ _ hj
      · exact h.elim
    · exact h.elim
  · exact h.elim

theorem ex_field (hT : TabOk P T) {t : TypeId} {x : Operand} {f : Nat} (ho : o.op = .field t x f) (h : exec T s g o K) : ExOk P s g o K := by
  simp only [exec, ho] at h
  obtain ⟨v, h', hv⟩ := argK_out h; clear h; have h := h'; clear h'
  split at h
  · rename_i fs cs hk
    split at h
    · rename_i hl
      obtain ⟨hlen, h'⟩ := dropK_out h; clear h; have h := h'; clear h'
      obtain ⟨fields, fd, hu, hfd, he⟩ := hT.field hk hl
      have e1 : (nth (0, 0) fs f).1 = fd.offset := by rw [← he]
      have e2 : (nth (0, 0) fs f).2 = fd.type := by rw [← he]
      simp only [e1, e2] at h hlen
      unfold partK at h
      obtain ⟨h', ht⟩ := szK_out h; clear h; have h := h'; clear h'
      split at h
      · rename_i hag
        obtain ⟨hl2, h'⟩ := takeK_out h; clear h; have h := h'; clear h'
        refine .of_pure (rd := []) h fun hg G N a w s' hs ha _ => ?_
        have hx := hv hg G w _ (ev_vr hs x (otm o (by simp [ho, Op.operands]) ha))
        generalize hux : a.eval x = ux at hx
        cases hx with
        | agg _ us hl' h' =>
          refine ⟨.agg ((us.drop fd.offset).take (T fd.type).size).toArray, ?_, .agg _ _ (by simp; omega) fun j v u hv' hu' => ?_⟩
          · simp only [execOp, ho, hux, Instr.field, Sem.run_bind, run_underlying hu, Result.andThen_ok, hfd, asAgg, Sem.run_pure, part, hT.isAgg ht, hag, if_true, hT.sizeOf ht]
            congr 3
            apply Array.ext'
            simp [Array.toList_extract, List.extract_eq_take_drop, Nat.add_sub_cancel_left, List.take_drop]
          · have hj : j < (T fd.type).size := by
              rcases Nat.lt_or_ge j (T fd.type).size with h | h
              · exact h
              · rw [List.getElem?_eq_none (by simp; omega)] at hv'; cases hv'
            rw [List.getElem?_take_of_lt hj, List.getElem?_drop] at hv' hu'
            exact h' _ _ _ hv' hu'
      · rename_i hag
        split at h
        · rename_i v' r hd
          refine .of_pure (rd := []) h fun hg G N a w s' hs ha _ => ?_
          have hx := hv hg G w _ (ev_vr hs x (otm o (by simp [ho, Op.operands]) ha))
          generalize hux : a.eval x = ux at hx
          cases hx with
          | agg _ us hl' h' =>
            have hi := list_drop_head hd
            have hlt : fd.offset < us.length := by rw [← hl']; exact (List.getElem?_eq_some_iff.1 hi).1
            refine ⟨us[fd.offset], ?_, h' _ _ _ hi (List.getElem?_eq_getElem hlt)⟩
            simp [execOp, ho, hux, Instr.field, run_underlying hu, hfd, asAgg, part, hT.isAgg ht, hag, List.getElem?_eq_getElem hlt]
        · exact h.elim
    · exact h.elim
  · exact h.elim

theorem gd_out {g : Option Bool} {p : Prop} (h : gd g p) (hg : g = none ∨ g = some true) : p := by
  rcases hg with rfl | rfl
  · exact h
  · exact h rfl

theorem flatten_cells {xs : List (List V)} {sz : Nat} (hs : ∀ x, x ∈ xs → x.length = sz) : xs.flatten.length = xs.length * sz := by
  induction xs with
  | nil => simp
  | cons x xs ih =>
    rw [List.flatten_cons, List.length_append, ih (fun y hy => hs y (by simp [hy])), hs x (by simp), List.length_cons, Nat.succ_mul, Nat.add_comm]

theorem ex_indexAddr (hT : TabOk P T) {t : TypeId} {x i : Operand} (ho : o.op = .indexAddr t x i) (h : exec T s g o K) : ExOk P s g o K := by
  simp only [exec, ho] at h
  obtain ⟨v, h', hv⟩ := argK_out h; clear h; have h := h'; clear h'
  obtain ⟨iv, h', hiv⟩ := argK_out h; clear h; have h := h'; clear h'
  split at h
  · rename_i e fr sz xs k n hk
    obtain ⟨h, ht⟩ := szK_out h
    obtain ⟨rfl, c, hgd, h⟩ := h
    obtain ⟨_, _, d, _, _, _, _, _, h6, h7⟩ := hT.at (t := t) (by rw [hk]; simp)
    rw [hk, DescOk] at h7
    subst h7
    refine .of_pure (rd := []) h fun hg G N a w s' hs ha _ => ?_
    obtain ⟨h0, hc⟩ := gd_out hgd hg
    have hx := hv hg G w _ (ev_vr hs x (otm o (by simp [ho, Op.operands]) ha))
    have hi := VR.int_iff.1 (hiv hg G w _ (ev_vr hs i (otm o (by simp [ho, Op.operands]) ha)))
    generalize hux : a.eval x = ux at hx
    have hlt : n.toNat < xs.length := (List.getElem?_eq_some_iff.1 hc).1
    cases hx with
    | sl _ _ _ A cap us hcap hm hA hrow hcell hval =>
      obtain ⟨ad, rfl, hsp⟩ := hA (by intro e; subst e; simp at hlt)
      refine ⟨.pointer (some (ad.add (n.toNat * (T e).size))), ?_, ?_⟩
      · simp only [execOp, ho, hux, hi, Instr.indexAt, asIntOf, Sem.run_bind, Sem.run_pure, Result.andThen_ok, run_underlying h6]
        rw [if_pos ⟨h0, by omega⟩]
        simp [hT.sizeOf ht]
      · rw [add_none hsp]
        refine .iptr _ _ _ (fun j => us (n.toNat * (T e).size + j)) rfl (fun j v hj => ?_) fun j v hj => ?_
        · have := hcell _ _ (flatten_row hrow hc j v hj) ad rfl
          simpa [Nat.add_assoc] using this
        · exact hval _ _ (flatten_row hrow hc j v hj)
  · rename_i e b sz row m k n hk
    obtain ⟨h, ht⟩ := szK_out h
    obtain ⟨rfl, hgd, h⟩ := h
    obtain ⟨_, _, d, _, _, _, _, _, h6, h7⟩ := hT.at (t := t) (by rw [hk]; simp)
    rw [hk, DescOk] at h7
    subst h7
    refine .of_pure (rd := []) h fun hg G N a w s' hs ha _ => ?_
    obtain ⟨h0, hlt⟩ := gd_out hgd hg
    have hx := hv hg G w _ (ev_vr hs x (otm o (by simp [ho, Op.operands]) ha))
    have hi := VR.int_iff.1 (hiv hg G w _ (ev_vr hs i (otm o (by simp [ho, Op.operands]) ha)))
    generalize hux : a.eval x = ux at hx
    cases hx with
    | osl _ _ _ _ c cap m' hc hz he hn hm =>
      refine ⟨.pointer (some ((⟨c, row * (T e).size, none⟩ : Addr).add (n.toNat * (T e).size))), ?_, ?_⟩
      · simp only [execOp, ho, hux, hi, Instr.indexAt, asIntOf, Sem.run_bind, Sem.run_pure, Result.andThen_ok, run_underlying h6]
        rw [if_pos ⟨h0, by omega⟩]
        simp [hT.sizeOf ht]
      · rw [add_none rfl, ← Nat.add_mul]
        exact .eptr _ _ _ _ _ hc
    | oslz => omega
  · exact h.elim

theorem evs_out {s : St} : ∀ {xs : List Operand} {K : List V → Prop}, evs g s xs K → ∃ vs, K vs ∧ vs.length = xs.length ∧ ((g = none ∨ g = some true) → ∀ (G : Gh) (N : Nat) (a : Act) (w : World) (s' : St), Sim G N s' a w →
    (∀ x ∈ xs, ∀ i, x = .tmp i → s'.get i = s.get i) → ∀ (j : Nat) (v : V) (x : Operand), vs[j]? = some v → xs[j]? = some x → vr G w v (a.eval x))
  | [], K, h => ⟨[], h, rfl, fun _ _ _ _ _ _ _ _ j v x hv => by simp at hv⟩
  | x :: r, K, h => by
    obtain ⟨v, h', hv⟩ := argK_out h; clear h; have h := h'; clear h'
    obtain ⟨vs, hK, hl, hvs⟩ := evs_out h
    refine ⟨v :: vs, hK, by simp [hl], fun hg G N a w s' hs ha j v' x' h1 h2 => ?_⟩
    cases j with
    | zero => simp at h1 h2; subst h1; subst h2; exact hv hg G w _ (ev_vr hs x (ha x (by simp)))
    | succ j => exact hvs hg G N a w s' hs (fun y hy => ha y (by simp [hy])) j v' x' (by simpa using h1) (by simpa using h2)

theorem ex_makeFunc {fn : Fn} {first cap : Array Operand} (ho : o.op = .makeFunc fn first cap) (h : exec T s g o K) : ExOk P s g o K := by
  simp only [exec, ho] at h
  obtain ⟨vs, h, hl, hvs⟩ := evs_out h
  obtain ⟨ws, h, hl', hws⟩ := evs_out h
  refine .of_pure (rd := []) h fun hg G N a w s' hs ha _ => ⟨.func fn (first.map a.eval) (cap.map a.eval), by simp [execOp, ho, Instr.makeFunc], ?_⟩
  have e1 : first.map a.eval = (first.toList.map a.eval).toArray := by apply Array.ext'; simp
  have e2 : cap.map a.eval = (cap.toList.map a.eval).toArray := by apply Array.ext'; simp
  rw [e1, e2]
  refine .fn _ _ _ _ _ (by simpa using hl) (by simpa using hl') (fun j v u h1 h2 => ?_) fun j v u h1 h2 => ?_
  · rw [List.getElem?_map] at h2
    obtain ⟨x, hx, rfl⟩ := Option.map_eq_some_iff.1 h2
    exact hvs hg G N a w s' hs (fun y hy => otm o (by rw [ho]; exact Array.mem_append.2 (.inl (Array.mem_toList_iff.1 hy))) ha) j v x h1 hx
  · rw [List.getElem?_map] at h2
    obtain ⟨x, hx, rfl⟩ := Option.map_eq_some_iff.1 h2
    exact hws hg G N a w s' hs (fun y hy => otm o (by rw [ho]; exact Array.mem_append.2 (.inr (Array.mem_toList_iff.1 hy))) ha) j v x h1 hx

theorem ex_makeInterface (hT : TabOk P T) {t : TypeId} {x : Operand} (ho : o.op = .makeInterface t x) (h : exec T s g o K) : ExOk P s g o K := by
  simp only [exec, ho] at h
  obtain ⟨v, h', hv⟩ := argK_out h; clear h; have h := h'; clear h'
  obtain ⟨h, ht⟩ := szK_out h
  obtain ⟨_, _, d, _, _, _, _, _, h6, h7⟩ := hT.at ht
  split at h
  · exact h.elim
  · rename_i hk
    refine .of_pure (rd := []) h fun hg G N a w s' hs ha _ => ⟨_, ?_, .ifc t _ _ (hv hg G w _ (ev_vr hs x (otm o (by simp [ho, Op.operands]) ha)))⟩
    have hd : ∀ ms, d ≠ .interface ms := by
      rintro ms rfl
      generalize (T t).k = k at h7 hk ht
      cases k <;> simp [DescOk] at h7 hk ht
    simp only [execOp, ho, Instr.makeInterface, Sem.run_bind, run_underlying h6, Result.andThen_ok]
    cases d <;> first | (exact absurd rfl (hd _)) | rfl


def Bnd (a : Act) (x : Option Operand) (l : Nat) : Prop := (x = none ∧ l = 0) ∨ ∃ y k i, x = some y ∧ a.eval y = .int k i ∧ 0 ≤ i ∧ i.toNat = l
theorem bndK_out {x : Option Operand} {K : Nat → Prop → Prop} (h : bndK g s x K) : ∃ l p, K l p ∧ (p → (g = none ∨ g = some true) → ∀ (G : Gh) (N : Nat) (a : Act) (w : World) (s' : St), Sim G N s' a w →
    (∀ y, x = some y → ∀ i, y = .tmp i → s'.get i = s.get i) → Bnd a x l) := by
  unfold bndK at h
  split at h
  · exact ⟨0, True, h, fun _ _ _ _ _ _ _ _ _ => .inl ⟨rfl, rfl⟩⟩
  · rename_i y
    obtain ⟨v, h', hv⟩ := argK_out h; clear h; have h := h'; clear h'
    split at h
    · rename_i k i
      exact ⟨_, _, h, fun hp hg G N a w s' hs ha => .inr ⟨y, k, i, rfl, VR.int_iff.1 (hv hg G w _ (ev_vr hs y (ha y rfl))), hp, rfl⟩⟩
    · exact h.elim
theorem run_slice_gen {w : World} {a : Act} {t e : TypeId} (hu : P.underlying t = some (.slice e)) {sz : Nat} (hs : (sizeOf e).run P w = .ok sz w) {lo hi : Option Operand} {l h : Nat} (A : Option Addr) {n cap : Nat}
    (hl : Bnd a lo l) (hh : (hi = none ∧ h = n) ∨ (∃ y k i, hi = some y ∧ a.eval y = .int k i ∧ 0 ≤ i ∧ i.toNat = h)) (h1 : l ≤ h) (h2 : h ≤ cap) :
    (Instr.sliceAt t (.slice A n cap) (lo.map a.eval) (hi.map a.eval) none).run P w = .ok (.slice (if cap = l then A else A.map (·.add (l * sz))) (h - l) (cap - l)) w := by
  have he : P.elem t = e := by simp [Program.elem, hu]
  have hu' : P.underlying t = some (.slice (P.elem t)) := by rw [he]; exact hu
  rw [run_sliceAt_slice w t _ _ _ _ hu']
  rcases hl with ⟨rfl, rfl⟩ | ⟨y, k, i, rfl, hy, h0, rfl⟩ <;> rcases hh with ⟨rfl, rfl⟩ | ⟨y', k', i', rfl, hy', h0', rfl⟩
  · simp [run_slice_all w t A h cap hu', he, hs, sliced]
  · simp [hy', run_slice_h w t A n cap hu' k' i' h0' (by omega), he, hs, sliced]
  · simp [hy, run_slice_l w t A h cap hu' k i h0 (by omega), he, hs, sliced]
  · simp [hy, hy', run_slice_lh w t A n cap hu' k k' i i' h0 (by omega) (by omega), he, hs, sliced]

theorem take_drop_flatten {xs : List (List V)} {sz : Nat} (hs : ∀ x, x ∈ xs → x.length = sz) (l h : Nat) (hh : h ≤ xs.length) {j : Nat} {v : V} (hv : ((xs.take h).drop l).flatten[j]? = some v) : xs.flatten[l * sz + j]? = some v := by
  have h1 : ((xs.take h).take l).flatten.length ≤ l * sz := by
    rw [flatten_cells (fun x hx => hs x (List.mem_of_mem_take (List.mem_of_mem_take hx)))]
    exact Nat.mul_le_mul_right _ (by simp; omega)
  rcases Nat.lt_or_ge l h with hlt | hge
  · have h2 : ((xs.take h).take l).flatten.length = l * sz := by
      rw [flatten_cells (fun x hx => hs x (List.mem_of_mem_take (List.mem_of_mem_take hx)))]
      congr 1
      simp; omega
    have e : xs.flatten = ((xs.take h).take l).flatten ++ ((xs.take h).drop l).flatten ++ (xs.drop h).flatten := by
      rw [← List.flatten_append, List.take_append_drop, ← List.flatten_append, List.take_append_drop]
    have hj := (List.getElem?_eq_some_iff.1 hv).1
    rw [e, List.append_assoc, List.getElem?_append_right (by omega), h2, Nat.add_sub_cancel_left, List.getElem?_append_left hj]
    exact hv
  · rw [List.drop_eq_nil_of_le (by simp; omega)] at hv
    simp at hv

theorem vr_sl_cut {G : Gh} {w : World} {fr : Bool} {sz : Nat} {xs : List (List V)} {A : Option Addr} {n cap l h : Nat} (hx : vr G w (.sl fr sz xs) (.slice A n cap)) (h1 : l ≤ h) (h2 : h ≤ xs.length) :
    vr G w (.sl fr sz ((xs.take h).drop l)) (.slice (if cap = l then A else A.map (·.add (l * sz))) (h - l) (cap - l)) := by
  cases hx with
  | sl _ _ _ _ _ us hcap hm hA hrow hc hv =>
    have hlen : ((xs.take h).drop l).length = h - l := by simp; omega
    have := VR.sl (ι := G.ι) (csz := csz w) (imm := imm G w) fr sz ((xs.take h).drop l) (if cap = l then A else A.map (·.add (l * sz))) (cap - l) (fun j => us (l * sz + j)) (by omega) (by omega) (fun hne => by
        have hlt : l < h := by
          rcases Nat.lt_or_ge l h with h' | h'
          · exact h'
          · exact absurd (List.eq_nil_of_length_eq_zero (by omega)) hne
        obtain ⟨ad, rfl, hsp⟩ := hA (by intro e; subst e; simp at h2; omega)
        rw [if_neg (by omega)]
        exact ⟨_, rfl, by simp only [add_none hsp]⟩) (fun x hx => hrow x (List.mem_of_mem_take (List.mem_of_mem_drop hx))) (fun j v hj ad had => by
        have hj' := take_drop_flatten hrow l h h2 hj
        have hlt : l < h := by
          rcases Nat.lt_or_ge l h with h' | h'
          · exact h'
          · rw [List.drop_eq_nil_of_le (by simp; omega)] at hj; simp at hj
        rw [if_neg (by omega)] at had
        obtain ⟨ad', rfl, hsp⟩ := hA (by intro e; subst e; simp at h2; omega)
        simp only [Option.map_some, Option.some.injEq] at had
        rw [add_none hsp] at had
        subst had
        have := hc _ _ hj' ad' rfl
        simpa [Nat.add_assoc] using this) (fun j v hj => hv _ _ (take_drop_flatten hrow l h h2 hj))
    rwa [hlen] at this

theorem ex_slice (hT : TabOk P T) {t : TypeId} {x : Operand} {lo hi mx : Option Operand} (ho : o.op = .slice t x lo hi mx) (h : exec T s g o K) : ExOk P s g o K := by
  simp only [exec, ho] at h
  obtain ⟨v, h', hv⟩ := argK_out h; clear h; have h := h'; clear h'
  obtain ⟨l, pl, h', hl⟩ := bndK_out h; clear h; have h := h'; clear h'
  have mx_ : x ∈ o.op.operands := by rw [ho]; simp [Op.operands]
  have mlo : ∀ y, lo = some y → y ∈ o.op.operands := by rintro y rfl; rw [ho]; simp [Op.operands]
  have mhi : ∀ y, hi = some y → y ∈ o.op.operands := by rintro y rfl; rw [ho]; simp [Op.operands]
  have toH : ∀ {n : Nat} {hh : Nat} {pl ph : Prop} {y : Operand} {a : Act}, Bnd a (some y) hh → ((some y : Option Operand) = none ∧ hh = n) ∨ (∃ z k i, some y = some z ∧ a.eval z = .int k i ∧ 0 ≤ i ∧ i.toNat = hh) := by
    intro n hh pl ph y a hb
    rcases hb with ⟨hb, _⟩ | hb
    · cases hb
    · exact .inr hb
  split at h
  · rename_i e fr sz xs hk
    obtain ⟨h', ht⟩ := szK_out h; clear h; have h := h'; clear h'
    obtain ⟨rfl, h⟩ := h
    obtain ⟨_, _, d, _, _, _, _, _, h6, h7⟩ := hT.at (t := t) (by rw [hk]; simp)
    rw [hk, DescOk] at h7
    subst h7
    split at h
    · refine .of_pure (rd := []) h.2 fun hg G N a w s' hs ha _ => ?_
      obtain ⟨hp, hle⟩ := gd_out h.1 hg
      have hx := hv hg G w _ (ev_vr hs x (otm o mx_ ha))
      have hb := hl hp hg G N a w s' hs (fun y hy => otm o (mlo y hy) ha)
      generalize hux : a.eval x = ux at hx
      have hx' := hx
      cases hx with
      | sl _ _ _ A cap us hcap hm hA hrow hc hval =>
        have hr := run_slice_gen (P := P) (a := a) h6 (hT.sizeOf ht w) A (n := xs.length) (cap := cap) (lo := lo) (hi := none) hb (.inl ⟨rfl, rfl⟩) hle hcap
        have := vr_sl_cut hx' hle (Nat.le_refl _)
        rw [List.take_length] at this
        exact ⟨_, by simp only [Option.map_none] at hr; simp only [execOp, ho, hux, Option.map_none, Sem.run_bind, hr, Result.andThen_ok, Sem.run_pure], this⟩
    · rename_i hy
      obtain ⟨hh, ph, h', hb2⟩ := bndK_out h; clear h; have h := h'; clear h'
      refine .of_pure (rd := []) h.2 fun hg G N a w s' hs ha _ => ?_
      obtain ⟨hp, hph, hle, hle2⟩ := gd_out h.1 hg
      have hx := hv hg G w _ (ev_vr hs x (otm o mx_ ha))
      have hb := hl hp hg G N a w s' hs (fun y hy => otm o (mlo y hy) ha)
      have hb2 := hb2 hph hg G N a w s' hs (fun y hy => otm o (mhi y hy) ha)
      generalize hux : a.eval x = ux at hx
      have hx' := hx
      cases hx with
      | sl _ _ _ A cap us hcap hm hA hrow hc hval =>
        have hr := run_slice_gen (P := P) (a := a) h6 (hT.sizeOf ht w) A (n := xs.length) (cap := cap) (lo := lo) (hi := some hy) hb (toH (pl := True) (ph := True) hb2) hle (by omega)
        exact ⟨_, by simp only [execOp, ho, hux, Option.map_none, Sem.run_bind, hr, Result.andThen_ok, Sem.run_pure], vr_sl_cut hx' hle hle2⟩
  · rename_i e b sz row n hk
    obtain ⟨h', ht⟩ := szK_out h; clear h; have h := h'; clear h'
    obtain ⟨rfl, h⟩ := h
    obtain ⟨_, _, d, _, _, _, _, _, h6, h7⟩ := hT.at (t := t) (by rw [hk]; simp)
    rw [hk, DescOk] at h7
    subst h7
    have fin : ∀ {G : Gh} {w : World} {l hh A cap}, vr G w (.osl b (T e).size row n) (.slice A n cap) → l ≤ hh → hh ≤ n → vr G w (.osl b (T e).size (row + l) (hh - l)) (.slice (if cap = l then A else A.map (·.add (l * (T e).size))) (hh - l) (cap - l)) := by
      intro G w l hh A cap hx h1 h2
      cases hx with
      | osl _ _ _ _ c _ m hc hz he hn hm =>
        by_cases hcl : cap = l
        · rw [if_pos hcl, show hh - l = 0 by omega, show cap - l = 0 by omega]
          exact .oslz _ _ _ _
        · rw [if_neg hcl, Option.map_some, add_none rfl, show row * (T e).size + l * (T e).size = (row + l) * (T e).size by rw [Nat.add_mul]]
          exact .osl _ _ _ _ c _ m hc hz (by rw [← he]; congr 1; omega) (by omega) (by omega)
      | oslz =>
        rw [show hh - l = 0 by omega, show (0 : Nat) - l = 0 by omega]
        exact .oslz _ _ _ _
    have ex : ∀ {G : Gh} {w : World} {ux}, vr G w (.osl b (T e).size row n) ux → ∃ A cap, ux = .slice A n cap ∧ n ≤ cap := by
      intro G w ux hx
      cases hx with
      | osl _ _ _ _ c cap m hc hz he hn hm => exact ⟨_, cap, rfl, hn⟩
      | oslz _ _ _ A => exact ⟨A, 0, rfl, Nat.le_refl _⟩
    split at h
    · refine .of_pure (rd := []) h.2 fun hg G N a w s' hs ha _ => ?_
      obtain ⟨hp, hle⟩ := gd_out h.1 hg
      have hx := hv hg G w _ (ev_vr hs x (otm o mx_ ha))
      have hb := hl hp hg G N a w s' hs (fun y hy => otm o (mlo y hy) ha)
      obtain ⟨A, cap, hux, hcap⟩ := ex hx
      rw [hux] at hx
      have hr := run_slice_gen (P := P) (a := a) h6 (hT.sizeOf ht w) A (n := n) (cap := cap) (lo := lo) (hi := none) hb (.inl ⟨rfl, rfl⟩) hle hcap
      exact ⟨_, by simp only [Option.map_none] at hr; simp only [execOp, ho, hux, Option.map_none, Sem.run_bind, hr, Result.andThen_ok, Sem.run_pure], fin hx hle (Nat.le_refl _)⟩
    · rename_i hy
      obtain ⟨hh, ph, h', hb2⟩ := bndK_out h; clear h; have h := h'; clear h'
      refine .of_pure (rd := []) h.2 fun hg G N a w s' hs ha _ => ?_
      obtain ⟨hp, hph, hle, hle2⟩ := gd_out h.1 hg
      have hx := hv hg G w _ (ev_vr hs x (otm o mx_ ha))
      have hb := hl hp hg G N a w s' hs (fun y hy => otm o (mlo y hy) ha)
      have hb2 := hb2 hph hg G N a w s' hs (fun y hy => otm o (mhi y hy) ha)
      obtain ⟨A, cap, hux, hcap⟩ := ex hx
      rw [hux] at hx
      have hr := run_slice_gen (P := P) (a := a) h6 (hT.sizeOf ht w) A (n := n) (cap := cap) (lo := lo) (hi := some hy) hb (toH (pl := True) (ph := True) hb2) hle (by omega)
      exact ⟨_, by simp only [execOp, ho, hux, Option.map_none, Sem.run_bind, hr, Result.andThen_ok, Sem.run_pure], fin hx hle hle2⟩
  · rename_i e hk
    obtain ⟨h', ht⟩ := szK_out h; clear h; have h := h'; clear h'
    obtain ⟨_, _, d, _, _, _, _, _, h6, h7⟩ := hT.at (t := t) (by rw [hk]; simp)
    rw [hk, DescOk] at h7
    subst h7
    split at h
    · refine .of_pure (rd := []) h.2 fun hg G N a w s' hs ha _ => ?_
      obtain ⟨hp, rfl⟩ := gd_out h.1 hg
      have hx := hv hg G w _ (ev_vr hs x (otm o mx_ ha))
      have hb := hl hp hg G N a w s' hs (fun y hy => otm o (mlo y hy) ha)
      obtain ⟨A, hux⟩ : ∃ A, a.eval x = .slice A 0 0 := by
        generalize a.eval x = ux at hx
        cases hx; exact ⟨_, rfl⟩
      have hr := run_slice_gen (P := P) (a := a) h6 (hT.sizeOf ht w) A (n := 0) (cap := 0) (lo := lo) (hi := none) hb (.inl ⟨rfl, rfl⟩) (Nat.le_refl _) (Nat.le_refl _)
      exact ⟨.slice (if 0 = 0 then A else Option.map (fun x => x.add (0 * (T e).size)) A) 0 0, by simp only [Option.map_none] at hr; simp only [execOp, ho, hux, Option.map_none, Sem.run_bind, hr, Result.andThen_ok, Sem.run_pure], .snil _⟩
    · rename_i hy
      obtain ⟨hh, ph, h', hb2⟩ := bndK_out h; clear h; have h := h'; clear h'
      refine .of_pure (rd := []) h.2 fun hg G N a w s' hs ha _ => ?_
      obtain ⟨hp, hph, rfl, rfl⟩ := gd_out h.1 hg
      have hx := hv hg G w _ (ev_vr hs x (otm o mx_ ha))
      have hb := hl hp hg G N a w s' hs (fun y hy => otm o (mlo y hy) ha)
      have hb2 := hb2 hph hg G N a w s' hs (fun y hy => otm o (mhi y hy) ha)
      obtain ⟨A, hux⟩ : ∃ A, a.eval x = .slice A 0 0 := by
        generalize a.eval x = ux at hx
        cases hx; exact ⟨_, rfl⟩
      have hr := run_slice_gen (P := P) (a := a) h6 (hT.sizeOf ht w) A (n := 0) (cap := 0) (lo := lo) (hi := some hy) hb (toH (pl := True) (ph := True) hb2) (Nat.le_refl _) (Nat.le_refl _)
      exact ⟨.slice (if 0 = 0 then A else Option.map (fun x => x.add (0 * (T e).size)) A) 0 0, by simp only [execOp, ho, hux, Option.map_none, Sem.run_bind, hr, Result.andThen_ok, Sem.run_pure], .snil _⟩
  · rename_i bs hk
    obtain ⟨_, _, d, _, _, _, _, _, h6, h7⟩ := hT.at (t := t) (by rw [hk]; simp)
    rw [hk, DescOk] at h7
    subst h7
    have run : ∀ {w : World} {a : Act} {lo hi : Option Operand} {l h : Nat}, Bnd a lo l → ((hi = none ∧ h = bs.size) ∨ (∃ y k i, hi = some y ∧ a.eval y = .int k i ∧ 0 ≤ i ∧ i.toNat = h)) → l ≤ h → h ≤ bs.size →
        (Instr.sliceAt t (.string bs) (lo.map a.eval) (hi.map a.eval) none).run P w = .ok (.string (bs.extract l h)) w := by
      intro w a lo hi l h hl hh h1 h2
      rw [run_sliceAt_string w t _ _ _ _ h6]
      rcases hl with ⟨rfl, rfl⟩ | ⟨y, k, i, rfl, hy, h0, rfl⟩ <;> rcases hh with ⟨rfl, rfl⟩ | ⟨y', k', i', rfl, hy', h0', rfl⟩
      · simp [Instr.slice, run_underlying h6, Instr.sliceBounds]
      · simp [Instr.slice, run_underlying h6, Instr.sliceBounds, hy', run_sliceBound w k' i' bs.size _ h0' (by omega)]
      · simp [Instr.slice, run_underlying h6, Instr.sliceBounds, hy, run_sliceBound w k i bs.size _ h0 (by omega)]
      · simp [Instr.slice, run_underlying h6, Instr.sliceBounds, hy, hy', run_sliceBound w k' i' bs.size _ h0' (by omega), run_sliceBound w k i i'.toNat _ h0 (by omega)]
    split at h
    · refine .of_pure (rd := []) h.2 fun hg G N a w s' hs ha _ => ?_
      obtain ⟨hp, hle⟩ := gd_out h.1 hg
      have hux := VR.str_iff.1 (hv hg G w _ (ev_vr hs x (otm o mx_ ha)))
      have hb := hl hp hg G N a w s' hs (fun y hy => otm o (mlo y hy) ha)
      have hr := run (w := w) (hi := none) hb (.inl ⟨rfl, rfl⟩) hle (Nat.le_refl _)
      exact ⟨_, by simp only [Option.map_none] at hr; simp only [execOp, ho, hux, Option.map_none, Sem.run_bind, hr, Result.andThen_ok, Sem.run_pure], .str _⟩
    · rename_i hy
      obtain ⟨hh, ph, h', hb2⟩ := bndK_out h; clear h; have h := h'; clear h'
      refine .of_pure (rd := []) h.2 fun hg G N a w s' hs ha _ => ?_
      obtain ⟨hp, hph, hle, hle2⟩ := gd_out h.1 hg
      have hux := VR.str_iff.1 (hv hg G w _ (ev_vr hs x (otm o mx_ ha)))
      have hb := hl hp hg G N a w s' hs (fun y hy => otm o (mlo y hy) ha)
      have hb2 := hb2 hph hg G N a w s' hs (fun y hy => otm o (mhi y hy) ha)
      have hr := run (w := w) (hi := some hy) hb (toH (pl := True) (ph := True) hb2) hle hle2
      exact ⟨_, by simp only [execOp, ho, hux, Option.map_none, Sem.run_bind, hr, Result.andThen_ok, Sem.run_pure], .str _⟩
  · rename_i e mt fr sz xs hk
    obtain ⟨h', ht⟩ := szK_out h; clear h; have h := h'; clear h'
    obtain ⟨rfl, h⟩ := h
    obtain ⟨_, _, d, _, _, _, _, _, h6, h7⟩ := hT.at (t := t) (by rw [hk]; simp)
    rw [hk, DescOk] at h7
    subst h7
    split at h
    · exact h.elim
    · rename_i hy
      obtain ⟨hh, ph, h', hb2⟩ := bndK_out h; clear h; have h := h'; clear h'
      obtain ⟨m, pm, h', hb3⟩ := bndK_out h; clear h; have h := h'; clear h'
      refine .of_pure (rd := []) h.2 fun hg G N a w s' hs ha _ => ?_
      obtain ⟨hp, hph, hpm, hle, hle2, hle3⟩ := gd_out h.1 hg
      have hx := hv hg G w _ (ev_vr hs x (otm o mx_ ha))
      have hb := hl hp hg G N a w s' hs (fun y hy => otm o (mlo y hy) ha)
      have hb2 := hb2 hph hg G N a w s' hs (fun y hy => otm o (mhi y hy) ha)
      have hb3 := hb3 hpm hg G N a w s' hs (fun y hy => otm o (by rw [ho]; simp at hy; subst hy; simp [Op.operands]) ha)
      have hel : P.elem t = e := by simp [Program.elem, h6]
      have hu' : P.underlying t = some (.slice (P.elem t)) := by rw [hel]; exact h6
      generalize hux : a.eval x = ux at hx
      cases hx with
      | sl _ _ _ A cap us hcap hm hA hrow hc hval =>
        have htk : ∀ (j : Nat) (v : V), (xs.take m).flatten[j]? = some v → xs.flatten[j]? = some v := by
          intro j v hj
          have := take_drop_flatten hrow 0 m hle3 (j := j) (v := v) (by simpa using hj)
          simpa using this
        have hlen : (xs.take m).length = m := by simp; omega
        have hx2 : vr G w (.sl fr (T e).size (xs.take m)) (.slice A m m) := by
          have := VR.sl (ι := G.ι) (csz := csz w) (imm := imm G w) fr (T e).size (xs.take m) A m us (by omega) (by omega) (fun hne => hA (by intro e; subst e; simp at hne)) (fun x hx => hrow x (List.mem_of_mem_take hx)) (fun j v hj => hc j v (htk j v hj)) (fun j v hj => hval j v (htk j v hj))
          rwa [hlen] at this
        have hcut := vr_sl_cut hx2 hle (by omega)
        rw [List.take_take, Nat.min_eq_left hle2] at hcut
        rcases hb2 with ⟨hb2, _⟩ | ⟨y2, k2, i2, hy2, hyv2, h02, hi2⟩
        · cases hb2
        rcases hb3 with ⟨hb3, _⟩ | ⟨y3, k3, i3, hy3, hyv3, h03, hi3⟩
        · cases hb3
        cases hy2; cases hy3
        rcases hb with ⟨rfl, rfl⟩ | ⟨y, k', i, rfl, hyv, h0, hi⟩
        · exact ⟨_, by simp only [execOp, ho, hux, hyv2, hyv3, Option.map_none, Option.map_some, Sem.run_bind, run_sliceAt_slice w t _ _ _ _ hu', run_slice_hm w t A xs.length cap hu' _ _ i2 i3 (by omega) (by omega) (by omega), hel, hT.sizeOf ht w, Result.andThen_ok, Sem.run_pure, sliced, hi2, hi3], hcut⟩
        · exact ⟨_, by simp only [execOp, ho, hux, hyv, hyv2, hyv3, Option.map_none, Option.map_some, Sem.run_bind, run_sliceAt_slice w t _ _ _ _ hu', run_slice_lhm w t A xs.length cap hu' _ _ _ i i2 i3 (by omega) (by omega) (by omega) (by omega), hel, hT.sizeOf ht w, Result.andThen_ok, Sem.run_pure, sliced, hi, hi2, hi3], hcut⟩
  · rename_i e k0 fr sz xs hk
    obtain ⟨h', ht⟩ := szK_out h; clear h; have h := h'; clear h'
    obtain ⟨_, _, d, _, _, _, _, _, h6, h7⟩ := hT.at (t := t) (by rw [hk]; simp)
    rw [hk, DescOk] at h7
    subst h7
    split at h
    · rename_i k1
      split at h
      · refine .of_pure (rd := []) h.2 fun hg G N a w s' hs ha _ => ?_
        have hx := hv hg G w _ (ev_vr hs x (otm o mx_ ha))
        have hb := hl (gd_out h.1 hg) hg G N a w s' hs (fun y hy => otm o (mlo y hy) ha)
        obtain ⟨A, n, cap, hux⟩ : ∃ A n cap, a.eval x = .slice A n cap := by
          generalize a.eval x = ux at hx
          cases hx <;> exact ⟨_, _, _, rfl⟩
        have hel : P.elem t = e := by simp [Program.elem, h6]
        have hu' : P.underlying t = some (.slice (P.elem t)) := by rw [hel]; exact h6
        have e0 : ∀ (k : IntKind), a.eval (.const (.int k 0)) = .int k 0 := fun _ => rfl
        refine ⟨.slice (if (0 : Nat) = 0 then A else A.map (·.add (0 * (T e).size))) 0 0, ?_, .snil _⟩
        rcases hb with ⟨rfl, _⟩ | ⟨y, k', i, rfl, hy, h0, hi⟩
        · simp only [execOp, ho, hux, Option.map_none, Option.map_some, e0, Sem.run_bind, run_sliceAt_slice w t _ _ _ _ hu', run_slice_hm w t A n cap hu' _ _ 0 0 (by omega) (by omega) (by omega), hel, hT.sizeOf ht w, Result.andThen_ok, Sem.run_pure, sliced]
          rfl
        · have hi0 : i = 0 := by omega
          subst hi0
          simp only [execOp, ho, hux, hy, Option.map_none, Option.map_some, e0, Sem.run_bind, run_sliceAt_slice w t _ _ _ _ hu', run_slice_lhm w t A n cap hu' _ _ _ 0 0 0 (by omega) (by omega) (by omega) (by omega), hel, hT.sizeOf ht w, Result.andThen_ok, Sem.run_pure, sliced]
          rfl
      · exact h.elim
    · exact h.elim
  · rename_i e k0 b sz row n hk
    obtain ⟨h', ht⟩ := szK_out h; clear h; have h := h'; clear h'
    obtain ⟨_, _, d, _, _, _, _, _, h6, h7⟩ := hT.at (t := t) (by rw [hk]; simp)
    rw [hk, DescOk] at h7
    subst h7
    split at h
    · rename_i k1
      split at h
      · refine .of_pure (rd := []) h.2 fun hg G N a w s' hs ha _ => ?_
        have hx := hv hg G w _ (ev_vr hs x (otm o mx_ ha))
        have hb := hl (gd_out h.1 hg) hg G N a w s' hs (fun y hy => otm o (mlo y hy) ha)
        obtain ⟨A, n, cap, hux⟩ : ∃ A n cap, a.eval x = .slice A n cap := by
          generalize a.eval x = ux at hx
          cases hx <;> exact ⟨_, _, _, rfl⟩
        have hel : P.elem t = e := by simp [Program.elem, h6]
        have hu' : P.underlying t = some (.slice (P.elem t)) := by rw [hel]; exact h6
        have e0 : ∀ (k : IntKind), a.eval (.const (.int k 0)) = .int k 0 := fun _ => rfl
        refine ⟨.slice (if (0 : Nat) = 0 then A else A.map (·.add (0 * (T e).size))) 0 0, ?_, .snil _⟩
        rcases hb with ⟨rfl, _⟩ | ⟨y, k', i, rfl, hy, h0, hi⟩
        · simp only [execOp, ho, hux, Option.map_none, Option.map_some, e0, Sem.run_bind, run_sliceAt_slice w t _ _ _ _ hu', run_slice_hm w t A n cap hu' _ _ 0 0 (by omega) (by omega) (by omega), hel, hT.sizeOf ht w, Result.andThen_ok, Sem.run_pure, sliced]
          rfl
        · have hi0 : i = 0 := by omega
          subst hi0
          simp only [execOp, ho, hux, hy, Option.map_none, Option.map_some, e0, Sem.run_bind, run_sliceAt_slice w t _ _ _ _ hu', run_slice_lhm w t A n cap hu' _ _ _ 0 0 0 (by omega) (by omega) (by omega) (by omega), hel, hT.sizeOf ht w, Result.andThen_ok, Sem.run_pure, sliced]
          rfl
      · exact h.elim
    · exact h.elim
  · rename_i e k0 hk
    obtain ⟨h', ht⟩ := szK_out h; clear h; have h := h'; clear h'
    obtain ⟨_, _, d, _, _, _, _, _, h6, h7⟩ := hT.at (t := t) (by rw [hk]; simp)
    rw [hk, DescOk] at h7
    subst h7
    split at h
    · rename_i k1
      split at h
      · refine .of_pure (rd := []) h.2 fun hg G N a w s' hs ha _ => ?_
        have hx := hv hg G w _ (ev_vr hs x (otm o mx_ ha))
        have hb := hl (gd_out h.1 hg) hg G N a w s' hs (fun y hy => otm o (mlo y hy) ha)
        obtain ⟨A, n, cap, hux⟩ : ∃ A n cap, a.eval x = .slice A n cap := by
          generalize a.eval x = ux at hx
          cases hx <;> exact ⟨_, _, _, rfl⟩
        have hel : P.elem t = e := by simp [Program.elem, h6]
        have hu' : P.underlying t = some (.slice (P.elem t)) := by rw [hel]; exact h6
        have e0 : ∀ (k : IntKind), a.eval (.const (.int k 0)) = .int k 0 := fun _ => rfl
        refine ⟨.slice (if (0 : Nat) = 0 then A else A.map (·.add (0 * (T e).size))) 0 0, ?_, .snil _⟩
        rcases hb with ⟨rfl, _⟩ | ⟨y, k', i, rfl, hy, h0, hi⟩
        · simp only [execOp, ho, hux, Option.map_none, Option.map_some, e0, Sem.run_bind, run_sliceAt_slice w t _ _ _ _ hu', run_slice_hm w t A n cap hu' _ _ 0 0 (by omega) (by omega) (by omega), hel, hT.sizeOf ht w, Result.andThen_ok, Sem.run_pure, sliced]
          rfl
        · have hi0 : i = 0 := by omega
          subst hi0
          simp only [execOp, ho, hux, hy, Option.map_none, Option.map_some, e0, Sem.run_bind, run_sliceAt_slice w t _ _ _ _ hu', run_slice_lhm w t A n cap hu' _ _ _ 0 0 0 (by omega) (by omega) (by omega) (by omega), hel, hT.sizeOf ht w, Result.andThen_ok, Sem.run_pure, sliced]
          rfl
      · exact h.elim
    · exact h.elim
  · exact h.elim

theorem ex_len (hT : TabOk P T) (hs0 : ∃ G N a w, Sim G N s a w) {c : Call} (ho : o.op = .call c) (hc : c.callee = .builtin .len) (h : exec T s g o K) : ExOk P s g o K := by
  simp only [exec, ho, hc] at h
  split at h
  · rename_i x t hx ht
    obtain ⟨v, h', hv⟩ := argK_out h; clear h; have h := h'; clear h'
    have hxm : x ∈ o.op.operands := by rw [ho]; simp only [Op.operands, Call.operands, hc]; have : x ∈ c.args.toList := by simp [hx]
                                       simpa using this
    have hargs : c.args = #[x] := by apply Array.ext'; simp [hx]
    have htys : c.argTypes = #[t] := by apply Array.ext'; simp [ht]
    have run : ∀ (a : Act) (w : World), (execOp a.eval o).run P w = ((Builtin.len_ #[t] o.type #[a.eval x]).run P w).andThen fun v w => .ok (.value v) w := by
      intro a w
      simp [execOp, ho, resolve, hc, hargs, htys, invoke, builtin]
    have prem : ∀ {p : Prop}, ((g = none ∨ g = some true) → p) → gd g p := by
      intro p hp
      unfold gd
      split
      · exact hp (.inl rfl)
      · rename_i gb; intro hgb; subst hgb; exact hp (.inr rfl)
    split at h
    · rename_i e fr sz xs hk
      obtain ⟨_, _, d, _, _, _, _, _, h6, h7⟩ := hT.at (t := t) (by rw [hk]; simp)
      rw [hk, DescOk] at h7
      subst h7
      refine .of_pure (rd := []) (h (prem fun hg => ?_)) fun hg G N a w s' hs ha _ => ?_
      · obtain ⟨G, N, a, w, hs⟩ := hs0
        have hx := hv hg G w _ (ev_vr hs x (fun _ _ => rfl))
        cases hux : a.eval x <;> rw [hux] at hx <;> cases hx
        omega
      have hx := hv hg G w _ (ev_vr hs x (otm o hxm ha))
      generalize hux : a.eval x = ux at hx
      cases hx with
      | sl _ _ _ A cap us hcap hm hA hrow hc hval => exact ⟨_, by simp [run, hux, Builtin.len_, run_underlying h6, goInt], .int _ _⟩
    · rename_i e b sz row n hk
      obtain ⟨_, _, d, _, _, _, _, _, h6, h7⟩ := hT.at (t := t) (by rw [hk]; simp)
      rw [hk, DescOk] at h7
      subst h7
      refine .of_pure (rd := []) (h (prem fun hg => ?_)) fun hg G N a w s' hs ha _ => ?_
      · obtain ⟨G, N, a, w, hs⟩ := hs0
        have hx := hv hg G w _ (ev_vr hs x (fun _ _ => rfl))
        cases hux : a.eval x <;> rw [hux] at hx <;> cases hx
        · omega
        · unfold maxLen; omega
      have hx := hv hg G w _ (ev_vr hs x (otm o hxm ha))
      obtain ⟨A, cap, hux⟩ : ∃ A cap, a.eval x = .slice A n cap := by
        generalize a.eval x = ux at hx
        cases hx <;> exact ⟨_, _, rfl⟩
      exact ⟨_, by simp [run, hux, Builtin.len_, run_underlying h6, goInt], .int _ _⟩
    · rename_i e hk
      obtain ⟨_, _, d, _, _, _, _, _, h6, h7⟩ := hT.at (t := t) (by rw [hk]; simp)
      rw [hk, DescOk] at h7
      subst h7
      refine .of_pure (rd := []) h fun hg G N a w s' hs ha _ => ?_
      have hx := hv hg G w _ (ev_vr hs x (otm o hxm ha))
      generalize hux : a.eval x = ux at hx
      cases hx with
      | snil A => exact ⟨_, by simp [run, hux, Builtin.len_, run_underlying h6, goInt], .int _ _⟩
    · rename_i b hk
      obtain ⟨_, _, d, _, _, _, _, _, h6, h7⟩ := hT.at (t := t) (by rw [hk]; simp)
      rw [hk, DescOk] at h7
      subst h7
      refine .of_pure (rd := []) h fun hg G N a w s' hs ha _ => ?_
      have hux := VR.str_iff.1 (hv hg G w _ (ev_vr hs x (otm o hxm ha)))
      exact ⟨_, by simp [run, hux, Builtin.len_, run_underlying h6, goInt], .int _ _⟩
    · exact h.elim
  · exact h.elim

theorem ex_cap (hT : TabOk P T) {c : Call} (ho : o.op = .call c) (hc : c.callee = .builtin .cap) (h : exec T s g o K) : ExOk P s g o K := by
  simp only [exec, ho, hc] at h
  split at h
  · rename_i x t hx ht
    obtain ⟨v, h', hv⟩ := argK_out h; clear h; have h := h'; clear h'
    have hargs : c.args = #[x] := by apply Array.ext'; simp [hx]
    have hxm : x ∈ o.op.operands := by rw [ho]; simp [Op.operands, Call.operands, hc, hargs]
    have htys : c.argTypes = #[t] := by apply Array.ext'; simp [ht]
    split at h
    · rename_i e hk
      obtain ⟨_, _, d, _, _, _, _, _, h6, h7⟩ := hT.at (t := t) (by rw [hk]; simp)
      rw [hk, DescOk] at h7
      subst h7
      refine .of_pure (rd := []) h fun hg G N a w s' hs ha _ => ?_
      have hx := hv hg G w _ (ev_vr hs x (otm o hxm ha))
      generalize hux : a.eval x = ux at hx
      cases hx with
      | snil A => exact ⟨_, by simp [execOp, ho, resolve, hc, hargs, htys, invoke, builtin, hux, Builtin.cap_, run_underlying h6, goInt], .int _ _⟩
    · exact h.elim
  · exact h.elim
theorem ex_minmax {c : Call} {b : Builtin} (hb : b = .min ∨ b = .max) (ho : o.op = .call c) (hc : c.callee = .builtin b) (h : exec T s g o K) : ExOk P s g o K := by
  rcases hb with rfl | rfl
  all_goals
    simp only [exec, ho, hc] at h
    split at h
    · rename_i x y hxy
      obtain ⟨v, h', hv⟩ := argK_out h; clear h; have h := h'; clear h'
      obtain ⟨v2, h', hv2⟩ := argK_out h; clear h; have h := h'; clear h'
      have hargs : c.args = #[x, y] := by apply Array.ext'; simp [hxy]
      have hxm : x ∈ o.op.operands := by rw [ho]; simp [Op.operands, Call.operands, hc, hargs]
      have hym : y ∈ o.op.operands := by rw [ho]; simp [Op.operands, Call.operands, hc, hargs]
      split at h
      · refine .of_pure (rd := []) h fun hg G N a w s' hs ha _ => ?_
        have hx := VR.int_iff.1 (hv hg G w _ (ev_vr hs x (otm o hxm ha)))
        have hy := VR.int_iff.1 (hv2 hg G w _ (ev_vr hs y (otm o hym ha)))
        exact ⟨_, by simp [execOp, ho, resolve, hc, hargs, invoke, builtin, hx, hy, run_min_int2, run_max_int2], .int _ _⟩
      · exact h.elim
    · exact h.elim
end Go.Proofs.Ytcfkendgjinmiaa
