/- Operations that write or make memory. -/
import Derived.Test.YtcfkendgjinmiaaVE
import Derived.Great.BuildSlice
set_option linter.unusedVariables false
set_option linter.unusedSimpArgs false
namespace Go.Proofs.Ytcfkendgjinmiaa
open Go.RowKit

variable {P : Program} {T : Tab} {s : St} {g : Option Bool} {o : Oper} {K : OK}

theorem EvoA.vr {G G' : Gh} {w w' : World} (h : EvoA G w G' w') {v : V} {u : Value} (hv : vr G w v u) : vr G' w' v u :=
  VR.mono (fun b c hb => (h (b + 1)).ids b c (by omega) hb) (h 0).csz (fun _ _ _ hi => (h 0).imm hi) hv
theorem EvoA.trans {G G' G'' : Gh} {w w' w'' : World} (h : EvoA G w G' w') (k : EvoA G' w' G'' w'') : EvoA G w G'' w'' := fun b => (h b).trans (k b)
theorem Holds.keep {G G' : Gh} {w w' : World} {b : Nat} {fr ex : Bool} {ty : TypeId} {vs : List V} (h : Holds G w b fr ex ty vs) (he : EvoA G w G' w') (hc : ∀ c, G.ι b = some c → w'.heap[c]? = w.heap[c]?) : Holds G' w' b fr ex ty vs := by
  obtain ⟨c, cs, h1, h2, h3, h4, h5, h6⟩ := h
  refine ⟨c, cs, (he (b + 1)).ids b c (by omega) h1, (hc c h1).trans h2, h3, h4, fun hf => by rw [(he 0).B]; exact h5 hf, fun j v hv => ?_⟩
  obtain ⟨u, hu, h1, hr⟩ := h6 j v hv
  exact ⟨u, hu, h1, he.vr hr⟩
theorem BlkOk.keep {G G' : Gh} {w w' : World} {b : Nat} {blk : Blk} (h : BlkOk G w b blk) (he : EvoA G w G' w') (hc : ∀ c, G.ι b = some c → w'.heap[c]? = w.heap[c]?) (hn : G.ι b = none → G'.ι b = none) : BlkOk G' w' b blk := by
  cases blk with
  | var fr ty cells => exact Holds.keep h he hc
  | arr fr ex ty sz rows =>
    refine ⟨h.1, ?_⟩
    rcases h.2 with ⟨h1, h2⟩ | h2
    · exact .inl ⟨hn h1, h2⟩
    · exact .inr (Holds.keep h2 he hc)
  | loop N t ps asg body st pend =>
    obtain ⟨c, r, h1, h2, h3, h4, h5, h6, h7, h8, h9⟩ := h
    exact ⟨c, r, (he (b + 1)).ids b c (by omega) h1, (hc c h1).trans h2, h3, h4, h5, h6, h7, h8, fun i => he.vr (h9 i)⟩

theorem hget_cons (b : Nat) (ob : Option Blk) (h : Heap) (b' : Nat) : hget ((b, ob) :: h) b' = if b = b' then ob else hget h b' := by
  by_cases e : b = b'
  · subst e; simp [hget, Nat.beq_refl]
  · have : Nat.beq b b' = false := by
      cases hb : Nat.beq b b' with
      | false => rfl
      | true => exact absurd (Nat.eq_of_beq_eq_true hb) e
    simp [hget, this, e]

def Gh.with (G : Gh) (b : Nat) (c : Option Nat) : Gh := { G with ι := fun i => if i = b then c else G.ι i }
theorem Gh.with_self (G : Gh) (b : Nat) (c : Option Nat) : (G.with b c).ι b = c := by simp [Gh.with]
theorem Gh.with_other (G : Gh) {b b' : Nat} (h : b' ≠ b) (c : Option Nat) : (G.with b c).ι b' = G.ι b' := by simp [Gh.with, h]

theorem csz_alloc {w : World} {o : Obj} {c m : Nat} (h : csz w c = some m) : csz (w.alloc o) c = some m := by
  have hlt : c < w.heap.size := by
    unfold csz at h
    split at h
    · rename_i hc; exact (Array.getElem?_eq_some_iff.1 hc).1
    · cases h
  unfold csz at h ⊢
  rw [Below.heap_alloc w o c hlt]
  exact h
/-- A new block. -/
theorem EvoA.alloc {G : Gh} {hp : Heap} {n : Nat} {w : World} (h : HR G hp n w) (o : Obj) (b : Nat) (hb : G.ι b = none) : EvoA G w (G.with b (some w.heap.size)) (w.alloc o) := fun base =>
  ⟨rfl, rfl, rfl, by simp, rfl, fun _ hc => hc, fun c' hc => Below.heap_alloc _ _ _ (h.amb_lt _ hc), fun _ _ hm => csz_alloc hm,
   fun b' c' _ hc => by
    by_cases e : b' = b
    · subst e; rw [hb] at hc; cases hc
    · rw [Gh.with_other _ e]; exact hc,
   fun c' hc _ => Below.heap_alloc _ _ _ hc, fun _ hc _ => .inl hc, fun b' c' hc hlt => by
    by_cases e : b' = b
    · subst e; rw [Gh.with_self] at hc; cases hc; omega
    · rw [Gh.with_other _ e] at hc; exact ⟨b', hc⟩⟩
theorem EvoA.drew {G : Gh} {w : World} : EvoA G w G w.drew := fun base => ⟨rfl, rfl, rfl, Nat.le_refl _, rfl, fun _ h => h, fun _ _ => rfl, fun _ _ h => h, fun _ _ _ h => h, fun _ _ _ => rfl, fun _ h _ => .inl h, fun b _ h _ => ⟨b, h⟩⟩
theorem HR.alloc {G : Gh} {hp : Heap} {n : Nat} {w : World} (h : HR G hp n w) (o : Obj) (b : Nat) (hb : G.ι b = none) (blk : Blk)
    (hok : BlkOk (G.with b (some w.heap.size)) (w.alloc o) b blk) : HR (G.with b (some w.heap.size)) ((b, some blk) :: hp) (max n (b + 1)) (w.alloc o) := by
  have he := EvoA.alloc h o b hb
  refine ⟨fun c hc => by have := h.amb_lt c hc; simp; omega, by have := h.B_le; simp [Gh.with]; omega, fun b' hb' => ?_, fun b' blk' hg => ?_, fun b1 b2 k1 k2 c h1 h2 h3 h4 => ?_, fun b' blk' c hg hc => ?_, fun b' c hc => ?_, fun b' blk' hg => ?_⟩
  · rw [Gh.with_other _ (by omega)]; exact h.dom b' (by omega)
  · rw [hget_cons] at hg
    split at hg
    · rename_i e; subst e; cases hg; exact hok
    · rename_i e
      exact (h.own b' blk' hg).keep he (fun c hc => Below.heap_alloc _ _ _ (h.lt b' c hc)) (fun hn => by rw [Gh.with_other _ (Ne.symm e)]; exact hn)
  · rw [hget_cons] at h1 h2
    by_cases e1 : b = b1 <;> by_cases e2 : b = b2
    · omega
    · subst e1
      rw [Gh.with_self] at h3; rw [Gh.with_other _ (Ne.symm e2)] at h4
      have := h.lt b2 c h4
      cases h3; omega
    · subst e2
      rw [Gh.with_self] at h4; rw [Gh.with_other _ (Ne.symm e1)] at h3
      have := h.lt b1 c h3
      cases h4; omega
    · rw [if_neg e1] at h1; rw [if_neg e2] at h2
      rw [Gh.with_other _ (Ne.symm e1)] at h3; rw [Gh.with_other _ (Ne.symm e2)] at h4
      exact h.inj b1 b2 k1 k2 c h1 h2 h3 h4
  · rw [hget_cons] at hg
    by_cases e : b = b'
    · subst e
      rw [Gh.with_self] at hc
      cases hc
      intro hamb
      have := h.amb_lt _ hamb
      omega
    · rw [if_neg e] at hg
      rw [Gh.with_other _ (Ne.symm e)] at hc
      exact h.apart b' blk' c hg hc
  · by_cases e : b' = b
    · subst e; rw [Gh.with_self] at hc; cases hc; simp
    · rw [Gh.with_other _ e] at hc
      have := h.lt b' c hc
      simp; omega
  · rw [hget_cons] at hg
    split at hg
    · omega
    · have := h.hdom b' blk' hg; omega

/-- Cells that lie in a new block, with room behind them or without. -/
theorem holds_new' {G : Gh} {hp : Heap} {n : Nat} {w : World} (h : HR G hp n w) (b : Nat) (hb : G.ι b = none) (ex : Bool) (ty : TypeId) (vs : List V) (us : Array Value) (hl : vs.length ≤ us.size) (hex : ex = true → vs.length = us.size)
    (hv : ∀ (j : Nat) (v : V), vs[j]? = some v → ∃ u : Value, us[j]? = some u ∧ u.oneCell' = true ∧ vr G w v u) :
    Holds (G.with b (some w.heap.size)) (w.alloc (.cells us ty)) b true ex ty vs := by
  have he := EvoA.alloc h (.cells us ty) b hb
  refine ⟨w.heap.size, us, Gh.with_self _ _ _, by show (w.heap.push _)[w.heap.size]? = _; simp, hl, hex, fun _ => h.B_le, fun j v hj => ?_⟩
  obtain ⟨u, hu, h1, hr⟩ := hv j v hj
  exact ⟨u, hu, h1, he.vr hr⟩
theorem vrs.get {G : Gh} {w : World} {vs : List V} {us : List Value} (h : vrs G w vs us) (h1 : ∀ u ∈ us, u.oneCell' = true) : ∀ (j : Nat) (v : V), vs[j]? = some v → ∃ u : Value, us[j]? = some u ∧ u.oneCell' = true ∧ vr G w v u := by
  intro j v hj
  have hlt : j < us.length := by rw [← h.1]; exact (List.getElem?_eq_some_iff.1 hj).1
  exact ⟨us[j], List.getElem?_eq_getElem hlt, h1 _ (List.getElem_mem hlt), h.2 j v _ hj (List.getElem?_eq_getElem hlt)⟩
theorem holds_new {G : Gh} {hp : Heap} {n : Nat} {w : World} (h : HR G hp n w) (b : Nat) (hb : G.ι b = none) (ty : TypeId) (vs : List V) (us : Array Value) (hv : vrs G w vs us.toList) (h1 : ∀ u ∈ us.toList, u.oneCell' = true) :
    Holds (G.with b (some w.heap.size)) (w.alloc (.cells us ty)) b true true ty vs :=
  holds_new' h b hb true ty vs us (by have := hv.1; simp at this; omega) (fun _ => by have := hv.1; simpa using this) (fun j v hj => by simpa using hv.get h1 j v hj)

theorem vrs.one {G : Gh} {w : World} {vs : List V} {us : List Value} (h : vrs G w vs us) (h1 : ∀ x ∈ vs, x.one = true) : ∀ u ∈ us, u.oneCell' = true := by
  intro u hu
  obtain ⟨j, hj, rfl⟩ := List.mem_iff_getElem.1 hu
  have hj' : j < vs.length := by rw [h.1]; exact hj
  exact VR.one' (h1 _ (List.getElem_mem hj')) (h.2 j _ _ (List.getElem?_eq_getElem hj') (List.getElem?_eq_getElem hj))
theorem csz_setRow {w : World} {c : Nat} {cur new : Array Value} {t : TypeId} {fr : Nat × Nat} (hg : w.heap[c]? = some (.cells cur t fr)) (hs : new.size = cur.size) {c' m : Nat} (h : csz w c' = some m) : csz (w.setRow c new) c' = some m := by
  unfold csz at h ⊢
  by_cases e : c' = c
  · subst e
    rw [setRow_heap w c' cur new t fr hg]
    rw [hg] at h
    simpa [hs] using h
  · rw [setRow_other w c c' new e]; exact h
/-- An owned block is written. -/
theorem EvoA.setRow {G : Gh} {w : World} {c : Nat} {cur new : Array Value} {t : TypeId} {fr : Nat × Nat} (hg : w.heap[c]? = some (.cells cur t fr)) (hs : new.size = cur.size) (ha : ¬ G.amb c) {b : Nat} (hb : G.ι b = some c) : EvoA G w G (w.setRow c new) := fun base =>
  ⟨rfl, rfl, rfl, by simp, rfl, fun _ hc => hc, fun c' hc => setRow_other _ _ _ _ (fun e => ha (e ▸ hc)), fun _ _ hm => csz_setRow hg hs hm, fun _ _ _ hc => hc,
   fun c' _ hn => setRow_other _ _ _ _ (fun e => hn b (e ▸ hb)), fun _ h _ => .inl h, fun b _ h _ => ⟨b, h⟩⟩
theorem HR.setRow {G : Gh} {hp : Heap} {n : Nat} {w : World} (h : HR G hp n w) {b c : Nat} {blk : Blk} (hb : hget hp b = some blk) (hc : G.ι b = some c) {cur new : Array Value} {t : TypeId} {fr : Nat × Nat}
    (hg : w.heap[c]? = some (.cells cur t fr)) (hs : new.size = cur.size) (blk' : Blk) (hok : BlkOk G (w.setRow c new) b blk') : HR G ((b, some blk') :: hp) n (w.setRow c new) := by
  have he : EvoA G w G (w.setRow c new) := EvoA.setRow hg hs (h.apart b blk c hb hc) hc
  refine ⟨fun c hc => by have := h.amb_lt c hc; simpa using this, by simpa using h.B_le, h.dom, fun b' k hk => ?_, fun b1 b2 k1 k2 c' h1 h2 h3 h4 => ?_, fun b' k c' hk hc' => ?_, fun b' c' hc' => by simpa using h.lt b' c' hc', fun b' k hk => ?_⟩
  · rw [hget_cons] at hk
    split at hk
    · rename_i e; subst e; cases hk; exact hok
    · rename_i e
      refine (h.own b' k hk).keep he (fun c' hc' => setRow_other _ _ _ _ ?_) (fun hn => hn)
      rintro rfl
      exact e (h.inj b b' _ _ _ hb hk hc hc')
  · have g1 : ∃ k, hget hp b1 = some k := by
      rw [hget_cons] at h1
      split at h1
      · rename_i e; subst e; exact ⟨_, hb⟩
      · exact ⟨_, h1⟩
    have g2 : ∃ k, hget hp b2 = some k := by
      rw [hget_cons] at h2
      split at h2
      · rename_i e; subst e; exact ⟨_, hb⟩
      · exact ⟨_, h2⟩
    obtain ⟨_, g1⟩ := g1
    obtain ⟨_, g2⟩ := g2
    exact h.inj b1 b2 _ _ c' g1 g2 h3 h4
  · rw [hget_cons] at hk
    split at hk
    · rename_i e; subst e; exact h.apart b blk c' hb hc'
    · exact h.apart b' k c' hk hc'
  · rw [hget_cons] at hk
    split at hk
    · rename_i e; subst e; exact h.hdom b blk hb
    · exact h.hdom b' k hk

theorem constsK_out : ∀ {vs : List Value} {K : List V → Prop}, constsK vs K → ∃ cs, K cs ∧ cs.length = vs.length ∧ (∀ x ∈ cs, x.one = true) ∧ ∀ (G : Gh) (w : World), vrs G w cs vs
  | [], K, h => ⟨[], h, rfl, by simp, fun G w => ⟨rfl, by simp⟩⟩
  | v :: r, K, h => by
    unfold constsK at h
    split at h
    · rename_i ho
      rw [forceV_eq] at h
      obtain ⟨cs, hK, hl, h1, hv⟩ := constsK_out h
      refine ⟨_ :: cs, hK, by simp [hl], by rintro x hx; rcases List.mem_cons.1 hx with rfl | hx; exact ho; exact h1 x hx, fun G w => ⟨by simp [hl], fun j v' u h1 h2 => ?_⟩⟩
      cases j with
      | zero => simp at h1 h2; subst h1; subst h2; exact const_vr _ _ _ _
      | succ j => exact (hv G w).2 j v' u (by simpa using h1) (by simpa using h2)
    · exact h.elim

theorem lt_max (a b : Nat) : b ≤ max a b := Nat.le_max_right a b

theorem ex_alloc (hT : TabOk P T) {e : TypeId} (ho : o.op = .alloc e) (h : exec T s g o K) : ExOk P s g o K := by
  simp only [exec, ho] at h
  split at h
  · exact h.elim
  obtain ⟨h', ht⟩ := szK_out h; clear h; have h := h'; clear h'
  obtain ⟨cs, h', hl, h1, hv⟩ := constsK_out h; clear h; have h := h'; clear h'
  split at h
  · rename_i hlen
    rw [forceN_eq] at h
    refine ⟨_, _, _, _, h, RdOk.new (.nil _), fun _ => ⟨by omega, fun G N a w s' hs ha hr hn => ?_⟩, fun hg => absurd rfl hg⟩
    obtain ⟨i, z, d, h1', h2', _, h4', h5', _, _⟩ := hT.at ht
    have hi := hn s.nx (Nat.le_refl _) (by omega)
    have hvr : vrs G w cs z.cells.toList := by rw [h5']; exact hv G w
    have hok := holds_new hs.hr s.nx hi e cs z.cells hvr (hvr.one h1)
    refine ⟨.pointer (some ⟨w.heap.size, 0, none⟩), w.alloc (.cells z.cells e), G.with s.nx (some w.heap.size), .inl ?_, .ptr _ _ _ (Gh.with_self _ _ _), HR.alloc hs.hr _ _ hi (.var true e cs) hok, fun b hb => Gh.with_other _ (by omega) _, EvoA.alloc hs.hr _ _ hi⟩
    simp [execOp, ho, Instr.alloc, zeroValue, typeInfo, h1', h4', newVar, newRow]
  · exact h.elim

theorem ex_box (hT : TabOk P T) {e : TypeId} {x : Operand} (ho : o.op = .box e x) (h : exec T s g o K) : ExOk P s g o K := by
  simp only [exec, ho] at h
  split at h
  · exact h.elim
  obtain ⟨h', ht⟩ := szK_out h; clear h; have h := h'; clear h'
  obtain ⟨cs, h', hl, h1, hv⟩ := cellsK_out h; clear h; have h := h'; clear h'
  rw [forceN_eq] at h
  refine ⟨_, _, _, _, h, RdOk.new (.nil _), fun _ => ⟨by omega, fun G N a w s' hs ha hr hn => ?_⟩, fun hg => absurd rfl hg⟩
  have hi := hn s.nx (Nat.le_refl _) (by omega)
  have hx := ev_vr hs x (otm o (by simp [ho, Op.operands]) ha)
  have hok := holds_new hs.hr s.nx hi e cs (a.eval x).cells (hv G w _ hx) ((hv G w _ hx).one h1)
  refine ⟨.pointer (some ⟨w.heap.size, 0, none⟩), w.alloc (.cells (a.eval x).cells e), G.with s.nx (some w.heap.size), .inl ?_, .ptr _ _ _ (Gh.with_self _ _ _), HR.alloc hs.hr _ _ hi (.var true e cs) hok, fun b hb => Gh.with_other _ (by omega) _, EvoA.alloc hs.hr _ _ hi⟩
  simp [execOp, ho, Instr.box, newVar, newRow]

theorem vrs.take {G : Gh} {w : World} {vs : List V} {us : List Value} (h : vrs G w vs us) (n : Nat) : vrs G w (vs.take n) (us.take n) := by
  refine ⟨by simp [h.1], fun j v u h1 h2 => ?_⟩
  rw [List.getElem?_take] at h1 h2
  split at h1
  · rename_i hj; rw [if_pos hj] at h2; exact h.2 j v u h1 h2
  · cases h1
theorem vrs.drop {G : Gh} {w : World} {vs : List V} {us : List Value} (h : vrs G w vs us) (n : Nat) : vrs G w (vs.drop n) (us.drop n) := by
  refine ⟨by simp [h.1], fun j v u h1 h2 => ?_⟩
  rw [List.getElem?_drop] at h1 h2
  exact h.2 _ v u h1 h2
theorem vrs.append {G : Gh} {w : World} {vs vs' : List V} {us us' : List Value} (h : vrs G w vs us) (h' : vrs G w vs' us') : vrs G w (vs ++ vs') (us ++ us') := by
  refine ⟨by simp [h.1, h'.1], fun j v u h1 h2 => ?_⟩
  rcases Nat.lt_or_ge j vs.length with hj | hj
  · rw [List.getElem?_append_left hj] at h1
    rw [List.getElem?_append_left (by rw [← h.1]; exact hj)] at h2
    exact h.2 j v u h1 h2
  · rw [List.getElem?_append_right hj] at h1
    rw [List.getElem?_append_right (by rw [← h.1]; exact hj), ← h.1] at h2
    exact h'.2 _ v u h1 h2
theorem EvoA.vrs {G G' : Gh} {w w' : World} (h : EvoA G w G' w') {vs : List V} {us : List Value} (hv : vrs G w vs us) : vrs G' w' vs us := ⟨hv.1, fun j v u h1 h2 => h.vr (hv.2 j v u h1 h2)⟩
/-- The cells of an owned block, the spare ones too. -/
theorem Holds.full {G : Gh} {w : World} {b : Nat} {fr : Bool} {ty : TypeId} {vs : List V} {c : Nat} {cs : Array Value} (h : Holds G w b fr true ty vs) (hc : G.ι b = some c) (hh : w.heap[c]? = some (.cells cs ty (0, 0))) : vrs G w vs cs.toList := by
  obtain ⟨c', cs', h1, h2, h3, h4, _, h6⟩ := h
  rw [hc] at h1; cases h1
  rw [hh] at h2; cases h2
  refine ⟨by simpa using h4 rfl, fun j v u h1 h2 => ?_⟩
  obtain ⟨u', hu', _, hr⟩ := h6 j v h1
  have : cs[j]? = some u := by simpa using h2
  rw [this] at hu'; cases hu'
  exact hr
end Go.Proofs.Ytcfkendgjinmiaa
