/- A contract that hands over a slice of its own. -/
import Derived.Test.YtcfkendgjinmiaaVO
set_option linter.unusedVariables false
set_option linter.unusedSimpArgs false
namespace Go.Proofs.Ytcfkendgjinmiaa
open Go.RowKit

/-- A CONTRACT WHOSE ANSWER IS A SLICE THAT THE CALLER OWNS; its arguments may be lent. -/
def OCon (P : Program) (f : FuncId) (args : List V) (fr ex : Bool) (ty : TypeId) (sz n : Nat) (rows : List (List V)) : Prop :=
  CallV P f args [] 0 (fun v h' nx' => v = .osl 0 sz 0 n ∧ h' = [(0, some (.arr fr ex ty sz rows))] ∧ nx' = 1)
theorem callV_own {P : Program} {f : FuncId} {args args0 : List V} {h : Heap} {nx n sz : Nat} {fr ex : Bool} {ty : TypeId} {rows : List (List V)} {K : V → Heap → Nat → Prop} (Z : List Nat) (hc : OCon P f args0 fr ex ty sz n rows)
    (ha : LeL h nx id 0 Z args args0) (hcold : ∀ v ∈ args0, Cold v) (hz : ∀ z ∈ Z, hget h z ≠ none) (hrows : ∀ x ∈ rows, ∀ v ∈ x, Free v ∧ Fresh v)
    (hK : K (.osl nx sz 0 n) ((nx, some (.arr fr ex ty sz rows)) :: h) (nx + 1)) : CallV P f args h nx K := by
  refine ⟨hc.1, fun G w us hr hv => ?_⟩
  have hl : LeH 0 h nx id 0 Z [] := ⟨fun b blk hb => by simp [hget] at hb, fun b b' hb => by simp [hget] at hb, fun b hb => by omega, Nat.le_refl _, hz⟩
  obtain ⟨hr0, _⟩ := hl.ok hr
  have hr0' : HR ⟨(G.to id 0 Z).ι, (G.to id 0 Z).amb, w.heap.size⟩ [] 0 w := ⟨hr0.amb_lt, Nat.le_refl _, hr0.dom, fun b blk hb => by simp [hget] at hb, fun b b' k k' c hb => by simp [hget] at hb, fun b k c hb => by simp [hget] at hb, hr0.lt, fun b k hb => by simp [hget] at hb⟩
  have hva : vrs ⟨(G.to id 0 Z).ι, (G.to id 0 Z).amb, w.heap.size⟩ w args0 us := by
    have := ha.vrs hr hv
    exact ⟨this.1, fun j v u hj hu => hcold v (List.mem_of_getElem? hj) _ _ _ _ _ (fun a u hi => ⟨hi.1, hi.2.1, (fun h => by cases h), hi.2.2.2⟩) (this.2 j v u hj hu)⟩
  refine (hc.2 _ w us hr0' hva).mono ?_
  rintro e w' ⟨u, v, h', nx', G1, rfl, ⟨rfl, rfl, rfl⟩, hv1, hr1, E, _⟩
  have hn0 : ∀ b, (G.to id 0 Z).ι b = none := fun b => by simp [Gh.to]
  have hB : G1.B = w.heap.size := E.B
  have hnew : ∀ b c, G1.ι b = some c → w.heap.size ≤ c := by
    intro b c hb
    rcases Nat.lt_or_ge c w.heap.size with h1 | h1
    · obtain ⟨b', hb'⟩ := E.idn b c hb h1
      rw [show (Gh.mk (G.to id 0 Z).ι (G.to id 0 Z).amb w.heap.size).ι b' = none from hn0 b'] at hb'; cases hb'
    · exact h1
  have hi : G.ι nx = none := hr.dom nx (Nat.le_refl _)
  let G' : Gh := ⟨fun b => if b = nx then G1.ι 0 else G.ι b, fun c => G.amb c ∨ (G1.amb c ∧ w.heap.size ≤ c), G.B⟩
  have hιn : G'.ι nx = G1.ι 0 := by simp [G']
  have hιo : ∀ b, b ≠ nx → G'.ι b = G.ι b := fun b hb => by simp [G', hb]
  have he : EvoA G w G' w' := fun base => ⟨E.os, E.tape, E.output, E.size, rfl, fun c hc => .inl hc, fun c hc => E.keep c (.inl hc), E.csz, fun b c _ hc => by
      by_cases e : b = nx
      · subst e; rw [hi] at hc; cases hc
      · rw [hιo b e]; exact hc, fun c hc _ => E.keepu c hc (fun b => by simp [hn0]),
    fun c hc hlt => .inl (hc.resolve_right (fun h => by omega)), fun b c hc hlt => by
      by_cases e : b = nx
      · subst e; rw [hιn] at hc; have := hnew 0 c hc; omega
      · rw [hιo b e] at hc; exact ⟨b, hc⟩⟩
  have toG : ∀ {v : V} {u : Value}, Free v ∧ Fresh v → vr G1 w' v u → vr G' w' v u := fun hf hv => by
    refine hf.1 _ _ _ _ _ (hf.2 _ _ _ (imm G' w') _ (fun a u hi => ?_) hv)
    have h3 := hi.2.2.1 rfl
    rw [hB] at h3
    exact ⟨hi.1, .inr ⟨hi.2.1, h3⟩, fun _ => Nat.le_trans hr.B_le h3, hi.2.2.2⟩
  refine ⟨u, _, _, nx + 1, G', rfl, hK, ?_, ⟨fun c hc => ?_, Nat.le_trans hr.B_le E.size, fun b hb => ?_, fun b blk hb => ?_, fun b1 b2 k1 k2 c h1 h2 h3 h4 => ?_, fun b blk c hb hc ha => ?_, fun b c hc => ?_, fun b blk hb => ?_⟩, he nx, Nat.le_succ _⟩
  · cases hv1 with
    | osl _ _ _ _ c cap m hc hz he h1 h2 =>
      exact .osl _ _ _ _ c cap m (by rw [hιn]; exact hc) hz he h1 h2
    | oslz _ _ _ A => exact .oslz _ _ _ A
  · rcases hc with hc | hc
    · exact Nat.lt_of_lt_of_le (hr.amb_lt c hc) E.size
    · exact hr1.amb_lt c hc.1
  · rw [hιo b (by omega)]; exact hr.dom b (by omega)
  · rw [hget_cons] at hb
    split at hb
    · rename_i e
      subst e; cases hb
      obtain ⟨q1, q2⟩ : BlkOk G1 w' 0 (.arr fr ex ty sz rows) := hr1.own 0 _ (by simp [hget])
      refine ⟨q1, ?_⟩
      rcases q2 with ⟨q2, q3⟩ | ⟨c, cs, e1, e2, e3, e4, e5, e6⟩
      · exact .inl ⟨by rw [hιn]; exact q2, q3⟩
      · refine .inr ⟨c, cs, by rw [hιn]; exact e1, e2, e3, e4, fun hf => Nat.le_trans hr.B_le (hnew 0 c e1), fun j v hj => ?_⟩
        obtain ⟨u, hu, h1, hvr⟩ := e6 j v hj
        obtain ⟨x, hx, hvx⟩ := List.mem_flatten.1 (List.mem_of_getElem? hj)
        exact ⟨u, hu, h1, toG (hrows x hx v hvx) hvr⟩
    · rename_i e
      exact (hr.own b blk hb).keep he (fun c hc => E.keepu c (hr.lt b c hc) (fun b => by simp [hn0])) (fun hn => by rw [hιo b (Ne.symm e)]; exact hn)
  · rw [hget_cons] at h1 h2
    by_cases e1 : b1 = nx <;> by_cases e2 : b2 = nx
    · omega
    · subst e1
      rw [hιn] at h3; rw [hιo b2 e2] at h4
      have := hnew 0 c h3
      have := hr.lt b2 c h4
      omega
    · subst e2
      rw [hιn] at h4; rw [hιo b1 e1] at h3
      have := hnew 0 c h4
      have := hr.lt b1 c h3
      omega
    · rw [if_neg (Ne.symm e1)] at h1; rw [if_neg (Ne.symm e2)] at h2
      rw [hιo b1 e1] at h3; rw [hιo b2 e2] at h4
      exact hr.inj b1 b2 k1 k2 c h1 h2 h3 h4
  · by_cases e : b = nx
    · subst e
      rw [hιn] at hc
      have hge := hnew 0 c hc
      rcases ha with ha | ha
      · have := hr.amb_lt c ha; omega
      · exact hr1.apart 0 (.arr fr ex ty sz rows) c (by simp [hget]) hc ha.1
    · rw [hιo b e] at hc
      rw [hget_cons, if_neg (Ne.symm e)] at hb
      have := hr.lt b c hc
      rcases ha with ha | ha
      · exact hr.apart b blk c hb hc ha
      · omega
  · by_cases e : b = nx
    · subst e; rw [hιn] at hc; exact hr1.lt 0 c hc
    · rw [hιo b e] at hc; exact Nat.lt_of_lt_of_le (hr.lt b c hc) E.size
  · rw [hget_cons] at hb
    split at hb
    · omega
    · have := hr.hdom b blk hb; omega
/-- How a function ends that hands over a slice of its own. -/
theorem Ends.own {s : St} {b sz n : Nat} {fr ex : Bool} {ty : TypeId} {rows : List (List V)} (hb : hget s.h b = some (.arr fr ex ty sz rows)) (hf : ∀ x ∈ rows, ∀ v ∈ x, Free v) {n' : Nat} {rows' : List (List V)} (hn : n = n') (hr : rows = rows') :
    ∃ v1 h' nx', Ends 0 s (.osl b sz 0 n) v1 h' nx' ∧ (v1 = .osl 0 sz 0 n' ∧ h' = [(0, some (.arr fr ex ty sz rows'))] ∧ nx' = 1) := by
  subst hn; subst hr
  exact ⟨.osl 0 sz 0 n, [(0, some (.arr fr ex ty sz rows))], 1, Ends.of (fun _ => b) [] (.osl rfl (by omega)) (LeH.of ⟨⟨by omega, .inl ⟨by simp, _, hb, .arr hf⟩⟩, trivial⟩ (by simp) (fun b hb => by omega) (by omega) (by simp)), rfl, rfl, rfl⟩
/-- Ahead of a call, blocks are frozen. -/
theorem callV_freeze {P : Program} {f : FuncId} {args args' : List V} {h h' : Heap} {nx : Nat} {K : V → Heap → Nat → Prop} (Z : List Nat) (hl : LeH nx h nx id nx Z h') (ha : LeL h nx id nx Z args args') (hc : CallV P f args' h' nx K) : CallV P f args h nx K :=
  ⟨hc.1, fun G w us hr hv => by
    obtain ⟨hr', he⟩ := hl.ok hr
    refine (hc.2 _ w us hr' (ha.vrs hr hv)).mono ?_
    rintro e w' ⟨u, v, h1, nx1, G1, rfl, hK, hv1, hr1, E, hle⟩
    exact ⟨u, v, h1, nx1, G1, rfl, hK, hv1, hr1, he.trans E, hle⟩⟩
/-- A loop whose first round is its last. -/
theorem vcg_once {P : Program} {T : Tab} {N : Nat} (hT : TabOk P T) (hm : P.follows .mixedOrders = true) {rd : Bool} {base : Nat} {c : Code} {s : St} {Q : Ex → St → Prop} (h : vcg P T N base rd c s (thenK (fun _ => False) Q)) : ∀ F, FW F → (rd = false → F.round = none) → VC P F N base (.loop c) s Q :=
  fun F hF hrd => vc_loop (fun _ : Unit => s) (fun _ => 0) () (Wk.refl _ _ _) fun _ => (vcg_ok hT hm hF hrd h).mono fun e s hq => by
    cases e with
    | normal => exact hq.elim
    | exit id => exact hq
    | goto id => exact hq
    | ret => exact hq
end Go.Proofs.Ytcfkendgjinmiaa
