/- Frames: a contract that speaks of no heap, or of one variable, used anywhere. -/
import Derived.Test.YtcfkendgjinmiaaVM
set_option linter.unusedVariables false
set_option linter.unusedSimpArgs false
namespace Go.Proofs.Ytcfkendgjinmiaa
open Go.RowKit

/-- A PURE CONTRACT. -/
def PCon (P : Program) (f : FuncId) (args : List V) (v : V) : Prop := CallV P f args [] 0 (fun v' h' nx' => v' = v ∧ h' = [] ∧ nx' = 0)

theorem LeL.vrs {h : Heap} {nx nx' : Nat} {ρ : Nat → Nat} {Z : List Nat} {cs cs' : List V} (hl : LeL h nx ρ nx' Z cs cs') {G : Gh} {w : World} {us : List Value} (hr : HR G h nx w) (hv : vrs G w cs us) : vrs (G.to ρ nx' Z) w cs' us := by
  obtain ⟨h1, h2⟩ := hl.out
  refine ⟨h1.symm.trans hv.1, fun j v' u hj hu => ?_⟩
  have hlt : j < cs.length := by rw [h1]; exact (List.getElem?_eq_some_iff.1 hj).1
  exact h2 j _ v' (List.getElem?_eq_getElem hlt) hj G w u hr (hv.2 j _ u (List.getElem?_eq_getElem hlt) hu)

theorem pureV_pure {P : Program} {f : FuncId} {args args0 : List V} {v0 : V} {h : Heap} {nx : Nat} (hc : PCon P f args0 v0) (ha : LeL h nx id 0 [] args args0) : PureV P f args v0 h nx := by
  refine ⟨hc.1, fun G w us hr hv => ?_⟩
  have hl : LeH 0 h nx id 0 [] [] := ⟨fun b blk hb => by simp [hget] at hb, fun b b' hb => by simp [hget] at hb, fun b hb => by omega, Nat.le_refl _, by simp⟩
  obtain ⟨hr0, _⟩ := hl.ok hr
  refine (hc.2 _ w us hr0 (ha.vrs hr hv)).mono ?_
  rintro e w' ⟨u, v, h', nx', G1, rfl, ⟨rfl, rfl, rfl⟩, hv1, hr1, E, _⟩
  have hn0 : ∀ b, (G.to id 0 []).ι b = none := fun b => by simp [Gh.to]
  have hn1 : ∀ b, G1.ι b = none := fun b => hr1.dom b (Nat.zero_le _)
  have hB : G1.B = G.B := E.B
  have ham : ∀ c, G1.amb c → c < w.heap.size → G.amb c := by
    intro c hc hlt
    rcases E.ambn c hc hlt with (h1 | ⟨_, h1, _⟩) | ⟨b, h1⟩
    · exact h1
    · simp at h1
    · rw [hn0] at h1; cases h1
  have he : EvoA G w ⟨G.ι, G1.amb, G.B⟩ w' := fun base => ⟨E.os, E.tape, E.output, E.size, rfl, fun c hc => E.amb c (.inl hc), fun c hc => E.keep c (.inl hc), E.csz, fun _ _ _ hc => hc, fun c hc _ => E.keepu c hc (fun b => by rw [hn0]; simp),
    fun c hc hlt => .inl (ham c hc hlt), fun b c hc _ => ⟨b, hc⟩⟩
  refine ⟨u, ⟨G.ι, G1.amb, G.B⟩, rfl, ?_, ⟨hr1.amb_lt, Nat.le_trans hr.B_le E.size, hr.dom, fun b blk hb => ?_, hr.inj, fun b blk c hb hc ha => ?_, fun b c hc => Nat.lt_of_lt_of_le (hr.lt b c hc) E.size, hr.hdom⟩, he, rfl⟩
  · exact VR.mono (ι := G1.ι) (imm := imm G1 w') (fun b c hb => by rw [hn1] at hb; cases hb) (fun _ _ h => h) (fun fr a u hi => ⟨hi.1, hi.2.1, fun hf => by have := hi.2.2.1 hf; rw [hB] at this; exact this, hi.2.2.2⟩) hv1
  · exact (hr.own b blk hb).keep he (fun c hc => E.keepu c (hr.lt b c hc) (fun b => by rw [hn0]; simp)) (fun hn => hn)
  · exact hr.apart b blk c hb hc (ham c ha (hr.lt b c hc))

/-- A value of which nothing is told to be fresh. -/
def Cold (v : V) : Prop := ∀ (ι z : Nat → Option Nat) (im im' : Bool → Addr → Value → Prop) (u : Value), (∀ a u, im false a u → im' false a u) → VR ι z im v u → VR ι z im' v u
theorem Cold.int {k n} : Cold (.int k n) := fun _ _ _ _ _ _ h => by cases h; exact .int _ _
theorem Cold.bool {b} : Cold (.bool b) := fun _ _ _ _ _ _ h => by cases h; exact .bool _
theorem Cold.str {b} : Cold (.str b) := fun _ _ _ _ _ _ h => by cases h; exact .str _
theorem Cold.snil : Cold .snil := fun _ _ _ _ _ _ h => by cases h; exact .snil _
theorem Cold.any : Cold .any := fun _ _ _ _ _ _ h => .any _
theorem Cold.nilp : Cold .nilp := fun _ _ _ _ _ _ h => by cases h; exact .nilp
theorem Cold.nili : Cold .nili := fun _ _ _ _ _ _ h => by cases h; exact .nili
theorem Cold.nilf : Cold .nilf := fun _ _ _ _ _ _ h => by cases h; exact .nilf
theorem Cold.agg {cs : List V} (h : ∀ v ∈ cs, Cold v) : Cold (.agg cs) := fun _ _ _ _ _ hi hv => by
  cases hv with
  | agg _ us hl h1 => exact .agg _ us hl fun j v u hj hu => h v (List.mem_of_getElem? hj) _ _ _ _ _ hi (h1 j v u hj hu)
theorem Cold.tup {cs : List V} (h : ∀ v ∈ cs, Cold v) : Cold (.tup cs) := fun _ _ _ _ _ hi hv => by
  cases hv with
  | tup _ us hl h1 => exact .tup _ us hl fun j v u hj hu => h v (List.mem_of_getElem? hj) _ _ _ _ _ hi (h1 j v u hj hu)
theorem Cold.fn {f} {fs cs : List V} (h1 : ∀ v ∈ fs, Cold v) (h2 : ∀ v ∈ cs, Cold v) : Cold (.fn f fs cs) := fun _ _ _ _ _ hi hv => by
  cases hv with
  | fn _ _ _ us ws q1 q2 q3 q4 => exact .fn _ _ _ us ws q1 q2 (fun j v u hj hu => h1 v (List.mem_of_getElem? hj) _ _ _ _ _ hi (q3 j v u hj hu)) (fun j v u hj hu => h2 v (List.mem_of_getElem? hj) _ _ _ _ _ hi (q4 j v u hj hu))
theorem Cold.sl {sz} {xs : List (List V)} (h : ∀ x ∈ xs, ∀ v ∈ x, Cold v) : Cold (.sl false sz xs) := fun _ _ _ _ _ hi hv => by
  cases hv with
  | sl _ _ _ A cap us hcap hm hA hrow hc hv =>
    exact .sl _ _ _ A cap us hcap hm hA hrow (fun j v hj ad ha => hi _ _ (hc j v hj ad ha)) fun j v hj => by
      obtain ⟨x, hx, hvx⟩ := List.mem_flatten.1 (List.mem_of_getElem? hj)
      exact h x hx v hvx _ _ _ _ _ hi (hv j v hj)
theorem Cold.iptr {cs : List V} (h : ∀ v ∈ cs, Cold v) : Cold (.iptr false cs) := fun _ _ _ _ _ hi hv => by
  cases hv with
  | iptr _ _ ad us hs hc hv =>
    exact .iptr _ _ ad us hs (fun j v hj => hi _ _ (hc j v hj)) fun j v hj => h v (List.mem_of_getElem? hj) _ _ _ _ _ hi (hv j v hj)

/-- A PURE CONTRACT, ITS ARGUMENTS LENT: what is answered is fresh. -/
theorem pureV_lend {P : Program} {f : FuncId} {args args0 : List V} {v0 : V} {h : Heap} {nx : Nat} (Z : List Nat) (hc : PCon P f args0 v0) (ha : LeL h nx id 0 Z args args0) (hcold : ∀ v ∈ args0, Cold v) (hz : ∀ z ∈ Z, hget h z ≠ none)
    (hf : Fresh v0) : PureV P f args v0 h nx := by
  refine ⟨hc.1, fun G w us hr hv => ?_⟩
  have hl : LeH 0 h nx id 0 Z [] := ⟨fun b blk hb => by simp [hget] at hb, fun b b' hb => by simp [hget] at hb, fun b hb => by omega, Nat.le_refl _, hz⟩
  obtain ⟨hr0, _⟩ := hl.ok hr
  have hr0' : HR ⟨(G.to id 0 Z).ι, (G.to id 0 Z).amb, w.heap.size⟩ [] 0 w := ⟨hr0.amb_lt, Nat.le_refl _, hr0.dom, fun b blk hb => by simp [hget] at hb, fun b b' k k' c hb => by simp [hget] at hb, fun b k c hb => by simp [hget] at hb, hr0.lt, fun b k hb => by simp [hget] at hb⟩
  have hva : vrs ⟨(G.to id 0 Z).ι, (G.to id 0 Z).amb, w.heap.size⟩ w args0 us := by
    have := ha.vrs hr hv
    exact ⟨this.1, fun j v u hj hu => hcold v (List.mem_of_getElem? hj) _ _ _ _ _ (fun a u hi => ⟨hi.1, hi.2.1, (fun h => by cases h), hi.2.2.2⟩) (this.2 j v u hj hu)⟩
  refine (hc.2 _ w us hr0' hva).mono ?_
  rintro e w' ⟨u, v, h', nx', G1, rfl, ⟨rfl, rfl, rfl⟩, hv1, hr1, E, _⟩
  have hn0 : ∀ b, (G.to id 0 Z).ι b = none := fun b => by simp [Gh.to]
  have hn1 : ∀ b, G1.ι b = none := fun b => hr1.dom b (Nat.zero_le _)
  have hB : G1.B = w.heap.size := E.B
  have he : EvoA G w ⟨G.ι, fun c => G.amb c ∨ (G1.amb c ∧ w.heap.size ≤ c), G.B⟩ w' := fun base => ⟨E.os, E.tape, E.output, E.size, rfl, fun c hc => .inl hc, fun c hc => E.keep c (.inl hc), E.csz, fun _ _ _ hc => hc, fun c hc _ => E.keepu c hc (fun b => by simp [hn0]),
    fun c hc hlt => .inl (hc.resolve_right (fun h => by omega)), fun b c hc _ => ⟨b, hc⟩⟩
  refine ⟨u, ⟨G.ι, fun c => G.amb c ∨ (G1.amb c ∧ w.heap.size ≤ c), G.B⟩, rfl, ?_, ⟨fun c hc => ?_, Nat.le_trans hr.B_le E.size, hr.dom, fun b blk hb => ?_, hr.inj, fun b blk c hb hc ha => ?_, fun b c hc => Nat.lt_of_lt_of_le (hr.lt b c hc) E.size, hr.hdom⟩, he, rfl⟩
  · have h1 := hf _ _ _ (imm ⟨G.ι, fun c => G.amb c ∨ (G1.amb c ∧ w.heap.size ≤ c), G.B⟩ w') _ (fun a u hi => by
      have h3 := hi.2.2.1 rfl
      rw [hB] at h3
      exact ⟨hi.1, .inr ⟨hi.2.1, h3⟩, fun _ => Nat.le_trans hr.B_le h3, hi.2.2.2⟩) hv1
    exact VR.mono (ι := G1.ι) (fun b c hb => by rw [hn1] at hb; cases hb) (fun _ _ h => h) (fun _ _ _ h => h) h1
  · rcases hc with hc | hc
    · exact Nat.lt_of_lt_of_le (hr.amb_lt c hc) E.size
    · exact hr1.amb_lt c hc.1
  · exact (hr.own b blk hb).keep he (fun c hc => E.keepu c (hr.lt b c hc) (fun b => by simp [hn0])) (fun hn => hn)
  · have := hr.lt b c hc
    rcases ha with ha | ha
    · exact hr.apart b blk c hb hc ha
    · omega

theorem callV_pure {P : Program} {f : FuncId} {args args0 : List V} {v0 : V} {h : Heap} {nx : Nat} {K : V → Heap → Nat → Prop} (hc : PCon P f args0 v0) (ha : LeL h nx id 0 [] args args0) (hK : K v0 h nx) : CallV P f args h nx K := (pureV_pure hc ha).call hK
theorem callV_lend {P : Program} {f : FuncId} {args args0 : List V} {v0 : V} {h : Heap} {nx : Nat} {K : V → Heap → Nat → Prop} (Z : List Nat) (hc : PCon P f args0 v0) (ha : LeL h nx id 0 Z args args0) (hcold : ∀ v ∈ args0, Cold v) (hz : ∀ z ∈ Z, hget h z ≠ none)
    (hf : Fresh v0) (hK : K v0 h nx) : CallV P f args h nx K := (pureV_lend Z hc ha hcold hz hf).call hK

/-- A CONTRACT OF ONE VARIABLE: it lies at id 0 there, at b here. -/
theorem callV_ptr {P : Program} {f : FuncId} {args args0 : List V} {R : V → List V → Prop} {h : Heap} {nx b : Nat} {fr : Bool} {ty : TypeId} {cells : List V} {K : V → Heap → Nat → Prop}
    (hc : CallV P f args0 [(0, some (.var fr ty cells))] 1 (fun v' h' nx' => ∃ cells', R v' cells' ∧ h' = [(0, some (.var fr ty cells'))] ∧ nx' = 1))
    (hb : hget h b = some (.var fr ty cells)) (hcells : ∀ v ∈ cells, Free v) (ha : LeL h nx (fun _ => b) 1 [] args args0)
    (hR : ∀ v' cells', R v' cells' → Free v' ∧ (∀ v ∈ cells', Free v) ∧ K v' ((b, some (.var fr ty cells')) :: h) nx) : CallV P f args h nx K := by
  refine ⟨hc.1, fun G w us hr hv => ?_⟩
  have hl : LeH 0 h nx (fun _ => b) 1 [] [(0, some (.var fr ty cells))] := ⟨fun b' blk hb' => by
      rw [hget_cons] at hb'
      split at hb'
      · rename_i e; subst e; cases hb'
        refine ⟨by omega, .inl ⟨by simp, _, hb, id, rfl, ?_⟩⟩
        clear hc hb hv ha hR hr
        induction cells with
        | nil => trivial
        | cons v r ih => exact ⟨.free (hcells v (by simp)), ih (fun v hv => hcells v (by simp [hv]))⟩
      · simp [hget] at hb', fun b1 b2 h1 h2 _ => by
      rw [hget_cons] at h1 h2
      split at h1
      · split at h2
        · omega
        · simp [hget] at h2
      · simp [hget] at h1, fun b hb => by omega, Nat.zero_le _, by simp⟩
  obtain ⟨hr0, _⟩ := hl.ok hr
  refine (hc.2 _ w us hr0 (ha.vrs hr hv)).mono ?_
  rintro e w' ⟨u, v, h', nx', G1, rfl, ⟨cells', hR', rfl, rfl⟩, hv1, hr1, E, _⟩
  obtain ⟨hfv, hfc, hK⟩ := hR _ _ hR'
  obtain ⟨c, cs, hbc, _⟩ : Holds G w b fr true ty cells := hr.own b _ hb
  have h00 : (G.to (fun _ => b) 1 []).ι 0 = some c := by simpa [Gh.to] using hbc
  have hι0 : ∀ i c', (G.to (fun _ => b) 1 []).ι i = some c' → c' = c := by
    intro i c' hi
    simp only [Gh.to] at hi
    split at hi
    · rw [hbc] at hi; cases hi; rfl
    · cases hi
  have h10 : G1.ι 0 = some c := E.ids 0 c (by omega) h00
  have hB : G1.B = G.B := E.B
  have ham : ∀ c', G1.amb c' → c' < w.heap.size → G.amb c' ∨ c' = c := by
    intro c' hc' hlt
    rcases E.ambn c' hc' hlt with (h1 | ⟨_, h1, _⟩) | ⟨i, h1⟩
    · exact .inl h1
    · simp at h1
    · exact .inr (hι0 i c' h1)
  have hapc : ¬ G1.amb c := hr1.apart 0 (.var fr ty cells') c (by simp [hget]) h10
  have he : EvoA G w ⟨G.ι, G1.amb, G.B⟩ w' := fun base => ⟨E.os, E.tape, E.output, E.size, rfl, fun c hc => E.amb c (.inl hc), fun c hc => E.keep c (.inl hc), E.csz, fun _ _ _ hc => hc, fun c' hc hn => E.keepu c' hc (fun i hi => hn b (by rw [hbc, hι0 i c' hi])),
    fun c' hc' hlt => by
      rcases ham c' hc' hlt with h1 | rfl
      · exact .inl h1
      · exact absurd hc' hapc, fun b c hc _ => ⟨b, hc⟩⟩
  have toG : ∀ {v : V} {u : Value}, Free v → vr G1 w' v u → vr ⟨G.ι, G1.amb, G.B⟩ w' v u := fun hf hv => by
    refine hf _ _ _ _ _ (VR.mono (fun _ _ h => h) (fun _ _ h => h) (fun fr a u hi => ⟨hi.1, hi.2.1, fun hf => by have := hi.2.2.1 hf; rw [hB] at this; exact this, hi.2.2.2⟩) hv)
  have hother : ∀ b' blk c', hget h b' = some blk → G.ι b' = some c' → b ≠ b' → c' ≠ c := by
    rintro b' blk c' h1 h2 h3 rfl
    exact h3 (hr.inj b b' _ _ _ hb h1 hbc h2)
  refine ⟨u, v, _, nx, ⟨G.ι, G1.amb, G.B⟩, rfl, hK, toG hfv hv1, ⟨hr1.amb_lt, Nat.le_trans hr.B_le E.size, hr.dom, fun b' blk hb' => ?_, fun b1 b2 k1 k2 c' h1 h2 h3 h4 => ?_, fun b' blk c' hb' hc' ha => ?_, fun b c hc => Nat.lt_of_lt_of_le (hr.lt b c hc) E.size, fun b' blk hb' => ?_⟩, he nx, Nat.le_refl _⟩
  · rw [hget_cons] at hb'
    split at hb'
    · rename_i e; subst e; cases hb'
      obtain ⟨c2, cs2, q1, q2, q3, q4, q5, q6⟩ : Holds G1 w' 0 fr true ty cells' := hr1.own 0 (.var fr ty cells') (by simp [hget])
      rw [h10] at q1
      obtain rfl : c = c2 := Option.some.inj q1
      refine ⟨c, cs2, hbc, q2, q3, q4, fun hf => by have := q5 hf; rw [hB] at this; exact this, fun j v hj => ?_⟩
      obtain ⟨u, hu, h1, hvr⟩ := q6 j v hj
      exact ⟨u, hu, h1, toG (hfc v (List.mem_of_getElem? hj)) hvr⟩
    · rename_i e
      exact (hr.own b' blk hb').keep he (fun c' hc' => E.keepu c' (hr.lt b' c' hc') (fun i hi => hother b' blk c' hb' hc' e (hι0 i c' hi))) (fun hn => hn)
  · have live : ∀ {b' k}, hget ((b, some (.var fr ty cells')) :: h) b' = some k → ∃ k', hget h b' = some k' := by
      intro b' k hk
      rw [hget_cons] at hk
      split at hk
      · rename_i e; subst e; exact ⟨_, hb⟩
      · exact ⟨k, hk⟩
    obtain ⟨_, q1⟩ := live h1
    obtain ⟨_, q2⟩ := live h2
    exact hr.inj b1 b2 _ _ c' q1 q2 h3 h4
  · rw [hget_cons] at hb'
    split at hb'
    · rename_i e; subst e
      rw [hbc] at hc'; cases hc'
      exact hapc ha
    · rename_i e
      rcases ham c' ha (hr.lt b' c' hc') with h1 | h1
      · exact hr.apart b' blk c' hb' hc' h1
      · exact hother b' blk c' hb' hc' e h1
  · rw [hget_cons] at hb'
    split at hb'
    · rename_i e; subst e; exact hr.hdom b _ hb
    · exact hr.hdom b' blk hb'
end Go.Proofs.Ytcfkendgjinmiaa
