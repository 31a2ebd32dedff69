/- States that tell less; freezing; how calls end; frames. -/
import Derived.Test.YtcfkendgjinmiaaVL
set_option linter.unusedVariables false
set_option linter.unusedSimpArgs false
namespace Go.Proofs.Ytcfkendgjinmiaa
open Go.RowKit

/-- Ids anew (ρ tells the old one's), none from nx on; what Z names never turns again. -/
def Gh.to (G : Gh) (ρ : Nat → Nat) (nx : Nat) (Z : List Nat) : Gh :=
  ⟨fun b => if b < nx then G.ι (ρ b) else none, fun c => G.amb c ∨ ∃ b, b ∈ Z ∧ G.ι b = some c, G.B⟩

/-- A value tells no more than another one, of which ids are named anew and blocks frozen. -/
def LeV (h : Heap) (nx : Nat) (ρ : Nat → Nat) (nx' : Nat) (Z : List Nat) (v v' : V) : Prop :=
  ∀ (G : Gh) (w : World) (u : Value), HR G h nx w → vr G w v u → vr (G.to ρ nx' Z) w v' u
/-- A value without ids. -/
def Free (v : V) : Prop := ∀ (ι ι' z : Nat → Option Nat) (im : Bool → Addr → Value → Prop) (u : Value), VR ι z im v u → VR ι' z im v u
/-- A value all of whose memory is fresh. -/
def Fresh (v : V) : Prop := ∀ (ι z : Nat → Option Nat) (im im' : Bool → Addr → Value → Prop) (u : Value), (∀ a u, im true a u → im' true a u) → VR ι z im v u → VR ι z im' v u
/-- v tells all that v' tells (less may be told to be fresh). -/
def Less (v v' : V) : Prop := ∀ (ι z : Nat → Option Nat) (im : Bool → Addr → Value → Prop) (u : Value), (∀ a u, im true a u → im false a u) → VR ι z im v u → VR ι z im v' u

section free
theorem Free.int {k n} : Free (.int k n) := fun _ _ _ _ _ h => by cases h; exact .int _ _
theorem Free.bool {b} : Free (.bool b) := fun _ _ _ _ _ h => by cases h; exact .bool _
theorem Free.str {b} : Free (.str b) := fun _ _ _ _ _ h => by cases h; exact .str _
theorem Free.any : Free .any := fun _ _ _ _ _ h => .any _
theorem Free.snil : Free .snil := fun _ _ _ _ _ h => by cases h; exact .snil _
theorem Free.nilp : Free .nilp := fun _ _ _ _ _ h => by cases h; exact .nilp
theorem Free.nilf : Free .nilf := fun _ _ _ _ _ h => by cases h; exact .nilf
theorem Free.nili : Free .nili := fun _ _ _ _ _ h => by cases h; exact .nili
theorem Free.agg {cs : List V} (h : ∀ v ∈ cs, Free v) : Free (.agg cs) := fun _ _ _ _ _ hv => by
  cases hv with
  | agg _ us hl h1 => exact .agg _ us hl fun j v u hj hu => h v (List.mem_of_getElem? hj) _ _ _ _ _ (h1 j v u hj hu)
theorem Free.tup {cs : List V} (h : ∀ v ∈ cs, Free v) : Free (.tup cs) := fun _ _ _ _ _ hv => by
  cases hv with
  | tup _ us hl h1 => exact .tup _ us hl fun j v u hj hu => h v (List.mem_of_getElem? hj) _ _ _ _ _ (h1 j v u hj hu)
theorem Free.sl {fr sz} {xs : List (List V)} (h : ∀ x ∈ xs, ∀ v ∈ x, Free v) : Free (.sl fr sz xs) := fun _ _ _ _ _ hv => by
  cases hv with
  | sl _ _ _ A cap us hcap hm hA hrow hc hv =>
    exact .sl _ _ _ A cap us hcap hm hA hrow hc fun j v hj => by
      obtain ⟨x, hx, hvx⟩ := List.mem_flatten.1 (List.mem_of_getElem? hj)
      exact h x hx v hvx _ _ _ _ _ (hv j v hj)
theorem Free.iptr {fr} {cs : List V} (h : ∀ v ∈ cs, Free v) : Free (.iptr fr cs) := fun _ _ _ _ _ hv => by
  cases hv with
  | iptr _ _ ad us hs hc hv => exact .iptr _ _ ad us hs hc fun j v hj => h v (List.mem_of_getElem? hj) _ _ _ _ _ (hv j v hj)
theorem Free.fn {f} {fs cs : List V} (h1 : ∀ v ∈ fs, Free v) (h2 : ∀ v ∈ cs, Free v) : Free (.fn f fs cs) := fun _ _ _ _ _ hv => by
  cases hv with
  | fn _ _ _ us ws q1 q2 q3 q4 => exact .fn _ _ _ us ws q1 q2 (fun j v u hj hu => h1 v (List.mem_of_getElem? hj) _ _ _ _ _ (q3 j v u hj hu)) (fun j v u hj hu => h2 v (List.mem_of_getElem? hj) _ _ _ _ _ (q4 j v u hj hu))
theorem Free.ifc {t v} (h : Free v) : Free (.ifc t v) := fun _ _ _ _ _ hv => by
  cases hv with
  | ifc _ _ u h1 => exact .ifc _ _ u (h _ _ _ _ _ h1)
theorem Free.opt {c v} (h : Free v) : Free (.opt c v) := fun _ _ _ _ _ hv => by
  cases hv with
  | opt _ _ _ h1 h0 => exact .opt _ _ _ (fun hc => h _ _ _ _ _ (h1 hc)) h0
theorem Fresh.int {k n} : Fresh (.int k n) := fun _ _ _ _ _ _ h => by cases h; exact .int _ _
theorem Fresh.bool {b} : Fresh (.bool b) := fun _ _ _ _ _ _ h => by cases h; exact .bool _
theorem Fresh.str {b} : Fresh (.str b) := fun _ _ _ _ _ _ h => by cases h; exact .str _
theorem Fresh.snil : Fresh .snil := fun _ _ _ _ _ _ h => by cases h; exact .snil _
theorem Fresh.any : Fresh .any := fun _ _ _ _ _ _ h => .any _
theorem Fresh.nilp : Fresh .nilp := fun _ _ _ _ _ _ h => by cases h; exact .nilp
theorem Fresh.nili : Fresh .nili := fun _ _ _ _ _ _ h => by cases h; exact .nili
theorem Fresh.agg {cs : List V} (h : ∀ v ∈ cs, Fresh v) : Fresh (.agg cs) := fun _ _ _ _ _ hi hv => by
  cases hv with
  | agg _ us hl h1 => exact .agg _ us hl fun j v u hj hu => h v (List.mem_of_getElem? hj) _ _ _ _ _ hi (h1 j v u hj hu)
theorem Fresh.tup {cs : List V} (h : ∀ v ∈ cs, Fresh v) : Fresh (.tup cs) := fun _ _ _ _ _ hi hv => by
  cases hv with
  | tup _ us hl h1 => exact .tup _ us hl fun j v u hj hu => h v (List.mem_of_getElem? hj) _ _ _ _ _ hi (h1 j v u hj hu)
theorem Fresh.sl {sz} {xs : List (List V)} (h : ∀ x ∈ xs, ∀ v ∈ x, Fresh v) : Fresh (.sl true sz xs) := fun _ _ _ _ _ hi hv => by
  cases hv with
  | sl _ _ _ A cap us hcap hm hA hrow hc hv =>
    exact .sl _ _ _ A cap us hcap hm hA hrow (fun j v hj ad ha => hi _ _ (hc j v hj ad ha)) fun j v hj => by
      obtain ⟨x, hx, hvx⟩ := List.mem_flatten.1 (List.mem_of_getElem? hj)
      exact h x hx v hvx _ _ _ _ _ hi (hv j v hj)
theorem Less.refl (v : V) : Less v v := fun _ _ _ _ _ h => h
theorem Less.to_any (v : V) : Less v .any := fun _ _ _ _ _ h => .any _
theorem Less.agg {cs cs' : List V} (hl : cs.length = cs'.length) (h : ∀ (j : Nat) (v v' : V), cs[j]? = some v → cs'[j]? = some v' → Less v v') : Less (.agg cs) (.agg cs') := fun _ _ _ _ hi hv => by
  cases hv with
  | agg _ us hl' h1 =>
    exact .agg _ us (hl ▸ hl') fun j v' u hj hu => by
      have hlt : j < cs.length := by rw [hl]; exact (List.getElem?_eq_some_iff.1 hj).1
      exact h j _ v' (List.getElem?_eq_getElem hlt) hj _ _ _ _ hi (h1 j _ u (List.getElem?_eq_getElem hlt) hu)
theorem Less.agg2 {v v' : V} {cs cs' : List V} (h : Less v v') (hs : Less (.agg cs) (.agg cs')) : Less (.agg (v :: cs)) (.agg (v' :: cs')) := fun ι z im u hi hv => by
  cases hv with
  | agg _ us hl h1 =>
    cases us with
    | nil => simp at hl
    | cons u us =>
      have hv := h ι z im u hi (h1 0 v u rfl rfl)
      have hrest := hs ι z im (.agg us.toArray) hi (.agg cs us (by simpa using hl) fun j v u hj hu => h1 (j + 1) v u (by simpa using hj) (by simpa using hu))
      generalize hg : (Value.agg us.toArray) = g at hrest
      cases hrest with
      | agg _ us' hl' h2 =>
        have : us = us' := by simpa using hg
        subst this
        refine .agg _ (u :: us) (by simp [hl']) fun j v u' hj hu => ?_
        cases j with
        | zero => simp at hj hu; subst hj; subst hu; exact hv
        | succ j => exact h2 j v u' (by simpa using hj) (by simpa using hu)
theorem Less.sl {fr fr' sz} {xs xs' : List (List V)} (hf : fr' = true → fr = true) (hl : xs.map List.length = xs'.map List.length) (h : ∀ (j : Nat) (v v' : V), xs.flatten[j]? = some v → xs'.flatten[j]? = some v' → Less v v') : Less (.sl fr sz xs) (.sl fr' sz xs') := fun ι z im u hi hv => by
  have hlen : xs.length = xs'.length := by simpa using congrArg List.length hl
  have hfl : xs.flatten.length = xs'.flatten.length := by rw [List.length_flatten, List.length_flatten, hl]
  cases hv with
  | sl _ _ _ A cap us hcap hm hA hrow hc hv =>
    have hrow' : ∀ x, x ∈ xs' → x.length = sz := by
      intro x hx
      have : x.length ∈ xs'.map List.length := List.mem_map_of_mem hx
      rw [← hl] at this
      obtain ⟨y, hy, e⟩ := List.mem_map.1 this
      rw [← e]; exact hrow y hy
    have hat : ∀ (j : Nat) (v' : V), xs'.flatten[j]? = some v' → ∃ v, xs.flatten[j]? = some v := fun j v' hj => by
      have hlt : j < xs.flatten.length := by rw [hfl]; exact (List.getElem?_eq_some_iff.1 hj).1
      exact ⟨_, List.getElem?_eq_getElem hlt⟩
    have := VR.sl (ι := ι) (csz := z) (imm := im) fr' sz xs' A cap us (by omega) hm (fun hne => hA (by
        intro e; subst e; apply hne; exact List.eq_nil_of_length_eq_zero (by simpa using hlen.symm))) hrow' (fun j v' hj ad ha => by
        obtain ⟨v, hv⟩ := hat j v' hj
        have h1 := hc j v hv ad ha
        cases fr' with
        | true => rw [hf rfl] at h1; exact h1
        | false => cases fr with
          | false => exact h1
          | true => exact hi _ _ h1) (fun j v' hj => by
        obtain ⟨v, hv'⟩ := hat j v' hj
        exact h j v v' hv' hj _ _ _ _ hi (hv j v hv'))
    rw [← hlen] at this
    exact this
end free

section le
variable {h : Heap} {nx nx' : Nat} {ρ : Nat → Nat} {Z : List Nat}
theorem imm_to {G : Gh} {w : World} {fr : Bool} {a : Addr} {u : Value} (hi : imm G w fr a u) : imm (G.to ρ nx' Z) w fr a u := ⟨hi.1, .inl hi.2.1, hi.2.2⟩
theorem LeV.to_any {v : V} : LeV h nx ρ nx' Z v .any := fun _ _ _ _ _ => .any _
theorem LeV.free {v : V} (hf : Free v) : LeV h nx ρ nx' Z v v := fun G w u hr hv => hf _ _ _ _ _ (VR.mono (ι' := G.ι) (fun _ _ h => h) (fun _ _ h => h) (fun _ _ _ hi => imm_to hi) hv)
theorem LeV.less {v v1 v2 : V} (h1 : LeV h nx ρ nx' Z v v1) (h2 : Less v1 v2) : LeV h nx ρ nx' Z v v2 := fun G w u hr hv => h2 _ _ _ _ (fun _ _ hi => ⟨hi.1, hi.2.1, (fun h => by cases h), hi.2.2.2⟩) (h1 G w u hr hv)
theorem LeV.ptr {b b' col : Nat} (hb : ρ b' = b) (hn : b' < nx') : LeV h nx ρ nx' Z (.ptr b col) (.ptr b' col) := fun G w u hr hv => by
  cases hv with
  | ptr _ _ c hc => exact .ptr _ _ c (by simp only [Gh.to, hn, if_true, hb]; exact hc)
theorem LeV.eptr {b b' sz row col : Nat} (hb : ρ b' = b) (hn : b' < nx') : LeV h nx ρ nx' Z (.eptr b sz row col) (.eptr b' sz row col) := fun G w u hr hv => by
  cases hv with
  | eptr _ _ _ _ c hc => exact .eptr _ _ _ _ c (by simp only [Gh.to, hn, if_true, hb]; exact hc)
theorem LeV.yld {b b' : Nat} (hb : ρ b' = b) (hn : b' < nx') : LeV h nx ρ nx' Z (.yld b) (.yld b') := fun G w u hr hv => by
  cases hv with
  | yld _ c hc => exact .yld _ c (by simp only [Gh.to, hn, if_true, hb]; exact hc)
theorem LeV.osl {b b' sz row n : Nat} (hb : ρ b' = b) (hn : b' < nx') : LeV h nx ρ nx' Z (.osl b sz row n) (.osl b' sz row n) := fun G w u hr hv => by
  cases hv with
  | osl _ _ _ _ c cap m hc hz he h1 h2 => exact .osl _ _ _ _ c cap m (by simp only [Gh.to, hn, if_true, hb]; exact hc) hz he h1 h2
  | oslz _ _ _ A => exact .oslz _ _ _ A
theorem LeV.osl0 {b sz row : Nat} : LeV h nx ρ nx' Z .snil (.osl b sz row 0) := fun G w u hr hv => by
  cases hv with
  | snil A => exact .oslz _ _ _ A
theorem LeV.agg {cs cs' : List V} (hl : cs.length = cs'.length) (h1 : ∀ (j : Nat) (v v' : V), cs[j]? = some v → cs'[j]? = some v' → LeV h nx ρ nx' Z v v') : LeV h nx ρ nx' Z (.agg cs) (.agg cs') := fun G w u hr hv => by
  cases hv with
  | agg _ us hl' hv =>
    exact .agg _ us (hl ▸ hl') fun j v' u hj hu => by
      have hlt : j < cs.length := by rw [hl]; exact (List.getElem?_eq_some_iff.1 hj).1
      exact h1 j _ v' (List.getElem?_eq_getElem hlt) hj G w u hr (hv j _ u (List.getElem?_eq_getElem hlt) hu)
theorem LeV.tup {cs cs' : List V} (hl : cs.length = cs'.length) (h1 : ∀ (j : Nat) (v v' : V), cs[j]? = some v → cs'[j]? = some v' → LeV h nx ρ nx' Z v v') : LeV h nx ρ nx' Z (.tup cs) (.tup cs') := fun G w u hr hv => by
  cases hv with
  | tup _ us hl' hv =>
    exact .tup _ us (hl ▸ hl') fun j v' u hj hu => by
      have hlt : j < cs.length := by rw [hl]; exact (List.getElem?_eq_some_iff.1 hj).1
      exact h1 j _ v' (List.getElem?_eq_getElem hlt) hj G w u hr (hv j _ u (List.getElem?_eq_getElem hlt) hu)
/-- Pointwise. -/
def LeL (h : Heap) (nx : Nat) (ρ : Nat → Nat) (nx' : Nat) (Z : List Nat) : List V → List V → Prop
  | [], [] => True
  | v :: r, v' :: r' => LeV h nx ρ nx' Z v v' ∧ LeL h nx ρ nx' Z r r'
  | _, _ => False
theorem LeL.out : ∀ {cs cs' : List V}, LeL h nx ρ nx' Z cs cs' → cs.length = cs'.length ∧ ∀ (j : Nat) (v v' : V), cs[j]? = some v → cs'[j]? = some v' → LeV h nx ρ nx' Z v v'
  | [], [], _ => ⟨rfl, by simp⟩
  | v :: r, v' :: r', hh => by
    obtain ⟨h1, h2⟩ := LeL.out hh.2
    refine ⟨by simp [h1], fun j a b ha hb => ?_⟩
    cases j with
    | zero => simp at ha hb; subst ha; subst hb; exact hh.1
    | succ j => exact h2 j a b (by simpa using ha) (by simpa using hb)
  | [], _ :: _, hh => hh.elim
  | _ :: _, [], hh => hh.elim
theorem LeV.aggL {cs cs' : List V} (hl : LeL h nx ρ nx' Z cs cs') : LeV h nx ρ nx' Z (.agg cs) (.agg cs') := .agg hl.out.1 hl.out.2
theorem LeV.tupL {cs cs' : List V} (hl : LeL h nx ρ nx' Z cs cs') : LeV h nx ρ nx' Z (.tup cs) (.tup cs') := .tup hl.out.1 hl.out.2

/-- AN OWNED SLICE, FROZEN. -/
theorem LeV.freeze {b sz row n : Nat} {fr ex : Bool} {ty : TypeId} {rows : List (List V)} (hz : b ∈ Z) (hb : hget h b = some (.arr fr ex ty sz rows)) (hn : row + n ≤ rows.length) (hf : ∀ x ∈ rows, ∀ v ∈ x, Free v) :
    LeV h nx ρ nx' Z (.osl b sz row n) (.sl fr sz ((rows.drop row).take n)) := fun G w u hr hv => by
  obtain ⟨hs, hown⟩ := hr.own b _ hb
  have hsub : ∀ x, x ∈ (rows.drop row).take n → x ∈ rows := fun x hx => List.mem_of_mem_drop (List.mem_of_mem_take hx)
  have hlen : ((rows.drop row).take n).length = n := by simp; omega
  cases hv with
  | oslz _ _ _ A => rw [show ((rows.drop row).take 0) = [] from List.take_zero]; exact .sl fr sz [] A 0 (fun _ => undef) (Nat.le_refl _) (Nat.zero_le _) (fun h => absurd rfl h) (by simp) (by simp) (by simp)
  | osl _ _ _ _ c cap m hc hz' he h1 h2 =>
    rcases hown with ⟨h0, _⟩ | ⟨c', cs, e1, hh, hle, hex, hfr, hcell⟩
    · rw [h0] at hc; cases hc
    rw [hc] at e1; cases e1
    have hfl := flatten_cells hs
    have hat : ∀ (j : Nat) (v : V), ((rows.drop row).take n).flatten[j]? = some v → rows.flatten[row * sz + j]? = some v := by
      intro j v hj
      have e : rows.flatten = (rows.take row).flatten ++ (((rows.drop row).take n).flatten ++ ((rows.drop row).drop n).flatten) := by
        rw [← List.flatten_append, List.take_append_drop, ← List.flatten_append, List.take_append_drop]
      have l : (rows.take row).flatten.length = row * sz := by rw [flatten_cells (fun x hx => hs x (List.mem_of_mem_take hx)), List.length_take, Nat.min_eq_left (by omega)]
      rw [e, List.getElem?_append_right (by omega), l, show row * sz + j - row * sz = j by omega, List.getElem?_append_left (List.getElem?_eq_some_iff.1 hj).1, hj]
    have hfree : ∀ (j : Nat) (v : V), ((rows.drop row).take n).flatten[j]? = some v → Free v := by
      intro j v hj
      obtain ⟨x, hx, hvx⟩ := List.mem_flatten.1 (List.mem_of_getElem? hj)
      exact hf x (hsub x hx) v hvx
    have := VR.sl (ι := (G.to ρ nx' Z).ι) (csz := csz w) (imm := imm (G.to ρ nx' Z) w) fr sz ((rows.drop row).take n) (some ⟨c, row * sz, none⟩) cap (fun j => cs[row * sz + j]?.getD undef) (by omega) h2
      (fun _ => ⟨_, rfl, rfl⟩) (fun x hx => hs x (hsub x hx)) (fun j v hj ad ha => by
        cases ha
        obtain ⟨u, hu, hone, _⟩ := hcell _ v (hat j v hj)
        refine ⟨by simp [World.cell?, hh, hu], .inr ⟨b, hz, hc⟩, fun hf => hfr hf, by simp [hu, hone]⟩) (fun j v hj => by
        obtain ⟨u, hu, _, hv⟩ := hcell _ v (hat j v hj)
        simp only [hu, Option.getD_some]
        exact hfree j v hj _ _ _ _ _ (VR.mono (ι' := G.ι) (fun _ _ h => h) (fun _ _ h => h) (fun _ _ _ hi => imm_to hi) hv))
    rw [hlen] at this
    exact this
/-- A pointer to an owned variable, frozen. -/
theorem LeV.freezeP {b col : Nat} {fr : Bool} {ty : TypeId} {cells : List V} (hz : b ∈ Z) (hb : hget h b = some (.var fr ty cells)) (hf : ∀ v ∈ cells, Free v) :
    LeV h nx ρ nx' Z (.ptr b col) (.iptr fr (cells.drop col)) := fun G w u hr hv => by
  have hown : Holds G w b fr true ty cells := hr.own b _ hb
  obtain ⟨c', cs, e1, hh, hle, hex, hfr, hcell⟩ := hown
  cases hv with
  | ptr _ _ c hc =>
    rw [hc] at e1
    obtain rfl : c = c' := Option.some.inj e1
    refine .iptr fr (cells.drop col) ⟨c, col, none⟩ (fun j => cs[col + j]?.getD undef) rfl (fun j v hj => ?_) (fun j v hj => ?_)
    · rw [List.getElem?_drop] at hj
      obtain ⟨u, hu, hone, _⟩ := hcell _ v hj
      exact ⟨by simp [World.cell?, hh, hu], .inr ⟨b, hz, hc⟩, fun hf => hfr hf, by simp [hu, hone]⟩
    · rw [List.getElem?_drop] at hj
      obtain ⟨u, hu, _, hv⟩ := hcell _ v hj
      simp only [hu, Option.getD_some]
      exact hf v (List.mem_of_getElem? hj) _ _ _ _ _ (VR.mono (ι' := G.ι) (fun _ _ h => h) (fun _ _ h => h) (fun _ _ _ hi => imm_to hi) hv)

theorem look_cons (j : Nat) (v : V) (r : List (Nat × V)) (i : Nat) : look ((j, v) :: r) i = if j = i then v else look r i := get_put r [] [] 0 0 j v i
/-- Each temporary of the list tells no more. -/
def leT (h : Heap) (nx : Nat) (t : List (Nat × V)) (ρ : Nat → Nat) (nx' : Nat) (Z : List Nat) : List (Nat × V) → Prop
  | [] => True
  | (i, v) :: r => LeV h nx ρ nx' Z (look t i) v ∧ leT h nx t ρ nx' Z r
theorem leT.out {t : List (Nat × V)} : ∀ {t' : List (Nat × V)}, leT h nx t ρ nx' Z t' → ∀ i, LeV h nx ρ nx' Z (look t i) (look t' i)
  | [], _, i => .to_any
  | (j, v) :: r, h, i => by
    rw [look_cons j v r i]
    split
    · rename_i e
      subst e
      exact h.1
    · exact leT.out h.2 i
/-- A block tells no more than another one. -/
def LeB (h : Heap) (nx : Nat) (ρ : Nat → Nat) (nx' : Nat) (Z : List Nat) (blk : Blk) : Blk → Prop
  | .var fr' ty' cells' => match blk with
    | .var fr ty cells => (fr' = true → fr = true) ∧ ty' = ty ∧ LeL h nx ρ nx' Z cells cells'
    | _ => False
  | .arr fr' ex' ty' sz' rows' => match blk with
    | .arr fr ex ty sz rows => (fr' = true → fr = true) ∧ (ex' = true → ex = true) ∧ ty' = ty ∧ sz' = sz ∧ rows.map List.length = rows'.map List.length ∧
        ∀ (j : Nat) (v v' : V), rows.flatten[j]? = some v → rows'.flatten[j]? = some v' → LeV h nx ρ nx' Z v v'
    | _ => False
  | .loop N' t' ps' asg' body' st' pend' => match blk with
    | .loop N t ps asg body st pend => N' = N ∧ ps' = ps ∧ asg' = asg ∧ body' = body ∧ st' = st ∧ pend' = pend ∧ leT h nx t ρ nx' Z t'
    | _ => False
theorem LeB.arr {fr ex : Bool} {ty sz : Nat} {rows : List (List V)} (hf : ∀ x ∈ rows, ∀ v ∈ x, Free v) : LeB h nx ρ nx' Z (.arr fr ex ty sz rows) (.arr fr ex ty sz rows) :=
  ⟨id, id, rfl, rfl, rfl, fun j v v' h1 h2 => by
    rw [h1] at h2; cases h2
    obtain ⟨x, hx, hvx⟩ := List.mem_flatten.1 (List.mem_of_getElem? h1)
    exact .free (hf x hx v hvx)⟩
theorem Holds.to {G : Gh} {w : World} (hr : HR G h nx w) {b b' : Nat} (hb : ρ b' = b) (hn : b' < nx') {fr fr' ex ex' : Bool} {ty : TypeId} {vs vs' : List V} (hfr : fr' = true → fr = true) (hex : ex' = true → ex = true) (hl : vs.length = vs'.length)
    (hle : ∀ (j : Nat) (v v' : V), vs[j]? = some v → vs'[j]? = some v' → LeV h nx ρ nx' Z v v') (hh : Holds G w b fr ex ty vs) : Holds (G.to ρ nx' Z) w b' fr' ex' ty vs' := by
  obtain ⟨c, cs, h1, h2, h3, h4, h5, h6⟩ := hh
  refine ⟨c, cs, by simp only [Gh.to, hn, if_true, hb]; exact h1, h2, by omega, fun he => by rw [← hl]; exact h4 (hex he), fun hf => h5 (hfr hf), fun j v' hj => ?_⟩
  have hlt : j < vs.length := by rw [hl]; exact (List.getElem?_eq_some_iff.1 hj).1
  obtain ⟨u, hu, hone, hv⟩ := h6 j _ (List.getElem?_eq_getElem hlt)
  exact ⟨u, hu, hone, hle j _ v' (List.getElem?_eq_getElem hlt) hj G w u hr hv⟩
theorem LeB.ok {G : Gh} {w : World} (hr : HR G h nx w) {b b' : Nat} (hb : ρ b' = b) (hn : b' < nx') {blk blk' : Blk} (hle : LeB h nx ρ nx' Z blk blk') (hk : BlkOk G w b blk) : BlkOk (G.to ρ nx' Z) w b' blk' := by
  cases blk' with
  | var fr' ty' cells' =>
    cases blk with
    | arr => exact hle.elim
    | loop => exact hle.elim
    | var fr ty cells =>
      obtain ⟨h1, rfl, h3⟩ := hle
      exact Holds.to hr hb hn h1 id h3.out.1 h3.out.2 hk
  | arr fr' ex' ty' sz' rows' =>
    cases blk with
    | var => exact hle.elim
    | loop => exact hle.elim
    | arr fr ex ty sz rows =>
      obtain ⟨h1, h2, rfl, rfl, h5, h6⟩ := hle
      have hfl : rows.flatten.length = rows'.flatten.length := by rw [List.length_flatten, List.length_flatten, h5]
      refine ⟨fun x hx => ?_, ?_⟩
      · have : x.length ∈ rows'.map List.length := List.mem_map_of_mem hx
        rw [← h5] at this
        obtain ⟨y, hy, e⟩ := List.mem_map.1 this
        rw [← e]; exact hk.1 y hy
      · rcases hk.2 with ⟨q1, q2⟩ | q
        · refine .inl ⟨by simp only [Gh.to, hn, if_true, hb]; exact q1, ?_⟩
          subst q2
          have := congrArg List.length h5
          exact List.eq_nil_of_length_eq_zero (by simpa using this.symm)
        · exact .inr (Holds.to hr hb hn h1 h2 hfl h6 q)
  | loop N' t' ps' asg' body' st' pend' =>
    cases blk with
    | var => exact hle.elim
    | arr => exact hle.elim
    | loop N t ps asg body st pend =>
      obtain ⟨rfl, rfl, rfl, rfl, rfl, rfl, ht⟩ := hle
      obtain ⟨c, r, h1, h2, h3, h4, h5, h6, h7, h8, h9⟩ := hk
      exact ⟨c, r, by simp only [Gh.to, hn, if_true, hb]; exact h1, h2, h3, h4, h5, h6, h7, h8, fun i => ht.out i G w _ hr (h9 i)⟩

/-- The heap of a state that tells less. -/
structure LeH (base : Nat) (h : Heap) (nx : Nat) (ρ : Nat → Nat) (nx' : Nat) (Z : List Nat) (h' : Heap) : Prop where
  blk : ∀ b blk', hget h' b = some blk' → b < nx' ∧ ((ρ b ∉ Z ∧ ∃ blk, hget h (ρ b) = some blk ∧ LeB h nx ρ nx' Z blk blk') ∨ (nx ≤ ρ b ∧ ∃ fr ex ty sz, blk' = .arr fr ex ty sz []))
  inj : ∀ b b', hget h' b ≠ none → hget h' b' ≠ none → ρ b = ρ b' → b = b'
  low : ∀ b, b < base → ρ b = b
  nx : base ≤ nx'
  froze : ∀ z, z ∈ Z → hget h z ≠ none
theorem LeH.ok {base : Nat} {h' : Heap} (hl : LeH base h nx ρ nx' Z h') {G : Gh} {w : World} (hr : HR G h nx w) : HR (G.to ρ nx' Z) h' nx' w ∧ Evo base G w (G.to ρ nx' Z) w := by
  have id' : ∀ b c, (G.to ρ nx' Z).ι b = some c → b < nx' ∧ G.ι (ρ b) = some c := by
    intro b c hc
    simp only [Gh.to] at hc
    split at hc
    · rename_i hb; exact ⟨hb, hc⟩
    · cases hc
  refine ⟨⟨fun c hc => ?_, hr.B_le, fun b hb => if_neg (by omega), fun b blk' hb => ?_, fun b b' k k' c h1 h2 h3 h4 => ?_, fun b k c hb hc => ?_, fun b c hc => hr.lt _ c (id' b c hc).2, fun b k hb => (hl.blk b k hb).1⟩, ?_⟩
  · rcases hc with hc | ⟨b, _, hb⟩
    · exact hr.amb_lt c hc
    · exact hr.lt b c hb
  · obtain ⟨hn, ⟨_, blk, hg, hle⟩ | ⟨hge, fr, ex, ty, sz, rfl⟩⟩ := hl.blk b blk' hb
    · exact hle.ok hr rfl hn (hr.own _ _ hg)
    · exact ⟨by simp, .inl ⟨by simp only [Gh.to, hn, if_true]; exact hr.dom _ hge, rfl⟩⟩
  · obtain ⟨_, ⟨_, q, hq, _⟩ | ⟨hge, _⟩⟩ := hl.blk b k h1
    case inr => have := (id' b c h3).2; rw [hr.dom _ hge] at this; cases this
    obtain ⟨_, ⟨_, q', hq', _⟩ | ⟨hge, _⟩⟩ := hl.blk b' k' h2
    case inr => have := (id' b' c h4).2; rw [hr.dom _ hge] at this; cases this
    exact hl.inj b b' (by rw [h1]; simp) (by rw [h2]; simp) (hr.inj _ _ q q' c hq hq' (id' b c h3).2 (id' b' c h4).2)
  · obtain ⟨_, ⟨hz, q, hq, _⟩ | ⟨hge, _⟩⟩ := hl.blk b k hb
    case inr => have := (id' b c hc).2; rw [hr.dom _ hge] at this; cases this
    rintro (ha | ⟨z, hz', hzc⟩)
    · exact hr.apart _ q c hq (id' b c hc).2 ha
    · cases hg : hget h z with
      | none => exact hl.froze z hz' hg
      | some q' => exact hz ((hr.inj _ _ q q' c hq hg (id' b c hc).2 hzc) ▸ hz')
  · exact ⟨rfl, rfl, rfl, Nat.le_refl _, rfl, fun _ hc => .inl hc, fun _ _ => rfl, fun _ _ hm => hm, fun b c hb hc => by
      simp only [Gh.to]
      rw [if_pos (Nat.lt_of_lt_of_le hb hl.nx), hl.low b hb]; exact hc, fun _ _ _ => rfl, fun c hc hlt => by
      rcases hc with hc | ⟨b, _, hb⟩
      · exact .inl hc
      · exact .inr ⟨b, hb⟩, fun b c hc _ => ⟨_, (id' b c hc).2⟩⟩
end le

/-- A STATE THAT TELLS LESS. -/
theorem Wk.of {base N : Nat} {s : St} {t' : List (Nat × V)} {h' : Heap} {nx' : Nat} (ρ : Nat → Nat) (Z : List Nat) (ht : leT s.h s.nx s.t ρ nx' Z t') (hh : LeH base s.h s.nx ρ nx' Z h') : Wk base N s ⟨t', h', nx'⟩ := fun G a w hs hb => by
  obtain ⟨h1, h2⟩ := hh.ok hs.hr
  exact ⟨_, ⟨hs.size, fun i => ht.out i G w _ hs.hr (hs.tmp i), h1⟩, h2, hh.nx⟩
theorem Ends.of {base : Nat} {s : St} {v v' : V} {h' : Heap} {nx' : Nat} (ρ : Nat → Nat) (Z : List Nat) (hv : LeV s.h s.nx ρ nx' Z v v') (hh : LeH base s.h s.nx ρ nx' Z h') : Ends base s v v' h' nx' := fun G w u hr hb hvr => by
  obtain ⟨h1, h2⟩ := hh.ok hr
  exact ⟨_, h1, hv G w u hr hvr, h2, hh.nx⟩

end Go.Proofs.Ytcfkendgjinmiaa
