/- Joined: VZ, VZ1, VZ2, VZ3, VZ4, L0, G4, H1, H2, H3, H4, H5, H6. -/
import Derived.Test.YtcfkendgjinmiaaK2
import Derived.Lib.Overlaps
import Derived.Test.YtcfkendgjinmiaaK4
import Derived.Test.YtcfkendgjinmiaaK5
/- Two slices that are owned apart do not overlap. -/
set_option linter.unusedVariables false
set_option linter.unusedSimpArgs false
namespace Go.Proofs.Ytcfkendgjinmiaa
open Go.RowKit

theorem overlaps_zero {P : Program} {T : Tab} (hT : TabOk P T) {t r e : TypeId} (hk : (T t).k = .slice e) (ht : (T e).k ≠ .other) (w : World) (A B : Option Addr) (la ca lb cb : Nat) (h : la = 0 ∨ lb = 0) :
    (Extern.SlicesOverlaps.overlaps #[t, t] #[r] #[.slice A la ca, .slice B lb cb]).run P w = .ok (.bool false) w := by
  obtain ⟨_, _, d, _, _, _, _, _, h6, h7⟩ := hT.at (t := t) (by rw [hk]; simp)
  rw [hk, DescOk] at h7
  subst h7
  have h0 : la = 0 ∨ lb = 0 ∨ (T e).size = 0 := by rcases h with h | h <;> simp [h]
  change Sem.run P (α := Value) (do
    let some t := (#[t, t] : Array TypeId)[0]? | stuck "slices.overlaps: no parameter types"
    let .slice elem ← underlying t | stuck "slices.overlaps: slice type expected"
    let size ← sizeOf elem
    match A, B with
    | some a, some b =>
      if la = 0 ∨ lb = 0 ∨ size = 0 then pure (Value.bool false)
      else if a.block != b.block && (← frozen a) && (← frozen b) then unsupported .addressObserved
      else do
        if a.block != b.block then do
          noView a; noView b
          if ← mayBeOne a b then return Value.bool ((← choose (.extern "sameAddr.stringBytes" 2)) == 1)
        pure (Value.bool (a.block == b.block && a.off < b.off + lb * size && b.off < a.off + la * size))
    | _, _ => pure (Value.bool false)) w = _
  rcases A with _ | a <;> rcases B with _ | b <;> simp [run_underlying h6, hT.sizeOf ht, h0]
theorem callV_overlaps {P : Program} {T : Tab} (hT : TabOk P T) {f : FuncId} {fn : Func} {t r e : TypeId} (hk : (T t).k = .slice e) (ht : (T e).k ≠ .other) (hpos : 0 < (T e).size) (hf : P.funcs[f]? = some fn) (hname : (fn.name == "runtime.NumGoroutine") = false) (hb : fn.body.isNone = true)
    (hn : Extern.findNext fn = none) (he : Extern.find fn = some (Extern.SlicesOverlaps.overlaps #[t, t] #[r])) {h : Heap} {nx b1 b2 r1 r2 n1 n2 : Nat} {fr1 ex1 fr2 ex2 : Bool} {ty1 ty2 s1 s2 : Nat} {rows1 rows2 : List (List V)} {K : V → Heap → Nat → Prop}
    (h1 : hget h b1 = some (.arr fr1 ex1 ty1 s1 rows1)) (h2 : hget h b2 = some (.arr fr2 ex2 ty2 s2 rows2)) (hne : b1 ≠ b2) (hK : K (.bool false) h nx) :
    CallV P f [.osl b1 (T e).size r1 n1, .osl b2 (T e).size r2 n2] h nx K := by
  refine ⟨⟨fn, hf⟩, fun G w us hr hv => .inr ⟨⟨fn, hf, by cases hbb : fn.body <;> simp [hbb] at hb ⊢⟩, .bool false, w, ?_, .bool false, .bool false, h, nx, G, rfl, hK, .bool _, hr, Evo.refl _ _ _, Nat.le_refl _⟩⟩
  obtain ⟨hl, hv⟩ := hv
  match us, hl with
  | [u1, u2], _ =>
    have v1 := hv 0 _ u1 rfl rfl
    have v2 := hv 1 _ u2 rfl rfl
    rw [run_callFunc_extern hf hname hb hn he]
    have key : (Extern.SlicesOverlaps.overlaps #[t, t] #[r] #[u1, u2]).run P w = .ok (.bool false) w := by
      cases v1 with
      | oslz _ _ _ A =>
        cases v2 with
        | oslz _ _ _ B => exact overlaps_zero hT hk ht w _ _ _ _ _ _ (.inl rfl)
        | osl _ _ _ _ c2 cap2 m2 hc2 hz2 he2 hn2 hm2 => exact overlaps_zero hT hk ht w _ _ _ _ _ _ (.inl rfl)
      | osl _ _ _ _ c1 cap1 m1 hc1 hz1 he1 hn1 hm1 =>
        cases v2 with
        | oslz _ _ _ B => exact overlaps_zero hT hk ht w _ _ _ _ _ _ (.inr rfl)
        | osl _ _ _ _ c2 cap2 m2 hc2 hz2 he2 hn2 hm2 =>
          by_cases h0 : n1 = 0 ∨ n2 = 0
          · exact overlaps_zero hT hk ht w _ _ _ _ _ _ h0
          obtain ⟨_, _, d, _, _, _, _, _, h6, h7⟩ := hT.at (t := t) (by rw [hk]; simp)
          rw [hk, DescOk] at h7
          subst h7
          have hcc : c1 ≠ c2 := by
            rintro rfl
            exact hne (hr.inj b1 b2 _ _ c1 h1 h2 hc1 hc2)
          obtain ⟨_, o1⟩ := hr.own b1 _ h1
          obtain ⟨_, o2⟩ := hr.own b2 _ h2
          rcases o1 with ⟨q, _⟩ | ⟨c1', cs1, q1, hh1, _⟩
          · rw [q] at hc1; cases hc1
          rw [hc1] at q1; cases q1
          rcases o2 with ⟨q, _⟩ | ⟨c2', cs2, q2, hh2, _⟩
          · rw [q] at hc2; cases hc2
          rw [hc2] at q2; cases q2
          have e2 : cs2.size = m2 := by
            have : csz w c2 = some cs2.size := by unfold csz; rw [hh2]
            rw [this] at hz2; exact Option.some.inj hz2
          have hkB : cs2.size ≠ 0 := by
            rw [e2, ← he2]
            have : 0 < (r2 + cap2) * (T e).size := Nat.mul_pos (by omega) hpos
            omega
          exact Lib.run_overlaps_apart w t r e h6 (T e).size (fun w => hT.sizeOf ht w) _ _ n1 cap1 n2 cap2 hcc ty1 ty2 cs1.size cs2.size (by simp [World.shape?, hh1]) (by simp [World.shape?, hh2]) hkB (by simp [World.frozen?, hh1]) (by simp [World.frozen?, hh1])
    rw [key]; rfl
end Go.Proofs.Ytcfkendgjinmiaa
/- An owned slice whose rows are told less, frozen. -/
set_option linter.unusedVariables false
set_option linter.unusedSimpArgs false
namespace Go.Proofs.Ytcfkendgjinmiaa
open Go.RowKit

section
variable {h : Heap} {nx nx' : Nat} {ρ : Nat → Nat} {Z : List Nat}
/-- Rows, pointwise. -/
def LeR (h : Heap) (nx : Nat) (ρ : Nat → Nat) (nx' : Nat) (Z : List Nat) : List (List V) → List (List V) → Prop
  | [], [] => True
  | x :: r, y :: r' => LeL h nx ρ nx' Z x y ∧ LeR h nx ρ nx' Z r r'
  | _, _ => False
theorem LeR.out : ∀ {xs ys : List (List V)}, LeR h nx ρ nx' Z xs ys → xs.map List.length = ys.map List.length ∧ ∀ (j : Nat) (v v' : V), xs.flatten[j]? = some v → ys.flatten[j]? = some v' → LeV h nx ρ nx' Z v v'
  | [], [], _ => ⟨rfl, by simp⟩
  | x :: r, y :: r', hh => by
    obtain ⟨h1, h2⟩ := LeR.out hh.2
    have hx := LeL.out hh.1
    refine ⟨by simp [h1, hx.1], fun j a b ha hb => ?_⟩
    rw [List.flatten_cons] at ha hb
    rcases Nat.lt_or_ge j x.length with hj | hj
    · rw [List.getElem?_append_left hj] at ha
      rw [List.getElem?_append_left (by omega)] at hb
      exact hx.2 j a b ha hb
    · rw [List.getElem?_append_right hj] at ha
      rw [List.getElem?_append_right (by omega), ← hx.1] at hb
      exact h2 _ a b ha hb
  | [], _ :: _, hh => hh.elim
  | _ :: _, [], hh => hh.elim
theorem LeL.freeV : ∀ {cells : List V}, (∀ v ∈ cells, Free v) → LeL h nx ρ nx' Z cells cells
  | [], _ => trivial
  | v :: r, hf => ⟨.free (hf v (by simp)), LeL.freeV (fun v hv => hf v (by simp [hv]))⟩
theorem LeR.free : ∀ {rows : List (List V)}, (∀ x ∈ rows, ∀ v ∈ x, Free v) → LeR h nx ρ nx' Z rows rows
  | [], _ => trivial
  | x :: r, hf => ⟨LeL.freeV (hf x (by simp)), LeR.free (fun y hy => hf y (by simp [hy]))⟩
theorem LeR.map {α : Type} {f g : α → List V} : ∀ {l : List α}, (∀ a ∈ l, LeL h nx ρ nx' Z (f a) (g a)) → LeR h nx ρ nx' Z (l.map f) (l.map g)
  | [], _ => trivial
  | x :: r, hf => ⟨hf x (by simp), LeR.map (fun y hy => hf y (by simp [hy]))⟩
theorem LeR.of_eq {xs ys zs : List (List V)} (e : xs = ys) (hr : LeR h nx ρ nx' Z ys zs) : LeR h nx ρ nx' Z xs zs := e ▸ hr
theorem LeV.freezeR {b sz row n : Nat} {fr ex : Bool} {ty : TypeId} {rows ys : List (List V)} (hz : b ∈ Z) (hb : hget h b = some (.arr fr ex ty sz rows)) (hn : row + n ≤ rows.length) (hle : LeR h nx ρ nx' Z ((rows.drop row).take n) ys) :
    LeV h nx ρ nx' Z (.osl b sz row n) (.sl fr sz ys) := fun G w u hr hv => by
  obtain ⟨hs, hown⟩ := hr.own b _ hb
  obtain ⟨hmap, hpt⟩ := hle.out
  have hsub : ∀ x, x ∈ (rows.drop row).take n → x ∈ rows := fun x hx => List.mem_of_mem_drop (List.mem_of_mem_take hx)
  have hlen0 : ((rows.drop row).take n).length = n := by simp; omega
  have hlen : ys.length = n := by
    have := congrArg List.length hmap
    rw [List.length_map, List.length_map] at this
    omega
  have hfl0 : ((rows.drop row).take n).flatten.length = ys.flatten.length := by rw [List.length_flatten, List.length_flatten, hmap]
  have hys : ∀ y, y ∈ ys → y.length = sz := by
    intro y hy
    have : y.length ∈ ys.map List.length := List.mem_map_of_mem hy
    rw [← hmap] at this
    obtain ⟨x, hx, e⟩ := List.mem_map.1 this
    rw [← e]; exact hs x (hsub x hx)
  cases hv with
  | oslz _ _ _ A =>
    obtain rfl : ys = [] := List.eq_nil_of_length_eq_zero hlen
    exact .sl fr sz [] A 0 (fun _ => undef) (Nat.le_refl _) (Nat.zero_le _) (fun h => absurd rfl h) (by simp) (by simp) (by simp)
  | osl _ _ _ _ c cap m hc hz' he h1 h2 =>
    rcases hown with ⟨h0, _⟩ | ⟨c', cs, e1, hh, hle', hex, hfr, hcell, _⟩
    · rw [h0] at hc; cases hc
    rw [hc] at e1; cases e1
    have hfl := flatten_cells hs
    have hat : ∀ (j : Nat) (v : V), ((rows.drop row).take n).flatten[j]? = some v → rows.flatten[row * sz + j]? = some v := by
      intro j v hj
      have e : rows.flatten = (rows.take row).flatten ++ (((rows.drop row).take n).flatten ++ ((rows.drop row).drop n).flatten) := by
        rw [← List.flatten_append, List.take_append_drop, ← List.flatten_append, List.take_append_drop]
      have l : (rows.take row).flatten.length = row * sz := by rw [flatten_cells (fun x hx => hs x (List.mem_of_mem_take hx)), List.length_take, Nat.min_eq_left (by omega)]
      rw [e, List.getElem?_append_right (by omega), l, show row * sz + j - row * sz = j by omega, List.getElem?_append_left (List.getElem?_eq_some_iff.1 hj).1, hj]
    have hold : ∀ (j : Nat) (v' : V), ys.flatten[j]? = some v' → ∃ v, ((rows.drop row).take n).flatten[j]? = some v := by
      intro j v' hj
      have hlt : j < ((rows.drop row).take n).flatten.length := by rw [hfl0]; exact (List.getElem?_eq_some_iff.1 hj).1
      exact ⟨_, List.getElem?_eq_getElem hlt⟩
    have := VR.sl (ι := (G.to ρ nx' Z).ι) (csz := csz w) (imm := imm (G.to ρ nx' Z) w) fr sz ys (some ⟨c, row * sz, none⟩) cap (fun j => cs[row * sz + j]?.getD undef) (by omega) h2
      (fun _ => ⟨_, rfl, rfl⟩) hys (fun j v' hj ad ha => by
        cases ha
        obtain ⟨v, hv⟩ := hold j v' hj
        obtain ⟨u, hu, hone, _⟩ := hcell _ v (hat j v hv)
        refine ⟨by simp [World.cell?, hh, hu], .inr ⟨b, hz, hc⟩, fun hf => ⟨hfr hf, by simp [World.frozen?, hh]⟩, by simp [hu, hone]⟩) (fun j v' hj => by
        obtain ⟨v, hv0⟩ := hold j v' hj
        obtain ⟨u, hu, _, hv⟩ := hcell _ v (hat j v hv0)
        simp only [hu, Option.getD_some]
        exact hpt j v v' hv0 hj G w u hr hv)
    rw [hlen] at this
    exact this
theorem LeV.freezeE {b sz row n : Nat} {fr ex : Bool} {ty : TypeId} {rows ys : List (List V)} (hz : b ∈ Z) (hb : hget h b = some (.arr fr ex ty sz rows)) (hn : row + n ≤ rows.length) (e : (rows.drop row).take n = ys) (hf : ∀ x ∈ ys, ∀ v ∈ x, Free v) :
    LeV h nx ρ nx' Z (.osl b sz row n) (.sl fr sz ys) := .freezeR hz hb hn (.of_eq e (.free hf))
theorem LeR.eq {xs ys : List (List V)} (e : xs = ys) (hf : ∀ x ∈ xs, ∀ v ∈ x, Free v) : LeR h nx ρ nx' Z xs ys := by subst e; exact .free hf
theorem LeB.arrE {fr fr' ex ex' : Bool} {ty sz : Nat} {xs ys : List (List V)} (e : xs = ys) (hf : ∀ x ∈ xs, ∀ v ∈ x, Free v) (h1 : fr' = true → fr = true) (h2 : ex' = true → ex = true) : LeB h nx ρ nx' Z (.arr fr ex ty sz xs) (.arr fr' ex' ty sz ys) :=
  ⟨h1, h2, rfl, rfl, (LeR.eq (h := h) (nx := nx) (ρ := ρ) (nx' := nx') (Z := Z) e hf).out⟩
theorem LeV.sl_fr {fr : Bool} {v : V} {sz : Nat} {xs : List (List V)} (e : LeV h nx ρ nx' Z v (.sl true sz xs)) : LeV h nx ρ nx' Z v (.sl fr sz xs) := by
  cases fr with
  | true => exact e
  | false => exact .fresh_off e
end
end Go.Proofs.Ytcfkendgjinmiaa
/- A call to which blocks are handed: what it leaves of them, and what it makes, is the caller's. -/
set_option linter.unusedVariables false
set_option linter.unusedSimpArgs false
namespace Go.Proofs.Ytcfkendgjinmiaa
open Go.RowKit

/-- The caller's name of the callee's block. -/
def sig (ρ : Nat → Nat) (n0 nx : Nat) (b : Nat) : Nat := if b < n0 then ρ b else nx + (b - n0)
/-- A value with blocks named anew. -/
def Ren (σ : Nat → Nat) (v v' : V) : Prop := ∀ (ι ι' z : Nat → Option Nat) (im : Bool → Addr → Value → Prop) (u : Value), (∀ b, ι' (σ b) = ι b) → VR ι z im v u → VR ι' z im v' u
section ren
variable {σ : Nat → Nat}
theorem Ren.free {v : V} (h : Free v) : Ren σ v v := fun ι ι' z im u _ hv => h _ _ _ _ _ hv
theorem Ren.ptr {b b' col : Nat} (h : σ b = b') : Ren σ (.ptr b col) (.ptr b' col) := fun ι ι' z im u hι hv => by
  subst h
  cases hv with
  | ptr _ _ c hc => exact .ptr _ _ c ((hι b).trans hc)
theorem Ren.osl {b b' sz row n : Nat} (h : σ b = b') : Ren σ (.osl b sz row n) (.osl b' sz row n) := fun ι ι' z im u hι hv => by
  subst h
  cases hv with
  | osl _ _ _ _ c cap m hc hz he h1 h2 => exact .osl _ _ _ _ c cap m ((hι b).trans hc) hz he h1 h2
  | oslz _ _ _ A => exact .oslz _ _ _ A
def RenL (σ : Nat → Nat) : List V → List V → Prop
  | [], [] => True
  | v :: r, v' :: r' => Ren σ v v' ∧ RenL σ r r'
  | _, _ => False
theorem RenL.out : ∀ {cs cs' : List V}, RenL σ cs cs' → cs.length = cs'.length ∧ ∀ (j : Nat) (v v' : V), cs[j]? = some v → cs'[j]? = some v' → Ren σ v v'
  | [], [], _ => ⟨rfl, by simp⟩
  | v :: r, v' :: r', hh => by
    obtain ⟨h1, h2⟩ := RenL.out hh.2
    refine ⟨by simp [h1], fun j a b ha hb => ?_⟩
    cases j with
    | zero => simp at ha hb; subst ha; subst hb; exact hh.1
    | succ j => exact h2 j a b (by simpa using ha) (by simpa using hb)
  | [], _ :: _, hh => hh.elim
  | _ :: _, [], hh => hh.elim
theorem RenL.free : ∀ {cs : List V}, (∀ v ∈ cs, Free v) → RenL σ cs cs
  | [], _ => trivial
  | v :: r, hf => ⟨.free (hf v (by simp)), RenL.free (fun v hv => hf v (by simp [hv]))⟩
theorem Ren.agg {cs cs' : List V} (h : RenL σ cs cs') : Ren σ (.agg cs) (.agg cs') := fun ι ι' z im u hι hv => by
  obtain ⟨hl, hp⟩ := h.out
  cases hv with
  | agg _ us hl' h1 =>
    refine .agg _ us (hl ▸ hl') fun j v' u hj hu => ?_
    have hlt : j < cs.length := by rw [hl]; exact (List.getElem?_eq_some_iff.1 hj).1
    exact hp j _ v' (List.getElem?_eq_getElem hlt) hj _ _ _ _ _ hι (h1 j _ u (List.getElem?_eq_getElem hlt) hu)
theorem Ren.tup {cs cs' : List V} (h : RenL σ cs cs') : Ren σ (.tup cs) (.tup cs') := fun ι ι' z im u hι hv => by
  obtain ⟨hl, hp⟩ := h.out
  cases hv with
  | tup _ us hl' h1 =>
    refine .tup _ us (hl ▸ hl') fun j v' u hj hu => ?_
    have hlt : j < cs.length := by rw [hl]; exact (List.getElem?_eq_some_iff.1 hj).1
    exact hp j _ v' (List.getElem?_eq_getElem hlt) hj _ _ _ _ _ hι (h1 j _ u (List.getElem?_eq_getElem hlt) hu)
def RenR (σ : Nat → Nat) : List (List V) → List (List V) → Prop
  | [], [] => True
  | x :: r, y :: r' => RenL σ x y ∧ RenR σ r r'
  | _, _ => False
theorem RenR.out : ∀ {xs ys : List (List V)}, RenR σ xs ys → xs.map List.length = ys.map List.length ∧ RenL σ xs.flatten ys.flatten
  | [], [], _ => ⟨rfl, trivial⟩
  | x :: r, y :: r', hh => by
    obtain ⟨h1, h2⟩ := RenR.out hh.2
    have app : ∀ {a a' b b' : List V}, RenL σ a a' → RenL σ b b' → RenL σ (a ++ b) (a' ++ b') := by
      intro a
      induction a with
      | nil => intro a' b b' ha hb; cases a' with
        | nil => exact hb
        | cons _ _ => exact ha.elim
      | cons x a ih => intro a' b b' ha hb; cases a' with
        | nil => exact ha.elim
        | cons y a' => exact ⟨ha.1, ih ha.2 hb⟩
    exact ⟨by simp [h1, (RenL.out hh.1).1], by rw [List.flatten_cons, List.flatten_cons]; exact app hh.1 h2⟩
  | [], _ :: _, hh => hh.elim
  | _ :: _, [], hh => hh.elim
theorem RenR.free : ∀ {rows : List (List V)}, (∀ x ∈ rows, ∀ v ∈ x, Free v) → RenR σ rows rows
  | [], _ => trivial
  | x :: r, hf => ⟨RenL.free (hf x (by simp)), RenR.free (fun y hy => hf y (by simp [hy]))⟩
/-- A block with blocks named anew. -/
def RenB (σ : Nat → Nat) (k : Blk) : Blk → Prop
  | .var fr' ty' cells' => match k with
    | .var fr ty cells => fr' = fr ∧ ty' = ty ∧ RenL σ cells cells'
    | _ => False
  | .arr fr' ex' ty' sz' rows' => match k with
    | .arr fr ex ty sz rows => fr' = fr ∧ ex' = ex ∧ ty' = ty ∧ sz' = sz ∧ RenR σ rows rows'
    | _ => False
  | .loop .. => False
theorem RenB.arr {fr ex : Bool} {ty sz : Nat} {rows : List (List V)} (hf : ∀ x ∈ rows, ∀ v ∈ x, Free v) : RenB σ (.arr fr ex ty sz rows) (.arr fr ex ty sz rows) := ⟨rfl, rfl, rfl, rfl, .free hf⟩
theorem RenB.var {fr : Bool} {ty : Nat} {cells : List V} (hf : ∀ v ∈ cells, Free v) : RenB σ (.var fr ty cells) (.var fr ty cells) := ⟨rfl, rfl, .free hf⟩
theorem Holds.ren {G1 G' : Gh} {w : World} (hι : ∀ b, G'.ι (σ b) = G1.ι b) (him : ∀ fr a u, imm G1 w fr a u → imm G' w fr a u) (hB : G'.B = G1.B) {b : Nat} {fr ex : Bool} {ty : TypeId} {vs vs' : List V} (hr : RenL σ vs vs') (hh : Holds G1 w b fr ex ty vs) : Holds G' w (σ b) fr ex ty vs' := by
  obtain ⟨c, cs, h1, h2, h3, h4, h5, h6, h7⟩ := hh
  obtain ⟨hl, hp⟩ := hr.out
  refine ⟨c, cs, (hι b).trans h1, h2, by omega, fun he => by rw [← hl]; exact h4 he, fun hf => by rw [hB]; exact h5 hf, fun j v' hj => ?_, h7⟩
  have hlt : j < vs.length := by rw [hl]; exact (List.getElem?_eq_some_iff.1 hj).1
  obtain ⟨u, hu, hone, hv⟩ := h6 j _ (List.getElem?_eq_getElem hlt)
  exact ⟨u, hu, hone, hp j _ v' (List.getElem?_eq_getElem hlt) hj _ _ _ _ _ hι (VR.mono (fun _ _ h => h) (fun _ _ h => h) him hv)⟩
theorem RenB.ok {G1 G' : Gh} {w : World} (hι : ∀ b, G'.ι (σ b) = G1.ι b) (him : ∀ fr a u, imm G1 w fr a u → imm G' w fr a u) (hB : G'.B = G1.B) {b : Nat} {k k' : Blk} (hr : RenB σ k k') (hk : BlkOk G1 w b k) : BlkOk G' w (σ b) k' := by
  cases k' with
  | var fr' ty' cells' =>
    cases k with
    | arr => exact hr.elim
    | loop => exact hr.elim
    | var fr ty cells =>
      obtain ⟨rfl, rfl, h3⟩ := hr
      exact Holds.ren hι him hB h3 hk
  | arr fr' ex' ty' sz' rows' =>
    cases k with
    | var => exact hr.elim
    | loop => exact hr.elim
    | arr fr ex ty sz rows =>
      obtain ⟨rfl, rfl, rfl, rfl, h5⟩ := hr
      obtain ⟨hm, hfl⟩ := h5.out
      refine ⟨fun x hx => ?_, ?_⟩
      · have : x.length ∈ rows'.map List.length := List.mem_map_of_mem hx
        rw [← hm] at this
        obtain ⟨y, hy, e⟩ := List.mem_map.1 this
        rw [← e]; exact hk.1 y hy
      · rcases hk.2 with ⟨q1, q2⟩ | q
        · subst q2
          refine .inl ⟨(hι b).trans q1, List.eq_nil_of_length_eq_zero (by simpa using (congrArg List.length hm).symm)⟩
        · exact .inr (Holds.ren hι him hB hfl q)
  | loop => exact hr.elim
end ren
/-- The heap behind such a call. -/
def frH (ρ : Nat → Nat) (n0 nx nx' : Nat) (h h' : Heap) : Heap → Prop
  | [] => True
  | (b, some blk) :: r => ((∃ b1, sig ρ n0 nx b1 = b ∧ b1 < nx' ∧ ∃ k, hget h' b1 = some k ∧ RenB (sig ρ n0 nx) k blk) ∨ ((∀ b1, b1 < n0 → ρ b1 ≠ b) ∧ hget h b = some blk)) ∧ frH ρ n0 nx nx' h h' r
  | (_, none) :: r => frH ρ n0 nx nx' h h' r
theorem frH.out {ρ : Nat → Nat} {n0 nx nx' : Nat} {h h' : Heap} : ∀ {h2 : Heap}, frH ρ n0 nx nx' h h' h2 → ∀ b blk, hget h2 b = some blk → (∃ b1, sig ρ n0 nx b1 = b ∧ b1 < nx' ∧ ∃ k, hget h' b1 = some k ∧ RenB (sig ρ n0 nx) k blk) ∨ ((∀ b1, b1 < n0 → ρ b1 ≠ b) ∧ hget h b = some blk)
  | [], _, b, k, hb => by simp [hget] at hb
  | (i, none) :: r, hh, b, k, hb => by
    rw [hget_cons] at hb
    split at hb
    · cases hb
    · exact frH.out (h2 := r) hh b k hb
  | (i, some blk) :: r, hh, b, k, hb => by
    rw [hget_cons] at hb
    split at hb
    · rename_i e; subst e; cases hb; exact hh.1
    · exact frH.out hh.2 b k hb
/-- A CALL TO WHICH BLOCKS ARE HANDED. -/
theorem callV_frame {P : Program} {f : FuncId} {args args0 : List V} {h h0 : Heap} {nx n0 : Nat} {R K : V → Heap → Nat → Prop} (ρ : Nat → Nat) (hc : CallV P f args0 h0 n0 R)
    (ha : LeL h nx ρ n0 [] args args0) (hh : LeH 0 h nx ρ n0 [] h0) (hlive : ∀ b, b < n0 → hget h (ρ b) ≠ none) (hinj : ∀ b, b < n0 → ∀ b', b' < n0 → ρ b = ρ b' → b = b')
    (hK : ∀ v h' nx', R v h' nx' → n0 ≤ nx' → ∃ v2 h2, Ren (sig ρ n0 nx) v v2 ∧ frH ρ n0 nx nx' h h' h2 ∧ K v2 h2 (nx + (nx' - n0))) : CallV P f args h nx K := by
  refine ⟨hc.1, fun G w us hr hv => ?_⟩
  obtain ⟨hr0, _⟩ := hh.ok hr
  refine (hc.2 _ w us hr0 (ha.vrs hr hv)).mono ?_
  rintro e w' ⟨u, v, h', nx', G1, rfl, hR, hv1, hr1, E, hle⟩
  obtain ⟨v2, h2, hren, hfr, hK⟩ := hK v h' nx' hR hle
  classical
  have hto : ∀ b c, (G.to ρ n0 []).ι b = some c → b < n0 ∧ G.ι (ρ b) = some c := by
    intro b c hb
    simp only [Gh.to] at hb
    split at hb
    · rename_i hlt; exact ⟨hlt, hb⟩
    · cases hb
  have hlt0 : ∀ b, b < n0 → ρ b < nx := fun b hb => by
    cases hg : hget h (ρ b) with
    | none => exact absurd hg (hlive b hb)
    | some k => exact hr.hdom _ k hg
  -- the ids of the caller
  let pre : Nat → Option Nat := fun b => (List.range n0).find? (fun b1 => ρ b1 == b)
  have hpre : ∀ b b1, pre b = some b1 → b1 < n0 ∧ ρ b1 = b := by
    intro b b1 hp
    have h1 := List.mem_of_find?_eq_some hp
    have h3 := List.find?_some hp
    exact ⟨by simpa using h1, by simpa using h3⟩
  have hpre0 : ∀ b, pre b = none → ∀ b1, b1 < n0 → ρ b1 ≠ b := by
    intro b hp b1 hb1 e
    have := List.find?_eq_none.1 hp b1 (by simpa using hb1)
    simp [e] at this
  have hpre1 : ∀ b1, b1 < n0 → pre (ρ b1) = some b1 := by
    intro b1 hb1
    cases hp : pre (ρ b1) with
    | none => exact absurd rfl (hpre0 _ hp b1 hb1)
    | some b2 => rw [hinj b2 (hpre _ _ hp).1 b1 hb1 (hpre _ _ hp).2]
  have hpren : ∀ b, nx ≤ b → pre b = none := by
    intro b hb
    cases hp : pre b with
    | none => rfl
    | some b2 => have := hpre _ _ hp; have := hlt0 b2 this.1; omega
  let ι' : Nat → Option Nat := fun b => match pre b with
    | some b1 => G1.ι b1
    | none => if b < nx then G.ι b else if b - nx + n0 < nx' then G1.ι (b - nx + n0) else none
  let G' : Gh := ⟨ι', G1.amb, G.B⟩
  have hB : G1.B = G.B := E.B
  have hι : ∀ b, G'.ι (sig ρ n0 nx b) = G1.ι b := by
    intro b
    show (match pre (sig ρ n0 nx b) with | some b1 => G1.ι b1 | none => if sig ρ n0 nx b < nx then G.ι (sig ρ n0 nx b) else if sig ρ n0 nx b - nx + n0 < nx' then G1.ι (sig ρ n0 nx b - nx + n0) else none) = _
    rcases Nat.lt_or_ge b n0 with hlt | hge
    · have e : sig ρ n0 nx b = ρ b := by simp [sig, hlt]
      rw [e, hpre1 b hlt]
    · have e : sig ρ n0 nx b = nx + (b - n0) := by simp [sig, Nat.not_lt.2 hge]
      rw [e, hpren _ (by omega)]
      simp only
      rw [if_neg (by omega), show nx + (b - n0) - nx + n0 = b by omega]
      split
      · rfl
      · rename_i hge; exact (hr1.dom b (by omega)).symm
  have hιk : ∀ b, pre b = none → b < nx → G'.ι b = G.ι b := by
    intro b hp hb
    show (match pre b with | some b1 => G1.ι b1 | none => if b < nx then G.ι b else if b - nx + n0 < nx' then G1.ι (b - nx + n0) else none) = _
    rw [hp]
    simp [hb]
  have hιold : ∀ b c, G.ι b = some c → G'.ι b = some c := by
    intro b c hc
    have hb : b < nx := by
      rcases Nat.lt_or_ge b nx with h1 | h1
      · exact h1
      · rw [hr.dom b h1] at hc; cases hc
    cases hp : pre b with
    | none => rw [hιk b hp hb]; exact hc
    | some b1 =>
      obtain ⟨h1, h3⟩ := hpre b b1 hp
      show (match pre b with | some b1 => G1.ι b1 | none => if b < nx then G.ι b else if b - nx + n0 < nx' then G1.ι (b - nx + n0) else none) = _
      rw [hp]
      refine E.ids b1 c h1 ?_
      simp only [Gh.to, h1, if_true, h3]
      exact hc
  -- where an id of the caller's comes from
  have hfrom : ∀ b c, G'.ι b = some c → (∃ b1, sig ρ n0 nx b1 = b ∧ G1.ι b1 = some c) ∨ (pre b = none ∧ b < nx ∧ G.ι b = some c) := by
    intro b c hc
    cases hp : pre b with
    | some b1 =>
      obtain ⟨h1, h3⟩ := hpre b b1 hp
      refine .inl ⟨b1, by simp [sig, h1, h3], ?_⟩
      rw [← hι b1, show sig ρ n0 nx b1 = b by simp [sig, h1, h3]]
      exact hc
    | none =>
      rcases Nat.lt_or_ge b nx with hb | hb
      · exact .inr ⟨rfl, hb, by rw [← hιk b hp hb]; exact hc⟩
      · have e : sig ρ n0 nx (b - nx + n0) = b := by
          unfold sig
          rw [if_neg (by omega)]
          omega
        refine .inl ⟨b - nx + n0, e, ?_⟩
        rw [← hι, e]
        exact hc
  have hidn1 : ∀ b1 c, G1.ι b1 = some c → c < w.heap.size → ∃ b0, b0 < n0 ∧ G.ι (ρ b0) = some c := by
    intro b1 c hc hlt
    obtain ⟨b0, hb0⟩ := E.idn b1 c hc hlt
    exact ⟨b0, hto b0 c hb0⟩
  have ham : ∀ c, G1.amb c → c < w.heap.size → G.amb c ∨ ∃ b0, b0 < n0 ∧ G.ι (ρ b0) = some c := by
    intro c hc hlt
    rcases E.ambn c hc hlt with (h1 | ⟨_, h1, _⟩) | ⟨b, h1⟩
    · exact .inl h1
    · simp at h1
    · exact .inr ⟨b, hto b c h1⟩
  have he : EvoA G w G' w' := fun base => ⟨E.os, E.tape, E.output, E.size, rfl, fun c hc => E.amb c (.inl hc), fun c hc => E.keep c (.inl hc), E.csz, fun b c _ hc => hιold b c hc,
    fun c hc hn => E.keepu c hc (fun b hb => hn _ (hto b c hb).2),
    fun c hc hlt => (ham c hc hlt).imp_right (fun ⟨b0, _, h1⟩ => ⟨_, h1⟩), fun b c hc hlt => by
      rcases hfrom b c hc with ⟨b1, _, h3⟩ | ⟨_, _, h3⟩
      · obtain ⟨b0, _, h4⟩ := hidn1 b1 c h3 hlt; exact ⟨_, h4⟩
      · exact ⟨b, h3⟩⟩
  have him : ∀ fr a u, imm G1 w' fr a u → imm G' w' fr a u := fun fr a u hi => ⟨hi.1, hi.2.1, fun hf => by have := hi.2.2.1 hf; rw [hB] at this; exact this, hi.2.2.2⟩
  have hrest : ∀ b c, (∀ b1, b1 < n0 → ρ b1 ≠ b) → ∀ k, hget h b = some k → G.ι b = some c → ∀ b0, b0 < n0 → G.ι (ρ b0) ≠ some c := by
    intro b c hne k hk hc b0 hb0 h0
    cases hg : hget h (ρ b0) with
    | none => exact hlive b0 hb0 hg
    | some k' => exact hne b0 hb0 (hr.inj _ _ k' k c hg hk h0 hc)
  refine ⟨u, v2, h2, nx + (nx' - n0), G', rfl, hK, hren _ _ _ _ _ hι (VR.mono (fun _ _ h => h) (fun _ _ h => h) him hv1), ⟨hr1.amb_lt, Nat.le_trans hr.B_le E.size, fun b hb => ?_, fun b blk hb => ?_, fun b1 b2 k1 k2 c h1 h3 h4 h5 => ?_, fun b blk c hb hc hacc => ?_, fun b c hc => ?_, fun b blk hb => ?_⟩, he nx, by omega⟩
  · show (match pre b with | some b1 => G1.ι b1 | none => if b < nx then G.ι b else if b - nx + n0 < nx' then G1.ι (b - nx + n0) else none) = _
    rw [hpren b (by omega)]
    simp only
    rw [if_neg (by omega), if_neg (by omega)]
  · rcases hfr.out b blk hb with ⟨b1, rfl, _, k, hk, hrb⟩ | ⟨hne, hk⟩
    · exact hrb.ok hι him hB.symm (hr1.own b1 k hk)
    · refine (hr.own b blk hk).keep he (fun c hc => E.keepu c (hr.lt b c hc) (fun b1 hb1 => ?_)) (fun hn => ?_)
      · obtain ⟨q1, q2⟩ := hto b1 c hb1
        exact hrest b c hne blk hk hc b1 q1 q2
      · have hb' := hr.hdom b blk hk
        have hp : pre b = none := by
          cases hp : pre b with
          | none => rfl
          | some b1 => exact absurd (hpre b b1 hp).2 (hne b1 (hpre b b1 hp).1)
        rw [hιk b hp hb']; exact hn
  · rcases hfr.out b1 k1 h1 with ⟨a1, rfl, _, q1, hq1, _⟩ | ⟨hne1, hk1⟩ <;> rcases hfr.out b2 k2 h3 with ⟨a2, rfl, _, q2, hq2, _⟩ | ⟨hne2, hk2⟩
    · rw [hι] at h4 h5
      rw [hr1.inj a1 a2 q1 q2 c hq1 hq2 h4 h5]
    · rw [hι] at h4
      have hg := hfrom b2 c h5
      have hb2 := hr.hdom b2 k2 hk2
      rcases hg with ⟨a2, rfl, h6⟩ | ⟨_, _, h6⟩
      · exact congrArg _ (by
          have : a2 < n0 ∨ n0 ≤ a2 := Nat.lt_or_ge a2 n0
          rcases this with h7 | h7
          · exact absurd (by simp [sig, h7]) (hne2 a2 h7)
          · simp [sig, Nat.not_lt.2 h7] at hb2; omega)
      · obtain ⟨b0, hb0, h7⟩ := hidn1 a1 c h4 (hr.lt b2 c h6)
        exact absurd h7 (hrest b2 c hne2 k2 hk2 h6 b0 hb0)
    · rw [hι] at h5
      have hg := hfrom b1 c h4
      have hb2 := hr.hdom b1 k1 hk1
      rcases hg with ⟨a2', rfl, h6⟩ | ⟨_, _, h6⟩
      · exact congrArg _ (by
          have : a2' < n0 ∨ n0 ≤ a2' := Nat.lt_or_ge a2' n0
          rcases this with h7 | h7
          · exact absurd (by simp [sig, h7]) (hne1 a2' h7)
          · simp [sig, Nat.not_lt.2 h7] at hb2; omega)
      · obtain ⟨b0, hb0, h7⟩ := hidn1 a2 c h5 (hr.lt b1 c h6)
        exact absurd h7 (hrest b1 c hne1 k1 hk1 h6 b0 hb0)
    · have e1 : G.ι b1 = some c := by
        rcases hfrom b1 c h4 with ⟨a2, rfl, h6⟩ | ⟨_, _, h6⟩
        · have hb2 := hr.hdom _ k1 hk1
          rcases Nat.lt_or_ge a2 n0 with h7 | h7
          · exact absurd (by simp [sig, h7]) (hne1 a2 h7)
          · simp [sig, Nat.not_lt.2 h7] at hb2; omega
        · exact h6
      have e2 : G.ι b2 = some c := by
        rcases hfrom b2 c h5 with ⟨a2, rfl, h6⟩ | ⟨_, _, h6⟩
        · have hb2 := hr.hdom _ k2 hk2
          rcases Nat.lt_or_ge a2 n0 with h7 | h7
          · exact absurd (by simp [sig, h7]) (hne2 a2 h7)
          · simp [sig, Nat.not_lt.2 h7] at hb2; omega
        · exact h6
      exact hr.inj b1 b2 k1 k2 c hk1 hk2 e1 e2
  · rcases hfr.out b blk hb with ⟨b1, rfl, _, k, hk, _⟩ | ⟨hne, hk⟩
    · rw [hι] at hc
      exact hr1.apart b1 k c hk hc hacc
    · have e1 : G.ι b = some c := by
        rcases hfrom b c hc with ⟨a2, rfl, h6⟩ | ⟨_, _, h6⟩
        · have hb2 := hr.hdom _ blk hk
          rcases Nat.lt_or_ge a2 n0 with h7 | h7
          · exact absurd (by simp [sig, h7]) (hne a2 h7)
          · simp [sig, Nat.not_lt.2 h7] at hb2; omega
        · exact h6
      rcases ham c hacc (hr.lt b c e1) with h6 | ⟨b0, hb0, h6⟩
      · exact hr.apart b blk c hk e1 h6
      · exact hrest b c hne blk hk e1 b0 hb0 h6
  · rcases hfrom b c hc with ⟨b1, _, h6⟩ | ⟨_, _, h6⟩
    · exact hr1.lt b1 c h6
    · exact Nat.lt_of_lt_of_le (hr.lt b c h6) E.size
  · rcases hfr.out b blk hb with ⟨b1, rfl, hlt, k, hk, _⟩ | ⟨hne, hk⟩
    · unfold sig
      split
      · rename_i h7; have := hlt0 b1 h7; omega
      · omega
    · have := hr.hdom b blk hk; omega
end Go.Proofs.Ytcfkendgjinmiaa
/- Short ways: values without ids, found by instances; states that tell less. -/
set_option linter.unusedVariables false
set_option linter.unusedSimpArgs false
namespace Go.Proofs.Ytcfkendgjinmiaa
open Go.RowKit

/-- Found by instances. -/
abbrev FreeI (v : V) : Prop := Nonempty (PLift (Free v))
abbrev FreeLI (l : List V) : Prop := Nonempty (PLift (∀ v ∈ l, Free v))
abbrev FreeRI (l : List (List V)) : Prop := Nonempty (PLift (∀ x ∈ l, ∀ v ∈ x, Free v))
instance {k n} : FreeI (.int k n) := ⟨⟨.int⟩⟩
instance {b} : FreeI (.bool b) := ⟨⟨.bool⟩⟩
instance {b} : FreeI (.str b) := ⟨⟨.str⟩⟩
instance : FreeI .any := ⟨⟨.any⟩⟩
instance : FreeI .snil := ⟨⟨.snil⟩⟩
instance : FreeI .nilp := ⟨⟨.nilp⟩⟩
instance : FreeI .nilf := ⟨⟨.nilf⟩⟩
instance : FreeI .nili := ⟨⟨.nili⟩⟩
instance {fr b} : FreeI (encB fr b) := ⟨⟨encB_free _ _⟩⟩
instance {fr b} : FreeI (encW fr b) := ⟨⟨encW_free _ _⟩⟩
instance {b : List UInt8} : FreeRI (b.map fun x => [V.int .u8 x.toNat]) := ⟨⟨rowsB_free b⟩⟩
instance {b : List UInt32} : FreeRI (b.map fun x => [V.int .u32 x.toNat]) := ⟨⟨rowsW_free b⟩⟩
instance : FreeRI [] := ⟨⟨by simp⟩⟩
instance : FreeLI [] := ⟨⟨by simp⟩⟩
instance {v l} [h : FreeI v] [hl : FreeLI l] : FreeLI (v :: l) := ⟨⟨fun w hw => by
  rcases List.mem_cons.1 hw with rfl | hw
  · exact h.elim fun p => p.down
  · exact hl.elim fun p => p.down w hw⟩⟩
instance {x r} [h : FreeLI x] [hl : FreeRI r] : FreeRI (x :: r) := ⟨⟨fun w hw => by
  rcases List.mem_cons.1 hw with rfl | hw
  · exact h.elim fun p => p.down
  · exact hl.elim fun p => p.down w hw⟩⟩
instance {l} [h : FreeLI l] : FreeI (.agg l) := ⟨⟨.agg (h.elim fun p => p.down)⟩⟩
instance {l} [h : FreeLI l] : FreeI (.tup l) := ⟨⟨.tup (h.elim fun p => p.down)⟩⟩
instance {fr l} [h : FreeLI l] : FreeI (.iptr fr l) := ⟨⟨.iptr (h.elim fun p => p.down)⟩⟩
instance {fr sz l} [h : FreeRI l] : FreeI (.sl fr sz l) := ⟨⟨.sl (h.elim fun p => p.down)⟩⟩
instance {f a b} [h : FreeLI a] [k : FreeLI b] : FreeI (.fn f a b) := ⟨⟨.fn (h.elim fun p => p.down) (k.elim fun p => p.down)⟩⟩
theorem FreeI.out {v : V} [h : FreeI v] : Free v := h.elim fun p => p.down
section
variable {h : Heap} {nx nx' : Nat} {ρ : Nat → Nat} {Z : List Nat}
theorem LeV.fr {v v' : V} [i : FreeI v'] (e : v = v') : LeV h nx ρ nx' Z v v' := by subst e; exact .free (i.elim fun p => p.down)
theorem LeL.fr {l l' : List V} [i : FreeLI l'] (e : l = l') : LeL h nx ρ nx' Z l l' := by subst e; exact .freeV (i.elim fun p => p.down)
theorem LeB.fr {f f' ex ex' : Bool} {ty sz : Nat} {r r' : List (List V)} [i : FreeRI r'] (e : r = r') (h1 : f' = true → f = true) (h2 : ex' = true → ex = true) : LeB h nx ρ nx' Z (.arr f ex ty sz r) (.arr f' ex' ty sz r') := by
  subst e; exact .arrE rfl (i.elim fun p => p.down) h1 h2
end
theorem Wk.all {base N : Nat} {s : St} {t' : List (Nat × V)} {h' : Heap} {nx' : Nat} (ρ : Nat → Nat) (Z : List Nat) (ht : leT s.h s.nx s.t ρ nx' Z t' ∧ leHL s.h s.nx ρ nx' Z h') (hi : ∀ b ∈ h'.map Prod.fst, ∀ b' ∈ h'.map Prod.fst, ρ b = ρ b' → b = b') (hl : ∀ b, b < base → ρ b = b) (hn : base ≤ nx') (hz : ∀ z, z ∈ Z → hget s.h z ≠ none) : Wk base N s ⟨t', h', nx'⟩ :=
  Wk.of ρ Z ht.1 (LeH.of ht.2 hi hl hn hz)
theorem Wk.i {base N : Nat} {s : St} {t' : List (Nat × V)} {h' : Heap} {nx' : Nat} (ht : leT s.h s.nx s.t id nx' [] t' ∧ leHL s.h s.nx id nx' [] h') (hn : base ≤ nx') : Wk base N s ⟨t', h', nx'⟩ :=
  Wk.all id [] ht (fun _ _ _ _ h => h) (fun _ _ => rfl) hn (by simp)
theorem Ends.all {base : Nat} {s : St} {v v' : V} {h' : Heap} {nx' : Nat} (ρ : Nat → Nat) (Z : List Nat) (ht : LeV s.h s.nx ρ nx' Z v v' ∧ leHL s.h s.nx ρ nx' Z h') (hi : ∀ b ∈ h'.map Prod.fst, ∀ b' ∈ h'.map Prod.fst, ρ b = ρ b' → b = b') (hl : ∀ b, b < base → ρ b = b) (hn : base ≤ nx') (hz : ∀ z, z ∈ Z → hget s.h z ≠ none) : Ends base s v v' h' nx' :=
  Ends.of ρ Z ht.1 (LeH.of ht.2 hi hl hn hz)
theorem LeH.i {base : Nat} {h h' : Heap} {nx nx' : Nat} {Z : List Nat} (hb : leHL h nx id nx' Z h') (hn : base ≤ nx') (hz : ∀ z, z ∈ Z → hget h z ≠ none) : LeH base h nx id nx' Z h' := LeH.of hb (fun _ _ _ _ h => h) (fun _ _ => rfl) hn hz
end Go.Proofs.Ytcfkendgjinmiaa
/- A function that is handed a pointer to one variable, leaves it as it is and answers a pointer into it. -/
set_option linter.unusedVariables false
set_option linter.unusedSimpArgs false
namespace Go.Proofs.Ytcfkendgjinmiaa
open Go.RowKit

/-- A CONTRACT OF ONE VARIABLE THAT IS ONLY POINTED INTO. -/
theorem pureV_into {P : Program} {f : FuncId} {args args0 : List V} {k : Nat} {h : Heap} {nx b : Nat} {fr : Bool} {ty : TypeId} {cells : List V}
    (hc : CallV P f args0 [(0, some (.var fr ty cells))] 1 (fun v' h' nx' => v' = .ptr 0 k ∧ h' = [(0, some (.var fr ty cells))] ∧ nx' = 1))
    (hb : hget h b = some (.var fr ty cells)) (hcells : ∀ v ∈ cells, Free v) (ha : LeL h nx (fun _ => b) 1 [] args args0) : PureV P f args (.ptr b k) h nx := by
  refine ⟨hc.1, fun G w us hr hv => ?_⟩
  have hl : LeH 0 h nx (fun _ => b) 1 [] [(0, some (.var fr ty cells))] := ⟨fun b' blk hb' => by
      rw [hget_cons] at hb'
      split at hb'
      · rename_i e; subst e; cases hb'
        refine ⟨by omega, .inl ⟨by simp, _, hb, id, rfl, ?_⟩⟩
        clear hc hb hv ha hr
        induction cells with
        | nil => trivial
        | cons v r ih => exact ⟨.free (hcells v (by simp)), ih (fun v hv => hcells v (by simp [hv]))⟩
      · simp [hget] at hb', fun b1 b2 h1 h2 _ => by
      rw [hget_cons] at h1 h2
      split at h1
      · split at h2
        · omega
        · simp [hget] at h2
      · simp [hget] at h1, fun b hb => by omega, Nat.zero_le _, by simp⟩
  obtain ⟨hr0, _⟩ := hl.ok hr
  refine (hc.2 _ w us hr0 (ha.vrs hr hv)).mono ?_
  rintro e w' ⟨u, v, h', nx', G1, rfl, ⟨rfl, rfl, rfl⟩, hv1, hr1, E, _⟩
  obtain ⟨c, cs, hbc, _⟩ : Holds G w b fr true ty cells := hr.own b _ hb
  have h00 : (G.to (fun _ => b) 1 []).ι 0 = some c := by simpa [Gh.to] using hbc
  have hι0 : ∀ i c', (G.to (fun _ => b) 1 []).ι i = some c' → c' = c := by
    intro i c' hi
    simp only [Gh.to] at hi
    split at hi
    · rw [hbc] at hi; cases hi; rfl
    · cases hi
  have h10 : G1.ι 0 = some c := E.ids 0 c (by omega) h00
  have hB : G1.B = G.B := E.B
  have ham : ∀ c', G1.amb c' → c' < w.heap.size → G.amb c' ∨ c' = c := by
    intro c' hc' hlt
    rcases E.ambn c' hc' hlt with (h1 | ⟨_, h1, _⟩) | ⟨i, h1⟩
    · exact .inl h1
    · simp at h1
    · exact .inr (hι0 i c' h1)
  have hapc : ¬ G1.amb c := hr1.apart 0 (.var fr ty cells) c (by simp [hget]) h10
  have he : EvoA G w ⟨G.ι, G1.amb, G.B⟩ w' := fun base => ⟨E.os, E.tape, E.output, E.size, rfl, fun c hc => E.amb c (.inl hc), fun c hc => E.keep c (.inl hc), E.csz, fun _ _ _ hc => hc, fun c' hc hn => E.keepu c' hc (fun i hi => hn b (by rw [hbc, hι0 i c' hi])),
    fun c' hc' hlt => by
      rcases ham c' hc' hlt with h1 | rfl
      · exact .inl h1
      · exact absurd hc' hapc, fun b c hc _ => ⟨b, hc⟩⟩
  have toG : ∀ {v : V} {u : Value}, Free v → vr G1 w' v u → vr ⟨G.ι, G1.amb, G.B⟩ w' v u := fun hf hv => by
    refine hf _ _ _ _ _ (VR.mono (fun _ _ h => h) (fun _ _ h => h) (fun fr a u hi => ⟨hi.1, hi.2.1, fun hf => by have := hi.2.2.1 hf; rw [hB] at this; exact this, hi.2.2.2⟩) hv)
  have hother : ∀ b' blk c', hget h b' = some blk → G.ι b' = some c' → b ≠ b' → c' ≠ c := by
    rintro b' blk c' h1 h2 h3 rfl
    exact h3 (hr.inj b b' _ _ _ hb h1 hbc h2)
  refine ⟨u, ⟨G.ι, G1.amb, G.B⟩, rfl, ?_, ⟨hr1.amb_lt, Nat.le_trans hr.B_le E.size, hr.dom, fun b' blk hb' => ?_, hr.inj, fun b' blk c' hb' hc' ha => ?_, fun b c hc => Nat.lt_of_lt_of_le (hr.lt b c hc) E.size, hr.hdom⟩, he, rfl⟩
  · cases hv1 with
    | ptr _ _ c2 hc2 =>
      rw [h10] at hc2
      cases hc2
      exact .ptr b k c hbc
  · by_cases e : b = b'
    · subst e
      rw [hb] at hb'
      cases hb'
      obtain ⟨c2, cs2, q1, q2, q3, q4, q5, q6, q7⟩ : Holds G1 w' 0 fr true ty cells := hr1.own 0 (.var fr ty cells) (by simp [hget])
      rw [h10] at q1
      obtain rfl : c = c2 := Option.some.inj q1
      refine ⟨c, cs2, hbc, q2, q3, q4, fun hf => by have := q5 hf; rw [hB] at this; exact this, fun j v hj => ?_, q7⟩
      obtain ⟨u, hu, h1, hvr⟩ := q6 j v hj
      exact ⟨u, hu, h1, toG (hcells v (List.mem_of_getElem? hj)) hvr⟩
    · exact (hr.own b' blk hb').keep he (fun c' hc' => E.keepu c' (hr.lt b' c' hc') (fun i hi => hother b' blk c' hb' hc' e (hι0 i c' hi))) (fun hn => hn)
  · by_cases e : b = b'
    · subst e
      rw [hbc] at hc'; cases hc'
      exact hapc ha
    · rcases ham c' ha (hr.lt b' c' hc') with h1 | h1
      · exact hr.apart b' blk c' hb' hc' h1
      · exact hother b' blk c' hb' hc' e h1
end Go.Proofs.Ytcfkendgjinmiaa
/- Instances: the data of layer 19 has no ids. -/
set_option linter.unusedVariables false
set_option linter.unusedSimpArgs false
namespace Go.Proofs.Ytcfkendgjinmiaa
open Go.RowKit

instance {fr p} : FreeLI (encLeg fr p) := ⟨⟨encLeg_free fr p⟩⟩
instance {fr} {l : List Leg} : FreeRI (l.map (encLeg fr)) := ⟨⟨rowsLegs_free fr l⟩⟩
instance {fr l} : FreeI (encLegs fr l) := ⟨⟨encLegs_free fr l⟩⟩
instance {fr a} : FreeLI (cellsA fr a) := ⟨⟨cellsA_free fr a⟩⟩
instance {fr a} : FreeI (encA fr a) := ⟨⟨encA_free fr a⟩⟩
instance : FreeLI zeroA := ⟨⟨zeroA_free⟩⟩
end Go.Proofs.Ytcfkendgjinmiaa
/- Contracts: which are the same, as the program tells. -/
set_option linter.unusedVariables false
set_option linter.unusedSimpArgs false
namespace Go.Proofs.Ytcfkendgjinmiaa
open Go.RowKit
open Go.Proofs.Try (prog)
attribute [local irreducible] CallV RoundV

theorem w_eq {x y : UInt32} : ((x.toNat : Int) == (y.toNat : Int)) = (x == y) := by
  have := u32_neq (x := x) (y := y)
  simpa [bne] using this
theorem b_eq {x y : UInt8} : ((x.toNat : Int) == (y.toNat : Int)) = (x == y) := by
  have := u8_neq (x := x) (y := y)
  simpa [bne] using this
theorem take_step {α : Type} {l m : List α} {i : Nat} (h1 : i < l.length) (h2 : i < m.length) (hr : l.take i = m.take i) (he : l[i] = m[i]) : l.take (i + 1) = m.take (i + 1) := by
  rw [List.take_succ_eq_append_getElem h1, List.take_succ_eq_append_getElem h2, hr, he]
set_option maxRecDepth 100000 in
theorem equal_ok (fr fr' : Bool) (a b : List UInt32) : PCon prog 55 [encW fr a, encW fr' b] (.bool (decide (a = b))) := by
  refine callV_of (fn := Go.Proofs.Try.f55) (body := _) tab_ok mixed rfl rfl (by decide) (by simp [Go.Proofs.Try.f55]) ?_
  (conv => whnf)
  intro ha
  have ha : a.length ≤ maxLen := by simpa [gd] using ha
  (conv => whnf)
  intro hb
  (conv => whnf)
  split
  · rename_i hne
    (conv => whnf)
    refine Ends.pure [] (.bool_of ?_) (by simp)
    symm
    rw [decide_eq_false_iff_not]
    rintro rfl
    simp at hne
  · rename_i hne
    have hlen : a.length = b.length := by simp at hne; omega
    (conv => whnf)
    intro _
    (conv => whnf)
    refine vcg_loop tab_ok mixed (fun i : {i : Nat // i ≤ a.length ∧ a.take i = b.take i} => ⟨[(0, encW fr a), (1, encW fr' b), (12, cI a.length), (13, .int .i64 i.1)], [], 0⟩) (fun i => a.length - i.1) ⟨0, by omega, rfl⟩ (Wk.of id [] ⟨.free (encW_free _ _), .free (encW_free _ _), .int_of (by simp), .int_of rfl, trivial⟩ (LeH.nil (Nat.le_refl _) (fun b h => by omega) (by simp))) (fun i => ?_)
    obtain ⟨i, hi, hr⟩ := i
    (conv => whnf)
    split
    · rename_i hc
      have hc : i < a.length := by simpa using hc
      (conv => whnf)
      refine ⟨rfl, _, ⟨by first | omega | (simp only; omega), idxW hc⟩, ?_⟩
      (conv => whnf)
      refine ⟨rfl, _, ⟨by first | omega | (simp only; omega), idxW (show i < b.length by omega)⟩, ?_⟩
      (conv => whnf)
      refine ⟨by kernel_rfl, ?_⟩
      (conv => whnf)
      split
      · rename_i h1
        (conv => whnf)
        refine Ends.pure [] (.bool_of ?_) (by simp)
        symm
        rw [decide_eq_false_iff_not]
        rintro rfl
        simp at h1
      · rename_i h1
        have h1 : a[i] = b[i] := by
          simp at h1
          exact UInt32.toNat_inj.1 (by omega)
        (conv => whnf)
        exact ⟨⟨i + 1, by omega, take_step hc (by omega) hr h1⟩, Wk.of id [] ⟨.free (encW_free _ _), .free (encW_free _ _), .int_of rfl, .int_of (wrap64_succ hc ha), trivial⟩ (LeH.nil (Nat.le_refl _) (fun b h => by omega) (by simp)), by simp only; omega⟩
    · rename_i hc
      have hc : i = a.length := by simp at hc; omega
      subst hc
      rw [List.take_length, hlen, List.take_length] at hr
      (conv => whnf)
      refine Ends.pure [] (.bool_of ?_) (by simp)
      simp [hr]
set_option maxRecDepth 100000 in
theorem same1_ok (fr fr' : Bool) (p q : Leg) : PCon prog 54 [.agg (encLeg fr p), .agg (encLeg fr' q)] (.bool (decide (p = q))) := by
  obtain ⟨ps, pn⟩ := p
  obtain ⟨qs, qn⟩ := q
  refine callV_of (fn := Go.Proofs.Try.f54) (body := _) tab_ok mixed rfl rfl (by decide) (by simp [Go.Proofs.Try.f54]) ?_
  (conv => whnf)
  split
  · rename_i h
    have h : ps = qs := by simpa using h
    (conv => whnf)
    refine callV_pure (equal_ok fr fr' pn qn) ⟨.free (encW_free _ _), .free (encW_free _ _), trivial⟩ ?_
    (conv => whnf)
    refine Ends.pure [] (.bool_of ?_) (by simp)
    simp [h]
  · rename_i h
    have h : ps ≠ qs := by simpa using h
    (conv => whnf)
    refine Ends.pure [] (.bool_of ?_) (by simp)
    simp [h]
set_option maxRecDepth 100000 in
theorem equalFunc_ok (fr fr' : Bool) (a b : List Leg) : PCon prog 56 [encLegs fr a, encLegs fr' b, .fn (.func 54) [] []] (.bool (decide (a = b))) := by
  refine callV_of (fn := Go.Proofs.Try.f56) (body := _) tab_ok mixed rfl rfl (by decide) (by simp [Go.Proofs.Try.f56]) ?_
  (conv => whnf)
  intro ha
  have ha : a.length ≤ maxLen := by simpa [gd] using ha
  (conv => whnf)
  intro hb
  (conv => whnf)
  split
  · rename_i hne
    (conv => whnf)
    refine Ends.pure [] (.bool_of ?_) (by simp)
    symm
    rw [decide_eq_false_iff_not]
    rintro rfl
    simp at hne
  · rename_i hne
    have hlen : a.length = b.length := by simp at hne; omega
    (conv => whnf)
    intro _
    (conv => whnf)
    refine vcg_loop tab_ok mixed (fun i : {i : Nat // i ≤ a.length ∧ a.take i = b.take i} => ⟨[(1, encLegs fr' b), (2, .fn (.func 54) [] []), (15, encLegs fr a), (16, cI a.length), (17, .int .i64 i.1)], [], 0⟩) (fun i => a.length - i.1) ⟨0, by omega, rfl⟩ (Wk.of id [] ⟨.free (encLegs_free _ _), .free (.fn (by simp) (by simp)), .free (encLegs_free _ _), .int_of (by simp), .int_of rfl, trivial⟩ (LeH.nil (Nat.le_refl _) (fun b h => by omega) (by simp))) (fun i => ?_)
    obtain ⟨i, hi, hr⟩ := i
    (conv => whnf)
    split
    · rename_i hc
      have hc : i < a.length := by simpa using hc
      have hc' : i < b.length := by omega
      (conv => whnf)
      refine ⟨rfl, _, ⟨by first | omega | (simp only; omega), idxL hc⟩, ?_⟩
      (conv => whnf)
      refine ⟨rfl, _, ⟨by first | omega | (simp only; omega), idxL hc'⟩, ?_⟩
      (conv => whnf)
      refine callV_pure (same1_ok fr fr' a[i] b[i]) ⟨.free (.agg (encLeg_free _ _)), .free (.agg (encLeg_free _ _)), trivial⟩ ?_
      (conv => whnf)
      split
      · rename_i h1
        (conv => whnf)
        refine Ends.pure [] (.bool_of ?_) (by simp)
        symm
        rw [decide_eq_false_iff_not]
        rintro rfl
        simp at h1
      · rename_i h1
        have h1 : a[i] = b[i] := by simpa using h1
        (conv => whnf)
        exact ⟨⟨i + 1, by omega, take_step hc hc' hr h1⟩, Wk.of id [] ⟨.free (encLegs_free _ _), .free (.fn (by simp) (by simp)), .free (encLegs_free _ _), .int_of rfl, .int_of (wrap64_succ hc ha), trivial⟩ (LeH.nil (Nat.le_refl _) (fun b h => by omega) (by simp)), by simp only; omega⟩
    · rename_i hc
      have hc : i = a.length := by simp at hc; omega
      subst hc
      rw [List.take_length, hlen, List.take_length] at hr
      (conv => whnf)
      refine Ends.pure [] (.bool_of ?_) (by simp)
      simp [hr]
set_option maxRecDepth 100000 in
set_option maxHeartbeats 4000000 in
theorem same_ok (fr fr' : Bool) (a b : Attrs) : PCon prog 33 [encA fr a, encA fr' b] (.bool (sameA a b)) := by
  refine callV_of (fn := Go.Proofs.Try.f33) (body := _) tab_ok mixed rfl rfl (by decide) (by simp [Go.Proofs.Try.f33]) ?_
  have fin : ∀ {s : St} {r : Bool}, sameA a b = r → ∃ v1 h' nx', Ends 0 s (.bool r) v1 h' nx' ∧ (v1 = .bool (sameA a b) ∧ h' = [] ∧ nx' = 0) := fun h => Ends.pure [] (.bool_of h.symm) (by simp)
  (conv => whnf)
  repeat' first
    | refine fin ?_
    | (split <;> (conv => whnf))
    | (refine callV_pure (equalFunc_ok fr fr' a.path b.path) ⟨.free (encLegs_free _ _), .free (encLegs_free _ _), .free (.fn (by simp) (by simp)), trivial⟩ ?_; (conv => whnf))
    | (refine callV_pure (equal_ok fr fr' a.tags b.tags) ⟨.free (encW_free _ _), .free (encW_free _ _), trivial⟩ ?_; (conv => whnf))
  any_goals (clear fin; simp only [sameA, decide_eq_false_iff_not]; rintro rfl; simp_all; done)
  clear fin
  simp only [w_eq, b_eq, beq_iff_eq, decide_eq_true_eq] at *
  obtain ⟨o1, p1, n1, h1, m1, g1, q1, t1⟩ := a
  obtain ⟨o2, p2, n2, h2, m2, g2, q2, t2⟩ := b
  simp_all [sameA]
end Go.Proofs.Ytcfkendgjinmiaa
/- Contracts: a system laid ahead of a path, by the document. -/
set_option linter.unusedVariables false
set_option linter.unusedSimpArgs false
namespace Go.Proofs.Ytcfkendgjinmiaa
open Go.RowKit
open Go.Proofs.Try (prog)
attribute [local irreducible] CallV RoundV

/-- A path with a system ahead, so many times. -/
def prePath (l : List Leg) (x : UInt32) (n : Nat) : List Leg := match l with
  | ⟨false, ns⟩ :: r => ⟨false, List.replicate n x ++ ns⟩ :: r
  | l => ⟨false, List.replicate n x⟩ :: l
def badPre (a : Attrs) (x : UInt32) (n : Int) : Bool := !rightA a || x == 0 || decide (n < 0) || decide (8 < n)
def prepE (a : Attrs) (x : UInt32) (n : Int) : Int := if badPre a x n then 2 else if n = 0 then 0 else if pathOk (prePath a.path x n.toNat) then 0 else 3
def prepA (a : Attrs) (x : UInt32) (n : Int) : Attrs := if prepE a x n ≠ 0 then noA else if n = 0 then a else { a with path := prePath a.path x n.toNat }
def prepV (fr : Bool) (a : Attrs) (x : UInt32) (n : Int) : V := .tup [encA fr (prepA a x n), .int .i64 (prepE a x n)]
theorem prepV_bad {fr : Bool} {a : Attrs} {x : UInt32} {n : Int} (h : badPre a x n = true) : prepV fr a x n = .tup [encA fr noA, .int .i64 2] := by simp [prepV, prepA, prepE, h]
theorem prepV_zero {fr : Bool} {a : Attrs} {x : UInt32} (h : badPre a x 0 = false) : prepV fr a x 0 = .tup [encA fr a, .int .i64 0] := by simp [prepV, prepA, prepE, h]
theorem prepV_long {fr : Bool} {a : Attrs} {x : UInt32} {n : Int} (h : badPre a x n = false) (h0 : n ≠ 0) (hp : pathOk (prePath a.path x n.toNat) = false) : prepV fr a x n = .tup [encA fr noA, .int .i64 3] := by simp [prepV, prepA, prepE, h, h0, hp]
theorem prepV_ok {fr : Bool} {a : Attrs} {x : UInt32} {n : Int} (h : badPre a x n = false) (h0 : n ≠ 0) (hp : pathOk (prePath a.path x n.toNat) = true) : prepV fr a x n = .tup [encA fr { a with path := prePath a.path x n.toNat }, .int .i64 0] := by simp [prepV, prepA, prepE, h, h0, hp]
theorem badPre_no {a : Attrs} {x : UInt32} {n : Int} (h : badPre a x n = false) : rightA a = true ∧ x ≠ 0 ∧ 0 ≤ n ∧ n ≤ 8 := by simp [badPre] at h; exact ⟨h.1.1.1, h.1.1.2, h.1.2, h.2⟩
theorem right_path {a : Attrs} (h : rightA a = true) : pathOk a.path = true := by simp [rightA] at h; exact h.1.1.1.1.1.2
theorem pathOk_all {l : List Leg} (h : pathOk l = true) : l.length ≤ 8 ∧ ∀ p ∈ l, legOk p = true := by simpa [pathOk] using h
theorem legOk_ns {p : Leg} (h : legOk p = true) : 1 ≤ p.ns.length ∧ p.ns.length ≤ 32 ∧ (p.set = true → rises p.ns = true) ∧ ∀ x ∈ p.ns, x ≠ 0 := by
  simp only [legOk, Bool.and_eq_true, decide_eq_true_eq, Bool.or_eq_true, Bool.not_eq_true', List.all_eq_true, bne_iff_ne] at h
  refine ⟨h.1.1.1, h.1.1.2, fun hs => ?_, h.2⟩
  rcases h.1.2 with h1 | h1
  · rw [hs] at h1; cases h1
  · exact h1
/-- What is too long. -/
def longP (l : List Leg) : Bool := decide (32 < (l.headD ⟨false, []⟩).ns.length) || decide (8 < l.length)
theorem pre_long {l : List Leg} {x : UInt32} {n : Nat} (hl : pathOk l = true) (hx : x ≠ 0) (hn : 0 < n) : pathOk (prePath l x n) = !longP (prePath l x n) := by
  obtain ⟨h8, hp⟩ := pathOk_all hl
  have hrow : ∀ ns : List UInt32, (∀ y ∈ ns, y ≠ 0) → legOk ⟨false, List.replicate n x ++ ns⟩ = decide (n + ns.length ≤ 32) := by
    intro ns hns
    have : ns.all (· != 0) = true := by rw [List.all_eq_true]; intro y hy; simpa using hns y hy
    have h1 : decide (1 ≤ n + ns.length) = true := by simp; omega
    simp [legOk, this, hx, h1]
  have key : ∀ (q : Leg) (r : List Leg), (∀ p ∈ r, legOk p = true) → pathOk (q :: r) = (decide (r.length + 1 ≤ 8) && legOk q) := by
    intro q r hr
    have : r.all legOk = true := List.all_eq_true.2 hr
    simp [pathOk, this]
  unfold prePath
  split
  · rename_i ns r
    have hns := (legOk_ns (hp _ (List.mem_cons_self ..))).2.2.2
    rw [key _ _ (fun p h => hp p (List.mem_cons_of_mem _ h)), hrow _ hns]
    simp only [longP, List.headD_cons, List.length_append, List.length_replicate, List.length_cons, Bool.not_or]
    rw [Bool.and_comm]
    congr 1 <;> rw [← decide_not] <;> congr 1 <;> simp <;> omega
  · rename_i hnot
    have hrow0 := hrow [] (by simp)
    rw [List.append_nil] at hrow0
    rw [key _ _ hp, hrow0]
    simp only [longP, List.headD_cons, List.length_replicate, List.length_cons, Bool.not_or, List.length_nil]
    rw [Bool.and_comm]
    congr 1 <;> rw [← decide_not] <;> congr 1 <;> simp <;> omega
theorem longP_yes {l : List Leg} (h : 32 < (l.headD ⟨false, []⟩).ns.length ∨ 8 < l.length) : longP l = true := by simpa [longP] using h
theorem longP_no {l : List Leg} (h : (l.headD ⟨false, []⟩).ns.length ≤ 32 ∧ l.length ≤ 8) : longP l = false := by simpa [longP] using h
set_option maxRecDepth 100000 in
set_option maxHeartbeats 4000000 in
theorem ref_prepend_ok (fr : Bool) (a : Attrs) (x : UInt32) (n : Int) : PCon prog 23 [encA fr a, cW x, .int .i64 n] (prepV fr a x n) := by
  have bad : ∀ {s : St} {v : V}, badPre a x n = true → LeV s.h s.nx id 0 [] v (encA fr noA) → ∃ v1 h' nx', Ends 0 s (.tup [v, .int .i64 2]) v1 h' nx' ∧ (v1 = prepV fr a x n ∧ h' = [] ∧ nx' = 0) := fun hb hv => by
    rw [prepV_bad hb]
    exact Ends.pure [] (.tupL ⟨hv, .free .int, trivial⟩) (by simp)
  refine callV_of (fn := Go.Proofs.Try.f23) (body := _) tab_ok mixed rfl rfl (by decide) (by simp [Go.Proofs.Try.f23]) ?_
  (conv => whnf)
  refine callV_pure (right_ok fr a) ⟨.free (encA_free _ _), trivial⟩ ?_
  cases hr : rightA a with
  | false =>
    (conv => whnf)
    exact bad (by simp [badPre, hr]) .noA
  | true =>
  (conv => whnf)
  cases hx : ((x.toNat : Int) == 0) with
  | true =>
    (conv => whnf)
    exact bad (by rw [u32_eq] at hx; simp [badPre, hx]) .noA
  | false =>
  (conv => whnf)
  cases hn : decide (n < 0) with
  | true =>
    (conv => whnf)
    exact bad (by simp [badPre, hn]) .noA
  | false =>
  (conv => whnf)
  cases h8 : decide (8 < n) with
  | true =>
    (conv => whnf)
    exact bad (by simp [badPre, h8]) .noA
  | false =>
  have hb : badPre a x n = false := by rw [u32_eq] at hx; simp [badPre, hr, hx, hn, h8]
  (conv => whnf)
  cases h0 : (n == 0) with
  | true =>
    have h0 : n = 0 := by simpa using h0
    subst h0
    (conv => whnf)
    rw [prepV_zero hb]
    exact (Ends.pure [] (by first | exact .ptr rfl (by omega) | exact .osl_of rfl (by omega) rfl | exact .fr rfl | exact LeL.fr rfl | exact .yld rfl (by omega) | exact .eptr rfl (by omega) | exact .osl0 | exact .snil_sl | exact .to_any) (by simp))
  | false =>
  have h0 : n ≠ 0 := by simpa using h0
  obtain ⟨k, rfl⟩ : ∃ k : Nat, n = k := ⟨n.toNat, by have := of_decide_eq_false hn; omega⟩
  have hk : k ≤ 8 := by have := of_decide_eq_false h8; omega
  have hk0 : 0 < k := by omega
  (conv => whnf)
  refine vcg_loop tab_ok mixed (fun i : {i : Nat // i ≤ k} => ⟨[(1, cW x), (2, cI k), (3, .ptr 0 0), (6, .ptr 1 0), (8, .osl 2 1 0 i.1), (9, cI i.1)], [(0, some (.var true 26 (cellsA fr a))), (1, some (.var true 26 zeroA)), (2, some (.arr true false 23 1 (rowsW (List.replicate i.1 x))))], 3⟩) (fun i => k - i.1) ⟨0, by omega⟩ (Wk.i (by repeat' (first | exact True.intro | exact id | exact rfl | decide | exact Nat.le_of_ble_eq_true rfl | exact .ptr rfl (by omega) | exact .osl_of rfl (by omega) rfl | exact .fr rfl | exact LeL.fr rfl | exact .yld rfl (by omega) | exact .eptr rfl (by omega) | exact .osl0 | exact .snil_sl | exact .to_any | exact LeB.fr rfl id id | exact LeB.fr (by simp; done) id id | refine Or.inl ⟨by simp, _, rfl, ?_⟩ | exact Or.inr ⟨by simp, _, _, _, _, rfl⟩ | refine ⟨rfl, rfl, rfl, rfl, rfl, rfl, ?_⟩ | refine ⟨?_, ?_⟩)) (by omega)) (fun i => ?_)
  obtain ⟨i, hi⟩ := i
  (conv => whnf)
  split
  · rename_i hc
    have hc : i < k := by simpa using hc
    (conv => whnf)
    refine ⟨rfl, by simp, ⟨rfl, rfl, rfl, rfl, by decide⟩, by simp, ⟨by simp [tab, tabOf, nth]; omega, by simp; omega⟩, ?_⟩
    (conv => whnf)
    refine ⟨⟨i + 1, by omega⟩, (Wk.all (renOf [(2, 4)]) [] (by repeat' (first | exact True.intro | exact id | exact rfl | decide | exact Nat.le_of_ble_eq_true rfl | exact .osl_of rfl (by omega) (by simp) | exact LeB.eq_of (by simp [List.take_of_length_le]; rw [← List.replicate_succ']) (rowsW_free _) | exact .int_of (wrap64_succ hc (show k ≤ maxLen by unfold maxLen; omega)) | exact .ptr rfl (by omega) | exact .osl_of rfl (by omega) rfl | exact .fr rfl | exact LeL.fr rfl | exact .yld rfl (by omega) | exact .eptr rfl (by omega) | exact .osl0 | exact .snil_sl | exact .to_any | exact LeB.fr rfl id id | exact LeB.fr (by simp; done) id id | refine Or.inl ⟨by simp, _, rfl, ?_⟩ | exact Or.inr ⟨by simp, _, _, _, _, rfl⟩ | refine ⟨rfl, rfl, rfl, rfl, rfl, rfl, ?_⟩ | refine ⟨?_, ?_⟩)) (show ∀ b ∈ ([0, 1, 2] : List Nat), ∀ b' ∈ ([0, 1, 2] : List Nat), (renOf [(2, 4)]) b = (renOf [(2, 4)]) b' → b = b' by decide) (fun _ h => by omega) (by omega) (by simp)), by simp only; omega⟩
  · rename_i hc
    have hc : i = k := by simp at hc; omega
    subst hc
    obtain ⟨o, l, nn, hm, m, hq, q, tg⟩ := a
    have hlen := (pathOk_all (right_path hr)).1
    have hall := (pathOk_all (right_path hr)).2
    simp only at hlen hall
    (conv => whnf)
    have hx0 : x ≠ 0 := (badPre_no hb).2.1
    have hpl := pre_long (right_path hr) hx0 hk0
    simp only at hpl
    have fin : ∀ {s : St} {vp : V} (Z : List Nat), longP (prePath l x i) = false → LeV s.h s.nx id 0 Z vp (encLegs fr (prePath l x i)) → (∀ z ∈ Z, hget s.h z ≠ none) →
        ∃ v1 h' nx', Ends 0 s (.tup [.agg [cB o, vp, cW nn, .bool hm, cW m, .bool hq, cW q, encW fr tg], .int .i64 0]) v1 h' nx' ∧ (v1 = prepV fr ⟨o, l, nn, hm, m, hq, q, tg⟩ x i ∧ h' = [] ∧ nx' = 0) := fun Z hlp hv hz => by
      rw [prepV_ok hb h0 (by rw [Int.toNat_natCast]; simp only; rw [hpl, hlp]; rfl)]
      exact Ends.pure Z (.tupL ⟨.aggL ⟨.free .int, hv, .free .int, .free .bool, .free .int, .free .bool, .free .int, .free (encW_free _ _), trivial⟩, .free .int, trivial⟩) hz
    have long : ∀ {s : St} {v : V}, longP (prePath l x i) = true → LeV s.h s.nx id 0 [] v (encA fr noA) → ∃ v1 h' nx', Ends 0 s (.tup [v, .int .i64 3]) v1 h' nx' ∧ (v1 = prepV fr ⟨o, l, nn, hm, m, hq, q, tg⟩ x i ∧ h' = [] ∧ nx' = 0) := fun hlp hv => by
      rw [prepV_long hb h0 (by rw [Int.toNat_natCast]; simp only; rw [hpl, hlp]; rfl)]
      exact Ends.pure [] (.tupL ⟨hv, .free .int, trivial⟩) (by simp)
    rcases l with _ | ⟨⟨st, ns⟩, r⟩
    · (conv => whnf)
      intro _
      (conv => whnf)
      refine ⟨⟨rfl, rfl, rfl, rfl, by decide⟩, by simp, ⟨by simp [tab, tabOf, nth], by simp⟩, ?_⟩
      (conv => whnf)
      intro _
      (conv => whnf)
      (split <;> first | (rename_i hh; exfalso; first | (simp at hh; done) | (simp at hh; omega)) | skip); (conv => whnf)
      intro _
      (conv => whnf)
      refine fin [4, 2] (by simp [longP, prePath]; omega) ?_ (by intro z hz; simp only [List.mem_cons, List.not_mem_nil, or_false] at hz; rcases hz with rfl | rfl <;> exact ne_none_of rfl)
      refine LeV.sl_fr (LeV.freezeR (by simp) rfl (by simp) ?_)
      refine LeR.of_eq (ys := [[.bool false, .osl 2 1 0 i]]) (by simp) ⟨⟨.free .bool, LeV.sl_fr (LeV.freeze_of (by simp) rfl (by simp) (rowsW_free _) (by simp [List.take_of_length_le])), trivial⟩, trivial⟩
    · have hcold := hall ⟨st, ns⟩ (by simp)
      have hns := (legOk_ns hcold).2.1
      simp only at hns
      simp only [List.length_cons] at hlen
      cases st with
      | true =>
        (conv => whnf)
        intro _
        (conv => whnf)
        (split <;> first | (rename_i hh; exfalso; first | (simp at hh; done) | (simp at hh; omega)) | skip); (conv => whnf)
        refine ⟨rfl, _, ⟨by decide, rfl⟩, ?_⟩
        (conv => whnf)
        refine ⟨⟨rfl, rfl, rfl, rfl, by decide⟩, by simp, ⟨by simp [tab, tabOf, nth]; omega, by simp; omega⟩, ?_⟩
        (conv => whnf)
        intro _
        (conv => whnf)
        (split <;> first | (rename_i hh; exfalso; first | (simp at hh; done) | (simp at hh; omega)) | skip); (conv => whnf)
        intro _
        (conv => whnf)
        split
        · rename_i hc8
          (conv => whnf)
          refine long ?_ .noA
          simp at hc8
          refine longP_yes ?_
          simp [prePath]
          omega
        · rename_i hc8
          (conv => whnf)
          refine fin [4, 2] ?_ ?_ (by intro z hz; simp only [List.mem_cons, List.not_mem_nil, or_false] at hz; rcases hz with rfl | rfl <;> exact ne_none_of rfl)
          · simp at hc8
            refine longP_no ?_
            simp [prePath]
            omega
          refine LeV.sl_fr (LeV.freezeR (by simp) rfl (by simp; try omega) ?_)
          refine LeR.of_eq (ys := [.bool false, .osl 2 1 0 i] :: (⟨true, ns⟩ :: r).map (encLeg fr)) (List.take_of_length_le (by simp; omega)) ⟨⟨.free .bool, LeV.sl_fr (LeV.freezeE (by simp) rfl (by simp) (by simp [List.take_of_length_le]) (rowsW_free (List.replicate i x))), trivial⟩, LeR.free (rowsLegs_free _ _)⟩
      | false =>
        (conv => whnf)
        intro _
        (conv => whnf)
        (split <;> first | (rename_i hh; exfalso; first | (simp at hh; done) | (simp at hh; omega)) | skip); (conv => whnf)
        refine ⟨rfl, _, ⟨by decide, rfl⟩, ?_⟩
        (conv => whnf)
        refine ⟨rfl, _, ⟨by decide, rfl⟩, ?_⟩
        (conv => whnf)
        refine ⟨⟨rfl, rfl, rfl, rfl, by decide⟩, by simp, ⟨by simp [tab, tabOf, nth]; omega, by simp; omega⟩, ?_⟩
        (conv => whnf)
        refine ⟨rfl, ⟨by decide, by simp⟩, ?_⟩
        (conv => whnf)
        refine ⟨by kernel_rfl, ?_⟩
        (conv => whnf)
        refine ⟨⟨rfl, rfl, rfl, rfl, by decide⟩, by simp, ⟨by simp [tab, tabOf, nth]; omega, by simp; omega⟩, ?_⟩
        (conv => whnf)
        intro _
        (conv => whnf)
        split
        · rename_i hc8
          (conv => whnf)
          refine long ?_ .noA
          simp at hc8
          refine longP_yes ?_
          simp [prePath]
          omega
        · rename_i hc8
          (conv => whnf)
          intro _
          (conv => whnf)
          split
          · rename_i hc9
            (conv => whnf)
            refine long ?_ .noA
            simp at hc9
            refine longP_yes ?_
            simp [prePath]
            omega
          · rename_i hc9
            (conv => whnf)
            refine fin [5, 3] ?_ ?_ (by intro z hz; simp only [List.mem_cons, List.not_mem_nil, or_false] at hz; rcases hz with rfl | rfl <;> exact ne_none_of rfl)
            · simp at hc8 hc9
              refine longP_no ?_
              simp [prePath]
              omega
            refine LeV.sl_fr (LeV.freezeR (by simp) rfl (by simp; try omega) ?_)
            refine LeR.of_eq (ys := [.bool false, .osl 3 1 0 (i + ns.length)] :: r.map (encLeg fr)) (by simp; exact List.take_of_length_le (by simp; omega)) ⟨⟨.free .bool, LeV.sl_fr (LeV.freezeE (ys := rowsW (List.replicate i x ++ ns)) (by simp) rfl (by simp) (by simp [List.take_of_length_le]) (rowsW_free _)), trivial⟩, LeR.free (rowsLegs_free _ _)⟩
end Go.Proofs.Ytcfkendgjinmiaa
/- Contracts: a tag more, by the document. -/
set_option linter.unusedVariables false
set_option linter.unusedSimpArgs false
namespace Go.Proofs.Ytcfkendgjinmiaa
open Go.RowKit
open Go.Proofs.Try (prog)
attribute [local irreducible] CallV RoundV

def insT : List UInt32 → UInt32 → List UInt32
  | [], t => [t]
  | y :: r, t => if t < y then t :: y :: r else y :: insT r t
def anyT (l : List UInt32) (t : UInt32) : Bool := l.any (fun y => decide (t < y))
/-- What has been laid out of the first ones. -/
def outT (l : List UInt32) (t : UInt32) : List UInt32 := if anyT l t then insT l t else l
theorem insT_snoc {l : List UInt32} {t y : UInt32} (h : anyT l t = true) : insT (l ++ [y]) t = insT l t ++ [y] := by
  induction l with
  | nil => simp [anyT] at h
  | cons x r ih =>
    simp only [List.cons_append, insT]
    split
    · rfl
    · rename_i hx
      simp only [anyT, List.any_cons, hx, decide_false, Bool.false_or] at h
      rw [ih h]; rfl
theorem insT_none {l : List UInt32} {t : UInt32} (h : anyT l t = false) : insT l t = l ++ [t] := by
  induction l with
  | nil => rfl
  | cons x r ih =>
    simp only [anyT, List.any_cons, Bool.or_eq_false_iff, decide_eq_false_iff_not] at h
    simp only [insT, List.cons_append]
    rw [if_neg h.1, ih h.2]
theorem anyT_snoc {l : List UInt32} {t y : UInt32} : anyT (l ++ [y]) t = (anyT l t || decide (t < y)) := by simp [anyT]
theorem outT_in {l : List UInt32} {t y : UInt32} (h : anyT l t = false) (hy : t < y) : outT (l ++ [y]) t = l ++ [t] ++ [y] := by
  have h2 : anyT (l ++ [y]) t = true := by rw [anyT_snoc]; simp [hy]
  rw [outT, if_pos h2]
  have : ∀ l : List UInt32, anyT l t = false → insT (l ++ [y]) t = l ++ [t] ++ [y] := by
    intro l hl
    induction l with
    | nil => simp [insT, hy]
    | cons x r ih =>
      simp only [anyT, List.any_cons, Bool.or_eq_false_iff, decide_eq_false_iff_not] at hl
      simp only [insT, List.cons_append]
      rw [if_neg hl.1, ih hl.2]
  exact this l h
theorem outT_old {l : List UInt32} {t y : UInt32} (h : anyT l t = true) : outT (l ++ [y]) t = outT l t ++ [y] := by
  have h2 : anyT (l ++ [y]) t = true := by rw [anyT_snoc]; simp [h]
  rw [outT, if_pos h2, outT, if_pos h, insT_snoc h]
theorem outT_no {l : List UInt32} {t y : UInt32} (h : anyT l t = false) (hy : ¬ t < y) : outT (l ++ [y]) t = outT l t ++ [y] := by
  have h2 : anyT (l ++ [y]) t = false := by rw [anyT_snoc]; simp [h, hy]
  rw [outT, h2, outT, h]; rfl
theorem outT_len {l : List UInt32} {t : UInt32} : (outT l t).length ≤ l.length + 1 := by
  have : ∀ l : List UInt32, (insT l t).length = l.length + 1 := by
    intro l
    induction l with
    | nil => rfl
    | cons x r ih => simp only [insT]; split <;> simp [ih]
  unfold outT
  split
  · exact Nat.le_of_eq (this l)
  · exact Nat.le_succ _
theorem insT_len {l : List UInt32} {t : UInt32} : (insT l t).length = l.length + 1 := by
  induction l with
  | nil => rfl
  | cons x r ih => simp only [insT]; split <;> simp [ih]
def tagE (a : Attrs) (t : UInt32) : Int := if !rightA a then 2 else if a.tags.contains t then 0 else if 16 < a.tags.length + 1 then 3 else 0
def tagA (a : Attrs) (t : UInt32) : Attrs := if tagE a t ≠ 0 then noA else if a.tags.contains t then a else { a with tags := insT a.tags t }
def tagV (fr : Bool) (a : Attrs) (t : UInt32) : V := .tup [encA fr (tagA a t), .int .i64 (tagE a t)]
theorem tagV_bad {fr : Bool} {a : Attrs} {t : UInt32} (h : rightA a = false) : tagV fr a t = .tup [encA fr noA, .int .i64 2] := by simp [tagV, tagA, tagE, h]
theorem tagV_in {fr : Bool} {a : Attrs} {t : UInt32} (h : rightA a = true) (ht : a.tags.contains t = true) : tagV fr a t = .tup [encA fr a, .int .i64 0] := by simp only [tagV, tagA, tagE, h, ht]; rfl
theorem tagV_long {fr : Bool} {a : Attrs} {t : UInt32} (h : rightA a = true) (ht : a.tags.contains t = false) (hl : 16 ≤ a.tags.length) : tagV fr a t = .tup [encA fr noA, .int .i64 3] := by
  have : 16 < a.tags.length + 1 := by omega
  simp only [tagV, tagA, tagE, h, ht, this]; rfl
theorem tagV_new {fr : Bool} {a : Attrs} {t : UInt32} (h : rightA a = true) (ht : a.tags.contains t = false) (hl : a.tags.length < 16) : tagV fr a t = .tup [encA fr { a with tags := insT a.tags t }, .int .i64 0] := by
  have : ¬ 16 < a.tags.length + 1 := by omega
  simp only [tagV, tagA, tagE, h, ht, this]; rfl
theorem contains_succ {l : List UInt32} {t : UInt32} {i : Nat} (hi : i < l.length) (h : (l.take i).contains t = false) (he : l[i] ≠ t) : (l.take (i + 1)).contains t = false := by
  rw [List.take_succ_eq_append_getElem hi, List.contains_eq_any_beq, List.any_append, ← List.contains_eq_any_beq, h]
  simpa using fun e => he e.symm
set_option maxRecDepth 100000 in
set_option maxHeartbeats 4000000 in
theorem ref_tag_ok (fr : Bool) (a : Attrs) (t : UInt32) : PCon prog 35 [encA fr a, cW t] (tagV fr a t) := by
  refine callV_of (fn := Go.Proofs.Try.f35) (body := _) tab_ok mixed rfl rfl (by decide) (by simp [Go.Proofs.Try.f35]) ?_
  (conv => whnf)
  refine callV_pure (right_ok fr a) ⟨.free (encA_free _ _), trivial⟩ ?_
  cases hr : rightA a with
  | false =>
    rw [tagV_bad hr]
    (conv => whnf)
    exact (Ends.pure [] (by first | exact .noA | exact .ptr rfl (by omega) | exact .osl_of rfl (by omega) rfl | exact .fr rfl | exact LeL.fr rfl | exact .yld rfl (by omega) | exact .eptr rfl (by omega) | exact .osl0 | exact .snil_sl | exact .to_any | (refine .tupL ?_; repeat' (first | exact True.intro | exact .noA | exact .ptr rfl (by omega) | exact .osl_of rfl (by omega) rfl | exact .fr rfl | exact LeL.fr rfl | exact .yld rfl (by omega) | exact .eptr rfl (by omega) | exact .osl0 | exact .snil_sl | exact .to_any | refine .aggL ?_ | refine ⟨?_, ?_⟩)) | (refine .aggL ?_; repeat' (first | exact True.intro | exact .noA | exact .ptr rfl (by omega) | exact .osl_of rfl (by omega) rfl | exact .fr rfl | exact LeL.fr rfl | exact .yld rfl (by omega) | exact .eptr rfl (by omega) | exact .osl0 | exact .snil_sl | exact .to_any | refine ⟨?_, ?_⟩))) (by simp))
  | true =>
  have htl : a.tags.length ≤ 16 := by simp [rightA] at hr; have := hr.1.2; omega
  (conv => whnf)
  refine vcg_loop tab_ok mixed (fun i : {i : Nat // i ≤ a.tags.length ∧ (a.tags.take i).contains t = false} => ⟨[(1, cW t), (2, .ptr 0 0), (4, .ptr 1 0), (6, .osl 2 1 0 (outT (a.tags.take i.1) t).length), (7, .bool (anyT (a.tags.take i.1) t)), (8, cI i.1)], [(0, some (.var true 26 (cellsA fr a))), (1, some (.var true 26 zeroA)), (2, some (.arr true false 23 1 (rowsW (outT (a.tags.take i.1) t))))], 3⟩) (fun i => a.tags.length - i.1) ⟨0, by omega, rfl⟩ (Wk.i (by repeat' (first | exact True.intro | exact id | exact rfl | decide | exact Nat.le_of_ble_eq_true rfl | exact .ptr rfl (by omega) | exact .osl_of rfl (by omega) rfl | exact .fr rfl | exact LeL.fr rfl | exact .yld rfl (by omega) | exact .eptr rfl (by omega) | exact .osl0 | exact .snil_sl | exact .to_any | exact LeB.fr rfl id id | exact LeB.fr (by simp; done) id id | refine Or.inl ⟨by simp, _, rfl, ?_⟩ | exact Or.inr ⟨by simp, _, _, _, _, rfl⟩ | refine ⟨rfl, rfl, rfl, rfl, rfl, rfl, ?_⟩ | refine ⟨?_, ?_⟩)) (by omega)) (fun i => ?_)
  obtain ⟨i, hi, hno⟩ := i
  (conv => whnf)
  intro _
  (conv => whnf)
  split
  · rename_i hc
    have hc : i < a.tags.length := by simpa using hc
    have htk := List.take_succ_eq_append_getElem hc
    have hlen := outT_len (l := a.tags.take i) (t := t)
    rw [List.length_take, Nat.min_eq_left hi] at hlen
    (conv => whnf)
    refine ⟨rfl, _, ⟨by first | omega | (simp only; omega), idxW hc⟩, ?_⟩
    (conv => whnf)
    split
    · rename_i he
      have he : a.tags[i] = t := by simp at he; exact UInt32.toNat_inj.1 (by omega)
      rw [tagV_in hr (by simp; rw [← he]; exact List.getElem_mem hc)]
      (conv => whnf)
      exact (Ends.pure [] (by first | exact .ptr rfl (by omega) | exact .osl_of rfl (by omega) rfl | exact .fr rfl | exact LeL.fr rfl | exact .yld rfl (by omega) | exact .eptr rfl (by omega) | exact .osl0 | exact .snil_sl | exact .to_any) (by simp))
    · rename_i he
      have he : a.tags[i] ≠ t := by intro e; rw [e] at he; simp at he
      have hno' := contains_succ hc hno he
      (conv => whnf)
      cases hth : anyT (a.tags.take i) t with
      | true =>
        (conv => whnf)
        refine ⟨rfl, _, ⟨by first | omega | (simp only; omega), idxW hc⟩, ?_⟩
        (conv => whnf)
        refine ⟨rfl, by simp, ⟨rfl, rfl, rfl, rfl, by decide⟩, by simp, ⟨by simp [tab, tabOf, nth]; omega, by simp; omega⟩, ?_⟩
        (conv => whnf)
        have hout : outT (a.tags.take (i + 1)) t = outT (a.tags.take i) t ++ [a.tags[i]] := by rw [htk, outT_old hth]
        have hany : anyT (a.tags.take (i + 1)) t = true := by rw [htk, anyT_snoc, hth]; rfl
        exact ⟨⟨i + 1, by omega, hno'⟩, (Wk.all (renOf [(2, 4)]) [] (by repeat' (first | exact True.intro | exact id | exact rfl | decide | exact Nat.le_of_ble_eq_true rfl | exact .osl_of rfl (by omega) (by simp [hout]) | exact LeB.eq_of (by simp [hout]; exact List.take_of_length_le (by simp)) (rowsW_free _) | exact .bool_of (by simp only [hany]) | exact .int_of (wrap64_succ hc (show a.tags.length ≤ maxLen by unfold maxLen; omega)) | exact .ptr rfl (by omega) | exact .osl_of rfl (by omega) rfl | exact .fr rfl | exact LeL.fr rfl | exact .yld rfl (by omega) | exact .eptr rfl (by omega) | exact .osl0 | exact .snil_sl | exact .to_any | exact LeB.fr rfl id id | exact LeB.fr (by simp; done) id id | refine Or.inl ⟨by simp, _, rfl, ?_⟩ | exact Or.inr ⟨by simp, _, _, _, _, rfl⟩ | refine ⟨rfl, rfl, rfl, rfl, rfl, rfl, ?_⟩ | refine ⟨?_, ?_⟩)) (show ∀ b ∈ ([0, 1, 2] : List Nat), ∀ b' ∈ ([0, 1, 2] : List Nat), (renOf [(2, 4)]) b = (renOf [(2, 4)]) b' → b = b' by decide) (fun _ h => by omega) (by omega) (by simp)), by simp only; omega⟩
      | false =>
        (conv => whnf)
        refine ⟨rfl, _, ⟨by first | omega | (simp only; omega), idxW hc⟩, ?_⟩
        (conv => whnf)
        split
        · rename_i hg
          have hg : t < a.tags[i] := by simp at hg; exact UInt32.lt_iff_toNat_lt.2 (by omega)
          have hout : outT (a.tags.take (i + 1)) t = outT (a.tags.take i) t ++ [t] ++ [a.tags[i]] := by rw [htk, outT_in hth hg, outT, hth]; rfl
          have hany : anyT (a.tags.take (i + 1)) t = true := by rw [htk, anyT_snoc]; simp [hg]
          (conv => whnf)
          refine ⟨rfl, by simp, ⟨rfl, rfl, rfl, rfl, by decide⟩, by simp, ⟨by simp [tab, tabOf, nth]; omega, by simp; omega⟩, ?_⟩
          (conv => whnf)
          refine ⟨rfl, _, ⟨by first | omega | (simp only; omega), idxW hc⟩, ?_⟩
          (conv => whnf)
          refine ⟨rfl, by simp, ⟨rfl, rfl, rfl, rfl, by decide⟩, by simp, ⟨by simp [tab, tabOf, nth]; omega, by simp; omega⟩, ?_⟩
          (conv => whnf)
          exact ⟨⟨i + 1, by omega, hno'⟩, (Wk.all (renOf [(2, 6)]) [] (by repeat' (first | exact True.intro | exact id | exact rfl | decide | exact Nat.le_of_ble_eq_true rfl | exact .osl_of rfl (by omega) (by simp [hout]) | exact LeB.eq_of (by simp [hout]; rw [List.take_of_length_le (by simp)]; rw [List.take_of_length_le (by simp)]; simp) (rowsW_free _) | exact .bool_of (by simp only [hany]) | exact .int_of (wrap64_succ hc (show a.tags.length ≤ maxLen by unfold maxLen; omega)) | exact .ptr rfl (by omega) | exact .osl_of rfl (by omega) rfl | exact .fr rfl | exact LeL.fr rfl | exact .yld rfl (by omega) | exact .eptr rfl (by omega) | exact .osl0 | exact .snil_sl | exact .to_any | exact LeB.fr rfl id id | exact LeB.fr (by simp; done) id id | refine Or.inl ⟨by simp, _, rfl, ?_⟩ | exact Or.inr ⟨by simp, _, _, _, _, rfl⟩ | refine ⟨rfl, rfl, rfl, rfl, rfl, rfl, ?_⟩ | refine ⟨?_, ?_⟩)) (show ∀ b ∈ ([0, 1, 2] : List Nat), ∀ b' ∈ ([0, 1, 2] : List Nat), (renOf [(2, 6)]) b = (renOf [(2, 6)]) b' → b = b' by decide) (fun _ h => by omega) (by omega) (by simp)), by simp only; omega⟩
        · rename_i hg
          have hg : ¬ t < a.tags[i] := by simp at hg; intro h; have := UInt32.lt_iff_toNat_lt.1 h; omega
          have hout : outT (a.tags.take (i + 1)) t = outT (a.tags.take i) t ++ [a.tags[i]] := by rw [htk, outT_no hth hg]
          have hany : anyT (a.tags.take (i + 1)) t = false := by rw [htk, anyT_snoc]; simp [hg, hth]
          (conv => whnf)
          refine ⟨rfl, _, ⟨by first | omega | (simp only; omega), idxW hc⟩, ?_⟩
          (conv => whnf)
          refine ⟨rfl, by simp, ⟨rfl, rfl, rfl, rfl, by decide⟩, by simp, ⟨by simp [tab, tabOf, nth]; omega, by simp; omega⟩, ?_⟩
          (conv => whnf)
          exact ⟨⟨i + 1, by omega, hno'⟩, (Wk.all (renOf [(2, 4)]) [] (by repeat' (first | exact True.intro | exact id | exact rfl | decide | exact Nat.le_of_ble_eq_true rfl | exact .osl_of rfl (by omega) (by simp [hout]) | exact LeB.eq_of (by simp [hout]; exact List.take_of_length_le (by simp)) (rowsW_free _) | exact .bool_of (by simp only [hany]) | exact .int_of (wrap64_succ hc (show a.tags.length ≤ maxLen by unfold maxLen; omega)) | exact .ptr rfl (by omega) | exact .osl_of rfl (by omega) rfl | exact .fr rfl | exact LeL.fr rfl | exact .yld rfl (by omega) | exact .eptr rfl (by omega) | exact .osl0 | exact .snil_sl | exact .to_any | exact LeB.fr rfl id id | exact LeB.fr (by simp; done) id id | refine Or.inl ⟨by simp, _, rfl, ?_⟩ | exact Or.inr ⟨by simp, _, _, _, _, rfl⟩ | refine ⟨rfl, rfl, rfl, rfl, rfl, rfl, ?_⟩ | refine ⟨?_, ?_⟩)) (show ∀ b ∈ ([0, 1, 2] : List Nat), ∀ b' ∈ ([0, 1, 2] : List Nat), (renOf [(2, 4)]) b = (renOf [(2, 4)]) b' → b = b' by decide) (fun _ h => by omega) (by omega) (by simp)), by simp only; omega⟩
  · rename_i hc
    have hc : i = a.tags.length := by simp at hc; omega
    subst hc
    rw [List.take_length] at hno
    have long : ∀ {s : St} {v : V}, 16 ≤ a.tags.length → LeV s.h s.nx id 0 [] v (encA fr noA) → ∃ v1 h' nx', Ends 0 s (.tup [v, .int .i64 3]) v1 h' nx' ∧ (v1 = tagV fr a t ∧ h' = [] ∧ nx' = 0) := fun hl hv => by
      rw [tagV_long hr hno hl]
      exact Ends.pure [] (.tupL ⟨hv, .free .int, trivial⟩) (by simp)
    have fin : ∀ {s : St} {vt : V} (Z : List Nat), a.tags.length < 16 → LeV s.h s.nx id 0 Z vt (encW fr (insT a.tags t)) → (∀ z ∈ Z, hget s.h z ≠ none) →
        ∃ v1 h' nx', Ends 0 s (.tup [.agg [cB a.origin, encLegs fr a.path, cW a.next, .bool a.hasMed, cW a.med, .bool a.hasPref, cW a.pref, vt], .int .i64 0]) v1 h' nx' ∧ (v1 = tagV fr a t ∧ h' = [] ∧ nx' = 0) := fun Z hl hv hz => by
      rw [tagV_new hr hno hl]
      exact Ends.pure Z (.tupL ⟨.aggL ⟨.free .int, .free (encLegs_free _ _), .free .int, .free .bool, .free .int, .free .bool, .free .int, hv, trivial⟩, .free .int, trivial⟩) hz
    (conv => whnf)
    split
    rotate_left
    · rename_i hth
      have hth : anyT a.tags t = true := by simpa using hth
      have ho : outT (a.tags.take a.tags.length) t = insT a.tags t := by rw [List.take_length, outT, if_pos hth]
      (conv => whnf)
      intro _
      (conv => whnf)
      split
      · rename_i h16
        (conv => whnf)
        exact long (by simp only [ho] at h16; simp [insT_len] at h16; omega) .noA
      · rename_i h16
        (conv => whnf)
        exact fin [2] (by simp only [ho] at h16; simp [insT_len] at h16; omega) (LeV.sl_fr (LeV.freezeE (by simp) rfl (by simp) (by simp only [ho]; simp [List.take_of_length_le]) (rowsW_free _))) (by intro z hz; simp only [List.mem_cons, List.not_mem_nil, or_false] at hz; rcases hz with rfl <;> exact ne_none_of rfl)
    · rename_i hth
      have hth : anyT a.tags t = false := by simpa using hth
      have ho : outT (a.tags.take a.tags.length) t = a.tags := by rw [List.take_length, outT, hth]; rfl
      have hi2 : insT a.tags t = a.tags ++ [t] := insT_none hth
      (conv => whnf)
      refine ⟨rfl, by simp, ⟨rfl, rfl, rfl, rfl, by decide⟩, by simp, ⟨by simp only [ho]; simp [tab, tabOf, nth]; omega, by simp only [ho]; simp; omega⟩, ?_⟩
      (conv => whnf)
      intro _
      (conv => whnf)
      split
      · rename_i h16
        (conv => whnf)
        exact long (by simp only [ho] at h16; simp at h16; omega) .noA
      · rename_i h16
        (conv => whnf)
        exact fin [4] (by simp only [ho] at h16; simp at h16; omega) (LeV.sl_fr (LeV.freezeE (ys := rowsW (insT a.tags t)) (by simp) rfl (by simp) (by simp only [ho, hi2]; simp [List.take_of_length_le]) (rowsW_free _))) (by intro z hz; simp only [List.mem_cons, List.not_mem_nil, or_false] at hz; rcases hz with rfl <;> exact ne_none_of rfl)
end Go.Proofs.Ytcfkendgjinmiaa
/- Contracts: a number is looked for among rising ones. -/
set_option linter.unusedVariables false
set_option linter.unusedSimpArgs false
namespace Go.Proofs.Ytcfkendgjinmiaa
open Go.RowKit
open Go.Proofs.Try (prog)
attribute [local irreducible] CallV RoundV

set_option maxRecDepth 100000 in
theorem cmpNaN_ok (x : UInt32) : PCon prog 105 [cW x] (.bool false) := by
  refine callV_of (fn := Go.Proofs.Try.f105) (body := _) tab_ok mixed rfl rfl (by decide) (by simp [Go.Proofs.Try.f105]) ?_
  (conv => whnf)
  exact (Ends.pure [] (by first | exact .bool_of (by simp) | exact .ptr rfl (by omega) | exact .osl_of rfl (by omega) rfl | exact .fr rfl | exact LeL.fr rfl | exact .yld rfl (by omega) | exact .eptr rfl (by omega) | exact .osl0 | exact .snil_sl | exact .to_any | (refine .tupL ?_; repeat' (first | exact True.intro | exact .bool_of (by simp) | exact .ptr rfl (by omega) | exact .osl_of rfl (by omega) rfl | exact .fr rfl | exact LeL.fr rfl | exact .yld rfl (by omega) | exact .eptr rfl (by omega) | exact .osl0 | exact .snil_sl | exact .to_any | refine .aggL ?_ | refine ⟨?_, ?_⟩)) | (refine .aggL ?_; repeat' (first | exact True.intro | exact .bool_of (by simp) | exact .ptr rfl (by omega) | exact .osl_of rfl (by omega) rfl | exact .fr rfl | exact LeL.fr rfl | exact .yld rfl (by omega) | exact .eptr rfl (by omega) | exact .osl0 | exact .snil_sl | exact .to_any | refine ⟨?_, ?_⟩))) (by simp))
set_option maxRecDepth 100000 in
theorem slNaN_ok (x : UInt32) : PCon prog 92 [cW x] (.bool false) := by
  refine callV_of (fn := Go.Proofs.Try.f92) (body := _) tab_ok mixed rfl rfl (by decide) (by simp [Go.Proofs.Try.f92]) ?_
  (conv => whnf)
  exact (Ends.pure [] (by first | exact .bool_of (by simp) | exact .ptr rfl (by omega) | exact .osl_of rfl (by omega) rfl | exact .fr rfl | exact LeL.fr rfl | exact .yld rfl (by omega) | exact .eptr rfl (by omega) | exact .osl0 | exact .snil_sl | exact .to_any | (refine .tupL ?_; repeat' (first | exact True.intro | exact .bool_of (by simp) | exact .ptr rfl (by omega) | exact .osl_of rfl (by omega) rfl | exact .fr rfl | exact LeL.fr rfl | exact .yld rfl (by omega) | exact .eptr rfl (by omega) | exact .osl0 | exact .snil_sl | exact .to_any | refine .aggL ?_ | refine ⟨?_, ?_⟩)) | (refine .aggL ?_; repeat' (first | exact True.intro | exact .bool_of (by simp) | exact .ptr rfl (by omega) | exact .osl_of rfl (by omega) rfl | exact .fr rfl | exact LeL.fr rfl | exact .yld rfl (by omega) | exact .eptr rfl (by omega) | exact .osl0 | exact .snil_sl | exact .to_any | refine ⟨?_, ?_⟩))) (by simp))
set_option maxRecDepth 100000 in
theorem less32_ok (x y : UInt32) : PCon prog 91 [cW x, cW y] (.bool (decide (x < y))) := by
  refine callV_of (fn := Go.Proofs.Try.f91) (body := _) tab_ok mixed rfl rfl (by decide) (by simp [Go.Proofs.Try.f91]) ?_
  (conv => whnf)
  refine callV_pure (cmpNaN_ok x) ⟨.free .int, trivial⟩ ?_
  (conv => whnf)
  exact (Ends.pure [] (by first | exact .bool_of (by rw [decide_eq_decide, UInt32.lt_iff_toNat_lt]; omega) | exact .ptr rfl (by omega) | exact .osl_of rfl (by omega) rfl | exact .fr rfl | exact LeL.fr rfl | exact .yld rfl (by omega) | exact .eptr rfl (by omega) | exact .osl0 | exact .snil_sl | exact .to_any | (refine .tupL ?_; repeat' (first | exact True.intro | exact .bool_of (by rw [decide_eq_decide, UInt32.lt_iff_toNat_lt]; omega) | exact .ptr rfl (by omega) | exact .osl_of rfl (by omega) rfl | exact .fr rfl | exact LeL.fr rfl | exact .yld rfl (by omega) | exact .eptr rfl (by omega) | exact .osl0 | exact .snil_sl | exact .to_any | refine .aggL ?_ | refine ⟨?_, ?_⟩)) | (refine .aggL ?_; repeat' (first | exact True.intro | exact .bool_of (by rw [decide_eq_decide, UInt32.lt_iff_toNat_lt]; omega) | exact .ptr rfl (by omega) | exact .osl_of rfl (by omega) rfl | exact .fr rfl | exact LeL.fr rfl | exact .yld rfl (by omega) | exact .eptr rfl (by omega) | exact .osl0 | exact .snil_sl | exact .to_any | refine ⟨?_, ?_⟩))) (by simp))
theorem half (i j : Nat) (h : i + j < 1000000) : IntKind.i64.wrap ((IntKind.u64.wrap (IntKind.i64.wrap ((i : Int) + (j : Int)))).fdiv (2 ^ (min (Int.toNat 1) IntKind.u64.bits))) = (((i + j) / 2 : Nat) : Int) := by
  rw [wrap64 (n := (i : Int) + (j : Int)) (by omega) (by omega), wrapu64, Int.emod_eq_of_lt (by omega) (by omega)]
  rw [show min (Int.toNat 1) IntKind.u64.bits = 1 by decide]
  rw [Int.fdiv_eq_ediv_of_nonneg _ (by decide), wrap64 (by omega) (by omega)]
  omega
theorem rises_lt : ∀ {l : List UInt32}, rises l = true → ∀ {i j : Nat} (hi : i < j) (hj : j < l.length), l[i] < l[j]
  | [], _, i, j, _, hj => by simp at hj
  | [a], _, i, j, hi, hj => by simp at hj; omega
  | a :: b :: r, h, i, j, hi, hj => by
    simp only [rises, Bool.and_eq_true, decide_eq_true_eq] at h
    cases j with
    | zero => omega
    | succ j =>
      cases i with
      | zero =>
        cases j with
        | zero => exact h.1
        | succ j =>
          have := rises_lt h.2 (i := 0) (j := j + 1) (by omega) (by simpa using hj)
          simp only [List.getElem_cons_zero, List.getElem_cons_succ] at this ⊢
          rw [UInt32.lt_iff_toNat_lt] at *
          have h1 := h.1
          omega
      | succ i =>
        have := rises_lt h.2 (i := i) (j := j) (by omega) (by simpa using hj)
        simpa using this
structure Bs (l : List UInt32) (t : UInt32) where
  i : Nat
  j : Nat
  hij : i ≤ j
  hj : j ≤ l.length
  lo : ∀ (k : Nat) (hk : k < l.length), k < i → l[k] < t
  hi : ∀ (k : Nat) (hk : k < l.length), j ≤ k → ¬ l[k] < t
set_option maxRecDepth 100000 in
set_option maxHeartbeats 4000000 in
theorem bs_ok (fr : Bool) (l : List UInt32) (t : UInt32) (hr : rises l = true) (hl : l.length ≤ 1000) : ∃ i, i ≤ l.length ∧ (∀ (k : Nat) (hk : k < l.length), k < i → l[k] < t) ∧ (∀ (k : Nat) (hk : k < l.length), i ≤ k → ¬ l[k] < t) ∧
    PCon prog 57 [encW fr l, cW t] (.tup [cI i, .bool (l.contains t)]) := by
  -- the place
  have place : ∀ l : List UInt32, rises l = true → ∃ i, i ≤ l.length ∧ (∀ (k : Nat) (hk : k < l.length), k < i → l[k] < t) ∧ (∀ (k : Nat) (hk : k < l.length), i ≤ k → ¬ l[k] < t) := by
    intro l hr
    refine ⟨l.findIdx (fun y => !decide (y < t)), List.findIdx_le_length, fun k hk hlt => ?_, fun k hk hle => ?_⟩
    · have := List.not_of_lt_findIdx hlt
      simpa using this
    · have hlt : l.findIdx (fun y => !decide (y < t)) < l.length := by omega
      have h1 := List.findIdx_getElem (w := hlt)
      simp only [Bool.not_eq_true', decide_eq_false_iff_not] at h1
      rcases Nat.lt_or_ge (l.findIdx (fun y => !decide (y < t))) k with h2 | h2
      · have h3 := rises_lt hr h2 hk
        rw [UInt32.lt_iff_toNat_lt] at *
        omega
      · have : l.findIdx (fun y => !decide (y < t)) = k := by omega
        simp only [this] at h1
        exact h1
  obtain ⟨p, hp, plo, phi⟩ := place l hr
  refine ⟨p, hp, plo, phi, ?_⟩
  refine callV_of (fn := Go.Proofs.Try.f57) (body := _) tab_ok mixed rfl rfl (by decide) (by simp [Go.Proofs.Try.f57]) ?_
  (conv => whnf)
  intro _
  (conv => whnf)
  refine vcg_loop tab_ok mixed (fun s : Bs l t => ⟨[(0, encW fr l), (1, cW t), (6, cI l.length), (7, cI s.i), (8, cI s.j)], [], 0⟩) (fun s => s.j - s.i) ⟨0, l.length, by omega, by omega, fun k hk h => by omega, fun k hk h => by omega⟩ (Wk.i (by repeat' (first | exact True.intro | exact id | exact rfl | decide | exact Nat.le_of_ble_eq_true rfl | exact .int_of (by simp) | exact .ptr rfl (by omega) | exact .osl_of rfl (by omega) rfl | exact .fr rfl | exact LeL.fr rfl | exact .yld rfl (by omega) | exact .eptr rfl (by omega) | exact .osl0 | exact .snil_sl | exact .to_any | exact LeB.fr rfl id id | exact LeB.fr (by simp; done) id id | refine Or.inl ⟨by simp, _, rfl, ?_⟩ | exact Or.inr ⟨by simp, _, _, _, _, rfl⟩ | refine ⟨rfl, rfl, rfl, rfl, rfl, rfl, ?_⟩ | refine ⟨?_, ?_⟩)) (by omega)) (fun s => ?_)
  obtain ⟨i, j, hij, hj, lo, hi⟩ := s
  (conv => whnf)
  split
  · rename_i hc
    have hc : i < j := by simpa using hc
    have hh := half i j (by omega)
    have hm : (i + j) / 2 < l.length := by omega
    (conv => whnf)
    refine ⟨by decide, ?_⟩
    (conv => whnf)
    simp only [hh]
    refine ⟨trivial, _, ⟨by first | omega | (simp only; omega), idxW hm⟩, ?_⟩
    (conv => whnf)
    refine callV_pure (less32_ok l[(i + j) / 2] t) ⟨.free .int, .free .int, trivial⟩ ?_
    (conv => whnf)
    split
    · rename_i h1
      have h1 : l[(i + j) / 2] < t := by simpa using h1
      (conv => whnf)
      refine ⟨⟨(i + j) / 2 + 1, j, by omega, hj, fun k hk hlt => ?_, hi⟩, (Wk.i (by repeat' (first | exact True.intro | exact id | exact rfl | decide | exact Nat.le_of_ble_eq_true rfl | exact .int_of (wrap64_succ hm (show l.length ≤ maxLen by unfold maxLen; omega)) | exact .ptr rfl (by omega) | exact .osl_of rfl (by omega) rfl | exact .fr rfl | exact LeL.fr rfl | exact .yld rfl (by omega) | exact .eptr rfl (by omega) | exact .osl0 | exact .snil_sl | exact .to_any | exact LeB.fr rfl id id | exact LeB.fr (by simp; done) id id | refine Or.inl ⟨by simp, _, rfl, ?_⟩ | exact Or.inr ⟨by simp, _, _, _, _, rfl⟩ | refine ⟨rfl, rfl, rfl, rfl, rfl, rfl, ?_⟩ | refine ⟨?_, ?_⟩)) (by omega)), by simp only; omega⟩
      rcases Nat.lt_or_ge k ((i + j) / 2) with h2 | h2
      · have := rises_lt hr h2 hm
        rw [UInt32.lt_iff_toNat_lt] at *
        omega
      · obtain rfl : k = (i + j) / 2 := by omega
        exact h1
    · rename_i h1
      have h1 : ¬ l[(i + j) / 2] < t := by simpa using h1
      (conv => whnf)
      refine ⟨⟨i, (i + j) / 2, by omega, by omega, lo, fun k hk hle => ?_⟩, (Wk.i (by repeat' (first | exact True.intro | exact id | exact rfl | decide | exact Nat.le_of_ble_eq_true rfl | exact .ptr rfl (by omega) | exact .osl_of rfl (by omega) rfl | exact .fr rfl | exact LeL.fr rfl | exact .yld rfl (by omega) | exact .eptr rfl (by omega) | exact .osl0 | exact .snil_sl | exact .to_any | exact LeB.fr rfl id id | exact LeB.fr (by simp; done) id id | refine Or.inl ⟨by simp, _, rfl, ?_⟩ | exact Or.inr ⟨by simp, _, _, _, _, rfl⟩ | refine ⟨rfl, rfl, rfl, rfl, rfl, rfl, ?_⟩ | refine ⟨?_, ?_⟩)) (by omega)), by simp only; omega⟩
      rcases Nat.lt_or_ge ((i + j) / 2) k with h2 | h2
      · have := rises_lt hr h2 hk
        rw [UInt32.lt_iff_toNat_lt] at *
        omega
      · obtain rfl : k = (i + j) / 2 := by omega
        exact h1
  · rename_i hc
    have hc : i = j := by simp at hc; omega
    subst hc
    have hpi : i = p := by
      rcases Nat.lt_trichotomy i p with h | h | h
      · exact absurd (plo i (by omega) h) (hi i (by omega) (Nat.le_refl _))
      · exact h
      · exact absurd (lo p (by omega) h) (phi p (by omega) (Nat.le_refl _))
    subst hpi
    have hcont : l.contains t = true ↔ ∃ h : i < l.length, l[i] = t := by
      rw [List.contains_iff_mem]
      constructor
      · intro hm
        obtain ⟨k, hk, e⟩ := List.mem_iff_getElem.1 hm
        rcases Nat.lt_trichotomy k i with h | h | h
        · have := lo k hk h
          rw [e] at this
          exact absurd this (UInt32.lt_irrefl _)
        · subst h; exact ⟨hk, e⟩
        · have h1 := rises_lt hr h hk
          rw [e] at h1
          exact absurd h1 (hi i (by omega) (Nat.le_refl _))
      · rintro ⟨h, e⟩
        exact List.mem_iff_getElem.2 ⟨i, h, e⟩
    (conv => whnf)
    cases hin : decide ((i : Int) < (l.length : Int)) with
    | true =>
      have hin : i < l.length := by simpa using hin
      (conv => whnf)
      refine ⟨rfl, _, ⟨by first | omega | (simp only; omega), idxW hin⟩, ?_⟩
      (conv => whnf)
      cases heq : ((l[i].toNat : Int) == (t.toNat : Int)) with
      | true =>
        have heq : l[i] = t := by simp at heq; exact UInt32.toNat_inj.1 (by omega)
        (conv => whnf)
        exact (Ends.pure [] (by first | exact .int_of rfl | exact .bool_of (by symm; rw [hcont]; exact ⟨hin, heq⟩) | exact .ptr rfl (by omega) | exact .osl_of rfl (by omega) rfl | exact .fr rfl | exact LeL.fr rfl | exact .yld rfl (by omega) | exact .eptr rfl (by omega) | exact .osl0 | exact .snil_sl | exact .to_any | (refine .tupL ?_; repeat' (first | exact True.intro | exact .int_of rfl | exact .bool_of (by symm; rw [hcont]; exact ⟨hin, heq⟩) | exact .ptr rfl (by omega) | exact .osl_of rfl (by omega) rfl | exact .fr rfl | exact LeL.fr rfl | exact .yld rfl (by omega) | exact .eptr rfl (by omega) | exact .osl0 | exact .snil_sl | exact .to_any | refine .aggL ?_ | refine ⟨?_, ?_⟩)) | (refine .aggL ?_; repeat' (first | exact True.intro | exact .int_of rfl | exact .bool_of (by symm; rw [hcont]; exact ⟨hin, heq⟩) | exact .ptr rfl (by omega) | exact .osl_of rfl (by omega) rfl | exact .fr rfl | exact LeL.fr rfl | exact .yld rfl (by omega) | exact .eptr rfl (by omega) | exact .osl0 | exact .snil_sl | exact .to_any | refine ⟨?_, ?_⟩))) (by simp))
      | false =>
        have heq : l[i] ≠ t := by intro e; rw [e] at heq; simp at heq
        (conv => whnf)
        refine ⟨rfl, _, ⟨by first | omega | (simp only; omega), idxW hin⟩, ?_⟩
        (conv => whnf)
        refine callV_pure (slNaN_ok l[i]) ⟨.free .int, trivial⟩ ?_
        (conv => whnf)
        exact (Ends.pure [] (by first | exact .int_of rfl | exact .bool_of (by symm; rw [← Bool.not_eq_true, hcont]; rintro ⟨_, e⟩; exact heq e) | exact .ptr rfl (by omega) | exact .osl_of rfl (by omega) rfl | exact .fr rfl | exact LeL.fr rfl | exact .yld rfl (by omega) | exact .eptr rfl (by omega) | exact .osl0 | exact .snil_sl | exact .to_any | (refine .tupL ?_; repeat' (first | exact True.intro | exact .int_of rfl | exact .bool_of (by symm; rw [← Bool.not_eq_true, hcont]; rintro ⟨_, e⟩; exact heq e) | exact .ptr rfl (by omega) | exact .osl_of rfl (by omega) rfl | exact .fr rfl | exact LeL.fr rfl | exact .yld rfl (by omega) | exact .eptr rfl (by omega) | exact .osl0 | exact .snil_sl | exact .to_any | refine .aggL ?_ | refine ⟨?_, ?_⟩)) | (refine .aggL ?_; repeat' (first | exact True.intro | exact .int_of rfl | exact .bool_of (by symm; rw [← Bool.not_eq_true, hcont]; rintro ⟨_, e⟩; exact heq e) | exact .ptr rfl (by omega) | exact .osl_of rfl (by omega) rfl | exact .fr rfl | exact LeL.fr rfl | exact .yld rfl (by omega) | exact .eptr rfl (by omega) | exact .osl0 | exact .snil_sl | exact .to_any | refine ⟨?_, ?_⟩))) (by simp))
    | false =>
      have hin : ¬ i < l.length := by simpa using hin
      (conv => whnf)
      exact (Ends.pure [] (by first | exact .int_of rfl | exact .bool_of (by symm; rw [← Bool.not_eq_true, hcont]; rintro ⟨h, _⟩; exact hin h) | exact .ptr rfl (by omega) | exact .osl_of rfl (by omega) rfl | exact .fr rfl | exact LeL.fr rfl | exact .yld rfl (by omega) | exact .eptr rfl (by omega) | exact .osl0 | exact .snil_sl | exact .to_any | (refine .tupL ?_; repeat' (first | exact True.intro | exact .int_of rfl | exact .bool_of (by symm; rw [← Bool.not_eq_true, hcont]; rintro ⟨h, _⟩; exact hin h) | exact .ptr rfl (by omega) | exact .osl_of rfl (by omega) rfl | exact .fr rfl | exact LeL.fr rfl | exact .yld rfl (by omega) | exact .eptr rfl (by omega) | exact .osl0 | exact .snil_sl | exact .to_any | refine .aggL ?_ | refine ⟨?_, ?_⟩)) | (refine .aggL ?_; repeat' (first | exact True.intro | exact .int_of rfl | exact .bool_of (by symm; rw [← Bool.not_eq_true, hcont]; rintro ⟨h, _⟩; exact hin h) | exact .ptr rfl (by omega) | exact .osl_of rfl (by omega) rfl | exact .fr rfl | exact LeL.fr rfl | exact .yld rfl (by omega) | exact .eptr rfl (by omega) | exact .osl0 | exact .snil_sl | exact .to_any | refine ⟨?_, ?_⟩))) (by simp))
end Go.Proofs.Ytcfkendgjinmiaa
/- Contracts: a row put into a slice. -/
set_option linter.unusedVariables false
set_option linter.unusedSimpArgs false
namespace Go.Proofs.Ytcfkendgjinmiaa
open Go.RowKit
open Go.Proofs.Try (prog)
attribute [local irreducible] CallV RoundV

theorem cp_mid {α : Type} {P Q S ys R : List α} {row n : Nat} (hR : R = P ++ Q ++ S) (hq : ys.length = Q.length) (hn : ys.length ≤ n) (hr : row = P.length) : R.take row ++ ys.take n ++ R.drop (row + min ys.length n) = P ++ ys ++ S := by
  subst hr; subst hR
  rw [List.take_of_length_le hn, Nat.min_eq_left hn, List.append_assoc P Q S, List.take_left, hq, ← List.drop_drop, List.drop_left, List.drop_left]
theorem cp_cut {α : Type} {P Q S ys R : List α} {row n : Nat} (hR : R = P ++ Q ++ S) (hq : n = Q.length) (hn : n ≤ ys.length) (hr : row = P.length) : R.take row ++ ys.take n ++ R.drop (row + min ys.length n) = P ++ ys.take n ++ S := by
  subst hr; subst hR
  rw [Nat.min_eq_right hn, List.append_assoc P Q S, List.take_left, hq, ← List.drop_drop, List.drop_left, List.drop_left]
theorem ins_grow {α : Type} {rows : List α} {x z : α} {i : Nat} (he : i < rows.length) :
      List.take (i + 1)
            (List.take i (List.take i rows ++ List.replicate (rows.length + 1 - i) z) ++
                List.take (i + (rows.length + 1 - i) - i) [x] ++
              List.drop (i + min [x].length (i + (rows.length + 1 - i) - i))
                (List.take i rows ++ List.replicate (rows.length + 1 - i) z)) ++
          List.take (i + (rows.length + 1 - i) - (i + 1)) (List.take (rows.length - i) (List.drop i rows)) ++
        List.drop
          (i + 1 + min (List.take (rows.length - i) (List.drop i rows)).length (i + (rows.length + 1 - i) - (i + 1)))
          (List.take i (List.take i rows ++ List.replicate (rows.length + 1 - i) z) ++
              List.take (i + (rows.length + 1 - i) - i) [x] ++
            List.drop (i + min [x].length (i + (rows.length + 1 - i) - i))
              (List.take i rows ++ List.replicate (rows.length + 1 - i) z)) = List.take i rows ++ [x] ++ List.drop i rows := by
  have h1 : rows.length + 1 - i = (rows.length - i) + 1 := by omega
  rw [cp_mid (P := rows.take i) (Q := [z]) (S := List.replicate (rows.length - i) z) (ys := [x]) (R := List.take i rows ++ List.replicate (rows.length + 1 - i) z) (n := i + (rows.length + 1 - i) - i) (row := i) (by rw [h1, List.replicate_succ]; simp) rfl (by simp; omega) (by simp; omega)]
  rw [List.take_of_length_le (l := rows.drop i) (by simp)]
  rw [cp_mid (P := rows.take i ++ [x]) (Q := List.replicate (rows.length - i) z) (S := []) (ys := rows.drop i) (R := rows.take i ++ [x] ++ List.replicate (rows.length - i) z) (n := i + (rows.length + 1 - i) - (i + 1)) (row := i + 1) (by simp) (by simp) (by simp; omega) (by simp; omega)]
  rw [List.append_nil]
theorem ins_shift {α : Type} {rows : List α} {x z : α} {i k : Nat} (he : i < rows.length) (hk : 0 < k) :
      List.take i
            (List.take (i + 1) (rows ++ List.replicate k z) ++
                List.take (rows.length + 1 - (i + 1))
                  (List.take (rows.length + 1 - i) (List.drop i (rows ++ List.replicate k z))) ++
              List.drop
                (i + 1 +
                  min
                    (List.take (rows.length + 1 - i)
                        (List.drop i (rows ++ List.replicate k z))).length
                    (rows.length + 1 - (i + 1)))
                (rows ++ List.replicate k z)) ++
          List.take (rows.length + 1 - i) [x] ++
        List.drop (i + min [x].length (rows.length + 1 - i))
          (List.take (i + 1) (rows ++ List.replicate k z) ++
              List.take (rows.length + 1 - (i + 1))
                (List.take (rows.length + 1 - i) (List.drop i (rows ++ List.replicate k z))) ++
            List.drop
              (i + 1 +
                min
                  (List.take (rows.length + 1 - i)
                      (List.drop i (rows ++ List.replicate k z))).length
                  (rows.length + 1 - (i + 1)))
              (rows ++ List.replicate k z)) = List.take i rows ++ [x] ++ List.drop i rows ++ List.replicate (k - 1) z := by
  obtain ⟨k, rfl⟩ : ∃ j, k = j + 1 := ⟨k - 1, by omega⟩
  have hd : rows.drop i = rows[i] :: rows.drop (i + 1) := List.drop_eq_getElem_cons he
  have hys : List.take (rows.length + 1 - i) (List.drop i (rows ++ List.replicate (k + 1) z)) = rows.drop i ++ [z] := by
    rw [List.drop_append_of_le_length (by omega), List.take_append, List.take_of_length_le (by simp; omega), List.length_drop, show rows.length + 1 - i - (rows.length - i) = 1 by omega, List.replicate_succ]
    rfl
  rw [hys]
  rw [cp_cut (P := rows.take (i + 1)) (Q := rows.drop (i + 1) ++ [z]) (S := List.replicate k z) (ys := rows.drop i ++ [z]) (R := rows ++ List.replicate (k + 1) z) (n := rows.length + 1 - (i + 1)) (row := i + 1) (by rw [← List.append_assoc, List.take_append_drop, List.replicate_succ]; simp) (by simp; omega) (by simp) (by simp; omega)]
  rw [List.take_append_of_le_length (l₁ := rows.drop i) (l₂ := [z]) (by simp), List.take_of_length_le (l := rows.drop i) (by simp)]
  rw [cp_mid (P := rows.take i) (Q := [rows[i]]) (S := rows.drop i ++ List.replicate k z) (ys := [x]) (R := rows.take (i + 1) ++ rows.drop i ++ List.replicate k z) (n := rows.length + 1 - i) (row := i) (by rw [List.take_succ_eq_append_getElem he]; simp) rfl (by simp; omega) (by simp; omega)]
  simp
theorem insRows_free {rows : List (List V)} {x : List V} {i : Nat} (hf : ∀ r ∈ rows, ∀ v ∈ r, Free v) (hx : ∀ v ∈ x, Free v) : ∀ r ∈ rows.take i ++ [x] ++ rows.drop i, ∀ v ∈ r, Free v := by
  intro r hr v hv
  simp only [List.mem_append, List.mem_singleton] at hr
  rcases hr with (h | rfl) | h
  · exact hf r (List.mem_of_mem_take h) v hv
  · exact hx v hv
  · exact hf r (List.mem_of_mem_drop h) v hv
theorem insRows_free' {rows : List (List V)} {x : List V} {i k n : Nat} (hf : ∀ r ∈ rows, ∀ v ∈ r, Free v) (hx : ∀ v ∈ x, Free v) : ∀ r ∈ rows.take i ++ [x] ++ rows.drop i ++ List.replicate k (List.replicate n .any), ∀ v ∈ r, Free v := by
  intro r hr v hv
  rcases List.mem_append.1 hr with h | h
  · exact insRows_free hf hx r h v hv
  · rw [List.eq_of_mem_replicate h] at hv
    rw [List.eq_of_mem_replicate hv]
    exact .any
set_option maxRecDepth 100000 in
set_option maxHeartbeats 4000000 in
theorem insertW_ok (rows : List (List V)) (x : List V) (hf : ∀ r ∈ rows, ∀ v ∈ r, Free v) (hx : ∀ v ∈ x, Free v) (ex : Bool) (hex : rows ≠ [] → ex = true) (i k : Nat) (hl : rows.length ≤ 1000) (hi : i ≤ rows.length) :
    CallV prog 58 [.osl 0 1 0 rows.length, cI i, .osl 1 1 0 1] [(0, some (.arr true ex 23 1 (rows ++ List.replicate k (List.replicate 1 .any)))), (1, some (.arr true true 23 1 [x]))] 2
      (fun v h' nx' => ∃ k', v = .osl 2 1 0 (rows.length + 1) ∧ h' = [(2, some (.arr true false 23 1 (rows.take i ++ [x] ++ rows.drop i ++ List.replicate k' (List.replicate 1 .any))))] ∧ nx' = 3) := by
  refine callV_of (fn := Go.Proofs.Try.f58) (body := _) tab_ok mixed rfl rfl (by decide) (by simp [Go.Proofs.Try.f58]) ?_
  (conv => whnf)
  refine ⟨rfl, ⟨by simp, by simp; omega⟩, ?_⟩
  (conv => whnf)
  intro _
  (conv => whnf)
  intro _
  (conv => whnf)
  split
  · rename_i he
    have he : i = rows.length := by simp at he; omega
    subst he
    (conv => whnf)
    refine ⟨rfl, by simp, ⟨rfl, rfl, rfl, rfl, by decide⟩, by simp, ⟨by simp [tab, tabOf, nth]; omega, by simp; omega⟩, ?_⟩
    (conv => whnf)
    refine ⟨_, _, _, ?_, 0, rfl, rfl, rfl⟩
    exact (Ends.all id [] (by repeat' (first | exact True.intro | exact id | exact rfl | decide | exact Nat.le_of_ble_eq_true rfl | exact .osl_of rfl (by omega) (by simp) | exact LeB.eq_of (by simp [List.take_of_length_le]) (insRows_free' hf hx) | exact .ptr rfl (by omega) | exact .osl_of rfl (by omega) rfl | exact .fr rfl | exact LeL.fr rfl | exact .yld rfl (by omega) | exact .eptr rfl (by omega) | exact .osl0 | exact .snil_sl | exact .to_any | exact LeB.fr rfl id id | exact LeB.fr (by simp; done) id id | refine Or.inl ⟨by simp, _, rfl, ?_⟩ | exact Or.inr ⟨by simp, _, _, _, _, rfl⟩ | refine ⟨rfl, rfl, rfl, rfl, rfl, rfl, ?_⟩ | refine ⟨?_, ?_⟩)) (fun _ _ _ _ h => h) (fun _ _ => rfl) (by omega) (by simp))
  · rename_i he
    have he : i < rows.length := by simp at he; omega
    obtain rfl := hex (fun e => by subst e; simp at he)
    (conv => whnf)
    refine ⟨⟨rfl, by decide, by omega, rfl⟩, ?_⟩
    (conv => whnf)
    have hw1 : IntKind.i64.wrap ((rows.length : Int) + ((1 : Nat) : Int)) = ((rows.length + 1 : Nat) : Int) := by rw [wrap64] <;> omega
    have hw2 : IntKind.i64.wrap (IntKind.i64.wrap ((rows.length : Int) + ((1 : Nat) : Int)) - (i : Int)) = ((rows.length + 1 - i : Nat) : Int) := by rw [hw1, wrap64] <;> omega
    have hw3 : IntKind.i64.wrap ((i : Int) + ((1 : Nat) : Int)) = ((i + 1 : Nat) : Int) := by rw [wrap64] <;> omega
    split
    · rename_i hc
      have hk0 : k = 0 := by rw [hw1] at hc; simp at hc; omega
      subst hk0
      (conv => whnf)
      refine ⟨rfl, .own, ⟨trivial, by simp, by simp, by simp; omega⟩, ?_⟩
      (conv => whnf)
      refine ⟨⟨rfl, rfl, rfl, by decide, by rw [hw2]; omega⟩, by simp; omega, ⟨by rw [hw2]; simp [tab, tabOf, nth]; omega, by rw [hw2]; simp; omega⟩, true, ⟨rfl, by rw [hw2]; simp; omega⟩, ?_⟩
      (conv => whnf)
      refine ⟨rfl, ⟨by simp, by simp⟩, ?_⟩
      (conv => whnf)
      refine ⟨rfl, by simp, ⟨rfl, rfl, rfl⟩, by rw [hw2]; simp; omega, ?_⟩
      (conv => whnf)
      refine ⟨rfl, ⟨by rw [hw3]; omega, by rw [hw2, hw3]; simp; omega⟩, ?_⟩
      (conv => whnf)
      refine ⟨rfl, ⟨by simp, by simp; omega⟩, ?_⟩
      (conv => whnf)
      refine ⟨rfl, by simp, ⟨rfl, rfl, rfl⟩, by rw [hw2, hw3]; simp; omega, ?_⟩
      (conv => whnf)
      refine ⟨by kernel_rfl, ?_⟩
      (conv => whnf)
      refine ⟨_, _, _, ?_, 0, rfl, rfl, rfl⟩
      refine (Ends.all id [] (by repeat' (first | exact True.intro | exact id | exact rfl | decide | exact Nat.le_of_ble_eq_true rfl | exact .osl_of rfl (by omega) (by rw [hw2]; simp; omega) | exact ⟨id, (fun h => by cases h), rfl, rfl, LeR.out (LeR.of_eq (by simp only [hw2, hw3, Int.toNat_natCast, Nat.zero_add, Nat.sub_zero, List.drop_zero, List.take_succ_cons, List.take_zero, List.replicate_zero, List.append_nil]; exact ins_grow he) (LeR.free (insRows_free' hf hx)))⟩ | exact .ptr rfl (by omega) | exact .osl_of rfl (by omega) rfl | exact .fr rfl | exact LeL.fr rfl | exact .yld rfl (by omega) | exact .eptr rfl (by omega) | exact .osl0 | exact .snil_sl | exact .to_any | exact LeB.fr rfl id id | exact LeB.fr (by simp; done) id id | refine Or.inl ⟨by simp, _, rfl, ?_⟩ | exact Or.inr ⟨by simp, _, _, _, _, rfl⟩ | refine ⟨rfl, rfl, rfl, rfl, rfl, rfl, ?_⟩ | refine ⟨?_, ?_⟩)) (fun _ _ _ _ h => h) (fun _ _ => rfl) (by omega) (by simp))
    · rename_i hc
      have hk0 : 0 < k := by rw [hw1] at hc; simp at hc; omega
      (conv => whnf)
      refine ⟨rfl, .past, rfl, by decide, by omega, ⟨trivial, by rw [hw1]; omega, rfl, by rw [hw1]; simp; omega⟩, ?_⟩
      (conv => whnf)
      refine ⟨rfl, ⟨by rw [hw3]; omega, by rw [hw1, hw3]; simp; omega⟩, ?_⟩
      (conv => whnf)
      refine callV_overlaps tab_ok (t := 24) (r := 4) (e := 23) rfl (by simp [tab, tabOf, nth]) (by decide) rfl rfl rfl rfl rfl rfl rfl (by decide) ?_
      (conv => whnf)
      refine ⟨rfl, ⟨by rw [hw3]; omega, by rw [hw1, hw3]; simp; omega⟩, ?_⟩
      (conv => whnf)
      refine ⟨rfl, ⟨by simp, by rw [hw1]; simp; omega⟩, ?_⟩
      (conv => whnf)
      refine ⟨rfl, by rw [hw1]; simp; omega, ⟨rfl, rfl, rfl⟩, by rw [hw1, hw3]; simp; omega, ?_⟩
      (conv => whnf)
      refine ⟨by kernel_rfl, ?_⟩
      (conv => whnf)
      refine ⟨rfl, ⟨by simp, by rw [hw1]; simp; omega⟩, ?_⟩
      (conv => whnf)
      refine ⟨rfl, by simp, ⟨rfl, rfl, rfl⟩, by rw [hw1]; simp; omega, ?_⟩
      (conv => whnf)
      refine ⟨_, _, _, ?_, k - 1, rfl, rfl, rfl⟩
      refine (Ends.all (renOf [(2, 0)]) [] (by repeat' (first | exact True.intro | exact id | exact rfl | decide | exact Nat.le_of_ble_eq_true rfl | exact .osl_of rfl (by omega) (by rw [hw1]; simp) | exact ⟨id, (fun h => by cases h), rfl, rfl, LeR.out (LeR.of_eq (by simp only [hw1, hw3, Int.toNat_natCast, Nat.zero_add, Nat.sub_zero, List.drop_zero, List.take_succ_cons, List.take_zero, List.replicate_zero, List.append_nil]; exact ins_shift he hk0) (LeR.free (insRows_free' hf hx)))⟩ | exact .ptr rfl (by omega) | exact .osl_of rfl (by omega) rfl | exact .fr rfl | exact LeL.fr rfl | exact .yld rfl (by omega) | exact .eptr rfl (by omega) | exact .osl0 | exact .snil_sl | exact .to_any | exact LeB.fr rfl id id | exact LeB.fr (by simp; done) id id | refine Or.inl ⟨by simp, _, rfl, ?_⟩ | exact Or.inr ⟨by simp, _, _, _, _, rfl⟩ | refine ⟨rfl, rfl, rfl, rfl, rfl, rfl, ?_⟩ | refine ⟨?_, ?_⟩)) (show ∀ b ∈ ([2] : List Nat), ∀ b' ∈ ([2] : List Nat), (renOf [(2, 0)]) b = (renOf [(2, 0)]) b' → b = b' by decide) (show ∀ b, b < 2 → (renOf [(2, 0)]) b = b by decide) (by omega) (by simp))
set_option maxRecDepth 100000 in
set_option maxHeartbeats 4000000 in
theorem insertL_ok (rows : List (List V)) (x : List V) (hf : ∀ r ∈ rows, ∀ v ∈ r, Free v) (hx : ∀ v ∈ x, Free v) (ex : Bool) (hex : rows ≠ [] → ex = true) (i k : Nat) (hl : rows.length ≤ 1000) (hi : i ≤ rows.length) :
    CallV prog 48 [.osl 0 2 0 rows.length, cI i, .osl 1 2 0 1] [(0, some (.arr true ex 54 2 (rows ++ List.replicate k (List.replicate 2 .any)))), (1, some (.arr true true 54 2 [x]))] 2
      (fun v h' nx' => ∃ k', v = .osl 2 2 0 (rows.length + 1) ∧ h' = [(2, some (.arr true false 54 2 (rows.take i ++ [x] ++ rows.drop i ++ List.replicate k' (List.replicate 2 .any))))] ∧ nx' = 3) := by
  refine callV_of (fn := Go.Proofs.Try.f48) (body := _) tab_ok mixed rfl rfl (by decide) (by simp [Go.Proofs.Try.f48]) ?_
  (conv => whnf)
  refine ⟨rfl, ⟨by simp, by simp; omega⟩, ?_⟩
  (conv => whnf)
  intro _
  (conv => whnf)
  intro _
  (conv => whnf)
  split
  · rename_i he
    have he : i = rows.length := by simp at he; omega
    subst he
    (conv => whnf)
    refine ⟨rfl, by simp, ⟨rfl, rfl, rfl, rfl, by decide⟩, by simp, ⟨by simp [tab, tabOf, nth]; omega, by simp; omega⟩, ?_⟩
    (conv => whnf)
    refine ⟨_, _, _, ?_, 0, rfl, rfl, rfl⟩
    exact (Ends.all id [] (by repeat' (first | exact True.intro | exact id | exact rfl | decide | exact Nat.le_of_ble_eq_true rfl | exact .osl_of rfl (by omega) (by simp) | exact LeB.eq_of (by simp [List.take_of_length_le]) (insRows_free' hf hx) | exact .ptr rfl (by omega) | exact .osl_of rfl (by omega) rfl | exact .fr rfl | exact LeL.fr rfl | exact .yld rfl (by omega) | exact .eptr rfl (by omega) | exact .osl0 | exact .snil_sl | exact .to_any | exact LeB.fr rfl id id | exact LeB.fr (by simp; done) id id | refine Or.inl ⟨by simp, _, rfl, ?_⟩ | exact Or.inr ⟨by simp, _, _, _, _, rfl⟩ | refine ⟨rfl, rfl, rfl, rfl, rfl, rfl, ?_⟩ | refine ⟨?_, ?_⟩)) (fun _ _ _ _ h => h) (fun _ _ => rfl) (by omega) (by simp))
  · rename_i he
    have he : i < rows.length := by simp at he; omega
    obtain rfl := hex (fun e => by subst e; simp at he)
    (conv => whnf)
    refine ⟨⟨rfl, by decide, by omega, rfl⟩, ?_⟩
    (conv => whnf)
    have hw1 : IntKind.i64.wrap ((rows.length : Int) + ((1 : Nat) : Int)) = ((rows.length + 1 : Nat) : Int) := by rw [wrap64] <;> omega
    have hw2 : IntKind.i64.wrap (IntKind.i64.wrap ((rows.length : Int) + ((1 : Nat) : Int)) - (i : Int)) = ((rows.length + 1 - i : Nat) : Int) := by rw [hw1, wrap64] <;> omega
    have hw3 : IntKind.i64.wrap ((i : Int) + ((1 : Nat) : Int)) = ((i + 1 : Nat) : Int) := by rw [wrap64] <;> omega
    split
    · rename_i hc
      have hk0 : k = 0 := by rw [hw1] at hc; simp at hc; omega
      subst hk0
      (conv => whnf)
      refine ⟨rfl, .own, ⟨trivial, by simp, by simp, by simp; omega⟩, ?_⟩
      (conv => whnf)
      refine ⟨⟨rfl, rfl, rfl, by decide, by rw [hw2]; omega⟩, by simp; omega, ⟨by rw [hw2]; simp [tab, tabOf, nth]; omega, by rw [hw2]; simp; omega⟩, true, ⟨rfl, by rw [hw2]; simp; omega⟩, ?_⟩
      (conv => whnf)
      refine ⟨rfl, ⟨by simp, by simp⟩, ?_⟩
      (conv => whnf)
      refine ⟨rfl, by simp, ⟨rfl, rfl, rfl⟩, by rw [hw2]; simp; omega, ?_⟩
      (conv => whnf)
      refine ⟨rfl, ⟨by rw [hw3]; omega, by rw [hw2, hw3]; simp; omega⟩, ?_⟩
      (conv => whnf)
      refine ⟨rfl, ⟨by simp, by simp; omega⟩, ?_⟩
      (conv => whnf)
      refine ⟨rfl, by simp, ⟨rfl, rfl, rfl⟩, by rw [hw2, hw3]; simp; omega, ?_⟩
      (conv => whnf)
      refine ⟨by kernel_rfl, ?_⟩
      (conv => whnf)
      refine ⟨_, _, _, ?_, 0, rfl, rfl, rfl⟩
      refine (Ends.all id [] (by repeat' (first | exact True.intro | exact id | exact rfl | decide | exact Nat.le_of_ble_eq_true rfl | exact .osl_of rfl (by omega) (by rw [hw2]; simp; omega) | exact ⟨id, (fun h => by cases h), rfl, rfl, LeR.out (LeR.of_eq (by simp only [hw2, hw3, Int.toNat_natCast, Nat.zero_add, Nat.sub_zero, List.drop_zero, List.take_succ_cons, List.take_zero, List.replicate_zero, List.append_nil]; exact ins_grow he) (LeR.free (insRows_free' hf hx)))⟩ | exact .ptr rfl (by omega) | exact .osl_of rfl (by omega) rfl | exact .fr rfl | exact LeL.fr rfl | exact .yld rfl (by omega) | exact .eptr rfl (by omega) | exact .osl0 | exact .snil_sl | exact .to_any | exact LeB.fr rfl id id | exact LeB.fr (by simp; done) id id | refine Or.inl ⟨by simp, _, rfl, ?_⟩ | exact Or.inr ⟨by simp, _, _, _, _, rfl⟩ | refine ⟨rfl, rfl, rfl, rfl, rfl, rfl, ?_⟩ | refine ⟨?_, ?_⟩)) (fun _ _ _ _ h => h) (fun _ _ => rfl) (by omega) (by simp))
    · rename_i hc
      have hk0 : 0 < k := by rw [hw1] at hc; simp at hc; omega
      (conv => whnf)
      refine ⟨rfl, .past, rfl, by decide, by omega, ⟨trivial, by rw [hw1]; omega, rfl, by rw [hw1]; simp; omega⟩, ?_⟩
      (conv => whnf)
      refine ⟨rfl, ⟨by rw [hw3]; omega, by rw [hw1, hw3]; simp; omega⟩, ?_⟩
      (conv => whnf)
      refine callV_overlaps tab_ok (t := 22) (r := 4) (e := 54) rfl (by simp [tab, tabOf, nth]) (by decide) rfl rfl rfl rfl rfl rfl rfl (by decide) ?_
      (conv => whnf)
      refine ⟨rfl, ⟨by rw [hw3]; omega, by rw [hw1, hw3]; simp; omega⟩, ?_⟩
      (conv => whnf)
      refine ⟨rfl, ⟨by simp, by rw [hw1]; simp; omega⟩, ?_⟩
      (conv => whnf)
      refine ⟨rfl, by rw [hw1]; simp; omega, ⟨rfl, rfl, rfl⟩, by rw [hw1, hw3]; simp; omega, ?_⟩
      (conv => whnf)
      refine ⟨by kernel_rfl, ?_⟩
      (conv => whnf)
      refine ⟨rfl, ⟨by simp, by rw [hw1]; simp; omega⟩, ?_⟩
      (conv => whnf)
      refine ⟨rfl, by simp, ⟨rfl, rfl, rfl⟩, by rw [hw1]; simp; omega, ?_⟩
      (conv => whnf)
      refine ⟨_, _, _, ?_, k - 1, rfl, rfl, rfl⟩
      refine (Ends.all (renOf [(2, 0)]) [] (by repeat' (first | exact True.intro | exact id | exact rfl | decide | exact Nat.le_of_ble_eq_true rfl | exact .osl_of rfl (by omega) (by rw [hw1]; simp) | exact ⟨id, (fun h => by cases h), rfl, rfl, LeR.out (LeR.of_eq (by simp only [hw1, hw3, Int.toNat_natCast, Nat.zero_add, Nat.sub_zero, List.drop_zero, List.take_succ_cons, List.take_zero, List.replicate_zero, List.append_nil]; exact ins_shift he hk0) (LeR.free (insRows_free' hf hx)))⟩ | exact .ptr rfl (by omega) | exact .osl_of rfl (by omega) rfl | exact .fr rfl | exact LeL.fr rfl | exact .yld rfl (by omega) | exact .eptr rfl (by omega) | exact .osl0 | exact .snil_sl | exact .to_any | exact LeB.fr rfl id id | exact LeB.fr (by simp; done) id id | refine Or.inl ⟨by simp, _, rfl, ?_⟩ | exact Or.inr ⟨by simp, _, _, _, _, rfl⟩ | refine ⟨rfl, rfl, rfl, rfl, rfl, rfl, ?_⟩ | refine ⟨?_, ?_⟩)) (show ∀ b ∈ ([2] : List Nat), ∀ b' ∈ ([2] : List Nat), (renOf [(2, 0)]) b = (renOf [(2, 0)]) b' → b = b' by decide) (show ∀ b, b < 2 → (renOf [(2, 0)]) b = b by decide) (by omega) (by simp))
end Go.Proofs.Ytcfkendgjinmiaa
/- Contract: a tag more, as the program gives it. -/
set_option linter.unusedVariables false
set_option linter.unusedSimpArgs false
namespace Go.Proofs.Ytcfkendgjinmiaa
open Go.RowKit
open Go.Proofs.Try (prog)
attribute [local irreducible] CallV RoundV

theorem ins_eq {l : List UInt32} {t : UInt32} {i : Nat} (hi : i ≤ l.length) (lo : ∀ (k : Nat) (hk : k < l.length), k < i → l[k] < t) (hi' : ∀ (k : Nat) (hk : k < l.length), i ≤ k → ¬ l[k] < t) (hno : l.contains t = false) : l.take i ++ [t] ++ l.drop i = insT l t := by
  induction l generalizing i with
  | nil => simp [insT]
  | cons y r ih =>
    have hny : y ≠ t := fun e => by simp [e] at hno
    cases i with
    | zero =>
      have h0 := hi' 0 (by simp) (Nat.le_refl _)
      simp only [List.getElem_cons_zero] at h0
      have hlt : t < y := by
        rw [UInt32.lt_iff_toNat_lt] at *
        have : y.toNat ≠ t.toNat := fun e => hny (UInt32.toNat_inj.1 e)
        omega
      simp [insT, hlt]
    | succ i =>
      have h0 := lo 0 (by simp) (by omega)
      simp only [List.getElem_cons_zero] at h0
      have hnl : ¬ t < y := by rw [UInt32.lt_iff_toNat_lt] at *; omega
      have := ih (i := i) (by simpa using hi) (fun k hk hlt => by have := lo (k + 1) (by simpa using hk) (by omega); simpa using this) (fun k hk hle => by have := hi' (k + 1) (by simpa using hk) (by omega); simpa using this) (by simp at hno ⊢; exact hno.2)
      simp only [insT, if_neg hnl, List.take_succ_cons, List.drop_succ_cons, List.cons_append]
      rw [← this]
theorem few_of_right {a : Attrs} (h : rightA a = true) : a.path.length ≤ 8 ∧ (∀ p ∈ a.path, p.ns.length ≤ 32) ∧ a.tags.length ≤ 16 ∧ rises a.tags = true := by
  have h1 := pathOk_all (right_path h)
  refine ⟨h1.1, fun p hp => (legOk_ns (h1.2 p hp)).2.1, ?_, ?_⟩
  · simp [rightA] at h; have := h.1.2; omega
  · simp [rightA] at h; exact h.2
theorem openW_free (l : List UInt32) (k : Nat) : ∀ x ∈ rowsW l ++ List.replicate k (List.replicate 1 V.any), ∀ v ∈ x, Free v := by
  have := insRows_free' (rows := rowsW l) (x := []) (i := l.length) (k := k) (n := 1) (rowsW_free _) (by simp)
  intro x hx v hv
  rcases List.mem_append.1 hx with h | h
  · exact rowsW_free l x h v hv
  · rw [List.eq_of_mem_replicate h] at hv
    rw [List.eq_of_mem_replicate hv]
    exact .any
theorem less_encA (fr : Bool) {a : Attrs} : Less (encA fr a) (encA false a) := by
  cases fr with
  | false => exact .refl _
  | true => exact .agg2 (.refl _) (.agg2 .legs (.agg2 (.refl _) (.agg2 (.refl _) (.agg2 (.refl _) (.agg2 (.refl _) (.agg2 (.refl _) (.agg2 .encW (.refl _))))))))
set_option maxRecDepth 100000 in
set_option maxHeartbeats 4000000 in
theorem tag_ok (fr : Bool) (a : Attrs) (t : UInt32) : PCon prog 34 [encA fr a, cW t] (tagV true a t) := by
  refine callV_of (fn := Go.Proofs.Try.f34) (body := _) tab_ok mixed rfl rfl (by decide) (by simp [Go.Proofs.Try.f34]) ?_
  (conv => whnf)
  refine callV_pure (check_ok fr a) ⟨.free (encA_free _ _), trivial⟩ ?_
  cases hr : rightA a with
  | false =>
    rw [tagV_bad hr, checkA_no hr]
    (conv => whnf)
    exact (Ends.pure [] (by first | exact .noA | exact .ptr rfl (by omega) | exact .osl_of rfl (by omega) rfl | exact .fr rfl | exact LeL.fr rfl | exact .yld rfl (by omega) | exact .eptr rfl (by omega) | exact .osl0 | exact .snil_sl | exact .to_any | (refine .tupL ?_; repeat' (first | exact True.intro | exact .noA | exact .ptr rfl (by omega) | exact .osl_of rfl (by omega) rfl | exact .fr rfl | exact LeL.fr rfl | exact .yld rfl (by omega) | exact .eptr rfl (by omega) | exact .osl0 | exact .snil_sl | exact .to_any | refine .aggL ?_ | refine ⟨?_, ?_⟩)) | (refine .aggL ?_; repeat' (first | exact True.intro | exact .noA | exact .ptr rfl (by omega) | exact .osl_of rfl (by omega) rfl | exact .fr rfl | exact LeL.fr rfl | exact .yld rfl (by omega) | exact .eptr rfl (by omega) | exact .osl0 | exact .snil_sl | exact .to_any | refine ⟨?_, ?_⟩))) (by simp))
  | true =>
  rw [checkA_yes hr]
  obtain ⟨hpl, hp, htl, hri⟩ := few_of_right hr
  (conv => whnf)
  refine callV_vown (nx := 2) [] (copyT_ok false a (by omega) (fun p h => by have := hp p h; omega) (by omega)) ⟨.less (.free (encA_free fr a)) (less_encA fr), trivial⟩ (by intro v hv; simp at hv; subst hv; exact encA_cold _) (by simp) (rowsW_ff _) (ownT_mov a) ?_
  (conv => whnf)
  obtain ⟨i, hi, lo, hi', hbs⟩ := bs_ok false a.tags t hri (by omega)
  refine callV_lend [2] hbs ⟨.fresh_off (LeV.freeze_of (by simp) rfl (by simp) (rowsW_free _) (List.take_of_length_le (by simp))), .free .int, trivial⟩ (by intro v hv; simp at hv; rcases hv with rfl | rfl; exact encW_cold _; exact .int) (one_none rfl) (.tup (by intro v hv; simp at hv; rcases hv with rfl | rfl; exact .int; exact .bool)) ?_
  cases hc : a.tags.contains t with
  | true =>
    rw [tagV_in hr hc]
    (conv => whnf)
    intro _
    (conv => whnf)
    (split <;> first | (rename_i hh; exfalso; first | (simp at hh; done) | (simp at hh; omega)) | skip); (conv => whnf)
    exact (Ends.pure [2] (by first | exact LeV.freezeE (by simp) rfl (by simp) (List.take_of_length_le (by simp)) (rowsW_free _) | exact .ptr rfl (by omega) | exact .osl_of rfl (by omega) rfl | exact .fr rfl | exact LeL.fr rfl | exact .yld rfl (by omega) | exact .eptr rfl (by omega) | exact .osl0 | exact .snil_sl | exact .to_any | (refine .tupL ?_; repeat' (first | exact True.intro | exact LeV.freezeE (by simp) rfl (by simp) (List.take_of_length_le (by simp)) (rowsW_free _) | exact .ptr rfl (by omega) | exact .osl_of rfl (by omega) rfl | exact .fr rfl | exact LeL.fr rfl | exact .yld rfl (by omega) | exact .eptr rfl (by omega) | exact .osl0 | exact .snil_sl | exact .to_any | refine .aggL ?_ | refine ⟨?_, ?_⟩)) | (refine .aggL ?_; repeat' (first | exact True.intro | exact LeV.freezeE (by simp) rfl (by simp) (List.take_of_length_le (by simp)) (rowsW_free _) | exact .ptr rfl (by omega) | exact .osl_of rfl (by omega) rfl | exact .fr rfl | exact LeL.fr rfl | exact .yld rfl (by omega) | exact .eptr rfl (by omega) | exact .osl0 | exact .snil_sl | exact .to_any | refine ⟨?_, ?_⟩))) (by intro z hz; simp only [List.mem_cons, List.not_mem_nil, or_false] at hz; rcases hz with rfl <;> exact ne_none_of rfl))
  | false =>
    have fin : ∀ {s : St} {k : Nat} {l : List UInt32}, hget s.h 4 = some (.arr true false 23 1 (rowsW l ++ List.replicate k (List.replicate 1 V.any))) → l = insT a.tags t → a.tags.length < 16 →
        ∃ v1 h' nx', Ends 0 s (.tup [.agg [cB a.origin, encLegs true a.path, cW a.next, .bool a.hasMed, cW a.med, .bool a.hasPref, cW a.pref, .osl 4 1 0 (a.tags.length + 1)], .int .i64 0]) v1 h' nx' ∧ (v1 = tagV true a t ∧ h' = [] ∧ nx' = 0) := fun h4 hl hlt => by
      rw [tagV_new hr hc hlt]
      have hn : a.tags.length + 1 = (rowsW (insT a.tags t)).length := by simp [insT_len]
      refine Ends.pure [4] (.tupL ⟨.aggL ⟨.free .int, .free (encLegs_free _ _), .free .int, .free .bool, .free .int, .free .bool, .free .int, LeV.freezeE (by simp) h4 ?_ ?_ (rowsW_free _), trivial⟩, .free .int, trivial⟩) (by intro z hz; simp at hz; subst hz; rw [h4]; simp)
      · subst hl; rw [hn, List.length_append]; omega
      · subst hl
        rw [hn, List.drop_zero]
        exact List.take_left
    have long : ∀ {s : St} {v : V}, 16 ≤ a.tags.length → LeV s.h s.nx id 0 [] v (encA true noA) → ∃ v1 h' nx', Ends 0 s (.tup [v, .int .i64 3]) v1 h' nx' ∧ (v1 = tagV true a t ∧ h' = [] ∧ nx' = 0) := fun hl hv => by
      rw [tagV_long hr hc hl]
      exact Ends.pure [] (.tupL ⟨hv, .free .int, trivial⟩) (by simp)
    have hrow : ∀ v ∈ [cW t], Free v := by intro v hv; simp at hv; subst hv; exact .int
    have hins : rowsW (insT a.tags t) = (rowsW a.tags).take i ++ [[cW t]] ++ (rowsW a.tags).drop i := by
      rw [← ins_eq hi lo hi' hc]; simp
    (conv => whnf)
    by_cases hne : a.tags = []
    · refine callV_frame (nx := 4) (n0 := 2) (renOf [(0, 2), ( 1, 3)]) (insertW_ok (rowsW a.tags) [cW t] (rowsW_free _) hrow false (fun h => absurd (by simp [hne]) h) i 0 (by simp; omega) (by simp; exact hi)) (by repeat' (first | exact True.intro | exact .osl_of rfl (by omega) (by simp) | exact LeB.arrE (by simp) (rowsW_free a.tags) id id | exact LeB.arrE rfl (rowsW_free [t]) id id | exact .ptr rfl (by omega) | exact .osl_of rfl (by omega) rfl | exact .fr rfl | exact LeL.fr rfl | exact .yld rfl (by omega) | exact .eptr rfl (by omega) | exact .osl0 | exact .snil_sl | exact .to_any | refine ⟨?_, ?_⟩)) (LeH.of (by repeat' (first | exact True.intro | exact id | exact rfl | decide | exact Nat.le_of_ble_eq_true rfl | exact .osl_of rfl (by omega) (by simp) | exact LeB.arrE (by simp) (rowsW_free a.tags) id id | exact LeB.arrE rfl (rowsW_free [t]) id id | exact .ptr rfl (by omega) | exact .osl_of rfl (by omega) rfl | exact .fr rfl | exact LeL.fr rfl | exact .yld rfl (by omega) | exact .eptr rfl (by omega) | exact .osl0 | exact .snil_sl | exact .to_any | exact LeB.fr rfl id id | exact LeB.fr (by simp; done) id id | refine Or.inl ⟨by simp, _, rfl, ?_⟩ | exact Or.inr ⟨by simp, _, _, _, _, rfl⟩ | refine ⟨rfl, rfl, rfl, rfl, rfl, rfl, ?_⟩ | refine ⟨?_, ?_⟩)) (show ∀ b ∈ ([0, 1] : List Nat), ∀ b' ∈ ([0, 1] : List Nat), (renOf [(0, 2), ( 1, 3)]) b = (renOf [(0, 2), ( 1, 3)]) b' → b = b' by decide) (fun _ h => by omega) (by omega) (by simp)) (fun b hb => by match b, hb with | 0, _ => exact ne_none_of rfl | 1, _ => exact ne_none_of rfl) (by decide) ?_
      rintro v h' nx' ⟨k', rfl, rfl, rfl⟩ _
      refine ⟨.osl 4 1 0 (a.tags.length + 1), [(4, some (.arr true false 23 1 (rowsW (insT a.tags t) ++ List.replicate k' (List.replicate 1 .any)))), (0, some _), (1, some _)], by rw [show (rowsW a.tags).length = a.tags.length by simp]; exact Ren.osl rfl, (by repeat' (first | exact True.intro | exact Or.inr ⟨by decide, rfl⟩ | exact Or.inl ⟨2, rfl, by omega, _, rfl, by rw [hins]; exact RenB.arr (insRows_free' (rowsW_free _) hrow)⟩ | refine ⟨?_, ?_⟩)), ?_⟩
      (conv => whnf)
      intro _
      (conv => whnf)
      split
      · rename_i h16
        (conv => whnf)
        exact long (by simp at h16; omega) .noA
      · rename_i h16
        (conv => whnf)
        exact fin rfl rfl (by simp at h16; omega)
    · refine callV_open rfl (by decide) (by simpa using hne) 0 rfl (List.length_pos_iff.2 hne) fun k => ?_
      refine callV_frame (nx := 4) (n0 := 2) (renOf [(0, 2), ( 1, 3)]) (insertW_ok (rowsW a.tags) [cW t] (rowsW_free _) hrow true (fun _ => rfl) i k (by simp; omega) (by simp; exact hi)) (by repeat' (first | exact True.intro | exact .osl_of rfl (by omega) (by simp) | exact LeB.arrE rfl (openW_free a.tags k) id id | exact LeB.arrE rfl (rowsW_free [t]) id id | exact .ptr rfl (by omega) | exact .osl_of rfl (by omega) rfl | exact .fr rfl | exact LeL.fr rfl | exact .yld rfl (by omega) | exact .eptr rfl (by omega) | exact .osl0 | exact .snil_sl | exact .to_any | refine ⟨?_, ?_⟩)) (LeH.of (by repeat' (first | exact True.intro | exact id | exact rfl | decide | exact Nat.le_of_ble_eq_true rfl | exact .osl_of rfl (by omega) (by simp) | exact LeB.arrE rfl (openW_free a.tags k) id id | exact LeB.arrE rfl (rowsW_free [t]) id id | exact .ptr rfl (by omega) | exact .osl_of rfl (by omega) rfl | exact .fr rfl | exact LeL.fr rfl | exact .yld rfl (by omega) | exact .eptr rfl (by omega) | exact .osl0 | exact .snil_sl | exact .to_any | exact LeB.fr rfl id id | exact LeB.fr (by simp; done) id id | refine Or.inl ⟨by simp, _, rfl, ?_⟩ | exact Or.inr ⟨by simp, _, _, _, _, rfl⟩ | refine ⟨rfl, rfl, rfl, rfl, rfl, rfl, ?_⟩ | refine ⟨?_, ?_⟩)) (show ∀ b ∈ ([0, 1] : List Nat), ∀ b' ∈ ([0, 1] : List Nat), (renOf [(0, 2), ( 1, 3)]) b = (renOf [(0, 2), ( 1, 3)]) b' → b = b' by decide) (fun _ h => by omega) (by omega) (by simp)) (fun b hb => by match b, hb with | 0, _ => exact ne_none_of rfl | 1, _ => exact ne_none_of rfl) (by decide) ?_
      rintro v h' nx' ⟨k', rfl, rfl, rfl⟩ _
      refine ⟨.osl 4 1 0 (a.tags.length + 1), [(4, some (.arr true false 23 1 (rowsW (insT a.tags t) ++ List.replicate k' (List.replicate 1 .any)))), (0, some _), (1, some _)], by rw [show (rowsW a.tags).length = a.tags.length by simp]; exact Ren.osl rfl, (by repeat' (first | exact True.intro | exact Or.inr ⟨by decide, rfl⟩ | exact Or.inl ⟨2, rfl, by omega, _, rfl, by rw [hins]; exact RenB.arr (insRows_free' (rowsW_free _) hrow)⟩ | refine ⟨?_, ?_⟩)), ?_⟩
      (conv => whnf)
      intro _
      (conv => whnf)
      split
      · rename_i h16
        (conv => whnf)
        exact long (by simp at h16; omega) .noA
      · rename_i h16
        (conv => whnf)
        exact fin rfl rfl (by simp at h16; omega)
end Go.Proofs.Ytcfkendgjinmiaa
/- Contract: a system laid ahead of a path, as the program does it. -/
set_option linter.unusedVariables false
set_option linter.unusedSimpArgs false
namespace Go.Proofs.Ytcfkendgjinmiaa
open Go.RowKit
open Go.Proofs.Try (prog)
attribute [local irreducible] CallV RoundV

theorem openL_free {rows : List (List V)} (hf : ∀ x ∈ rows, ∀ v ∈ x, Free v) (k : Nat) : ∀ x ∈ rows ++ List.replicate k (List.replicate 2 V.any), ∀ v ∈ x, Free v := by
  intro x hx v hv
  rcases List.mem_append.1 hx with h | h
  · exact hf x h v hv
  · rw [List.eq_of_mem_replicate h] at hv
    rw [List.eq_of_mem_replicate hv]
    exact .any
theorem rowsLegs_ff (l : List Leg) : ∀ x ∈ l.map (encLeg true), ∀ v ∈ x, Free v ∧ Fresh v := by
  intro x hx v hv
  obtain ⟨p, _, rfl⟩ := List.mem_map.1 hx
  simp [encLeg] at hv
  rcases hv with rfl | rfl
  · exact ⟨.bool, .bool⟩
  · exact ⟨encW_free _ _, encW_fresh _⟩
theorem pre_cons {l : List Leg} {x : UInt32} {n : Nat} (h : l = [] ∨ ∃ ns r, l = ⟨true, ns⟩ :: r) : prePath l x n = ⟨false, List.replicate n x⟩ :: l := by
  rcases h with rfl | ⟨ns, r, rfl⟩ <;> rfl
set_option maxRecDepth 100000 in
set_option maxHeartbeats 4000000 in
theorem prepend_ok (fr : Bool) (a : Attrs) (x : UInt32) (n : Int) : PCon prog 22 [encA fr a, cW x, .int .i64 n] (prepV true a x n) := by
  have bad : ∀ {s : St} {v : V}, badPre a x n = true → LeV s.h s.nx id 0 [] v (encA true noA) → ∃ v1 h' nx', Ends 0 s (.tup [v, .int .i64 2]) v1 h' nx' ∧ (v1 = prepV true a x n ∧ h' = [] ∧ nx' = 0) := fun hb hv => by
    rw [prepV_bad hb]
    exact Ends.pure [] (.tupL ⟨hv, .free .int, trivial⟩) (by simp)
  refine callV_of (fn := Go.Proofs.Try.f22) (body := _) tab_ok mixed rfl rfl (by decide) (by simp [Go.Proofs.Try.f22]) ?_
  (conv => whnf)
  refine callV_pure (check_ok fr a) ⟨.free (encA_free _ _), trivial⟩ ?_
  cases hr : rightA a with
  | false =>
    rw [checkA_no hr]
    (conv => whnf)
    exact bad (by simp [badPre, hr]) .noA
  | true =>
  rw [checkA_yes hr]
  obtain ⟨hpl, hp, htl, hri⟩ := few_of_right hr
  (conv => whnf)
  cases hx : ((x.toNat : Int) == 0) with
  | true =>
    (conv => whnf)
    exact bad (by rw [u32_eq] at hx; simp [badPre, hx]) .noA
  | false =>
  (conv => whnf)
  cases hn : decide (n < 0) with
  | true =>
    (conv => whnf)
    exact bad (by simp [badPre, hn]) .noA
  | false =>
  (conv => whnf)
  cases h8 : decide (8 < n) with
  | true =>
    (conv => whnf)
    exact bad (by simp [badPre, h8]) .noA
  | false =>
  have hb : badPre a x n = false := by rw [u32_eq] at hx; simp [badPre, hr, hx, hn, h8]
  (conv => whnf)
  refine callV_vown (nx := 2) [] (copy_ok false a (by omega) (fun p h => by have := hp p h; omega) (by omega)) ⟨.less (.free (encA_free fr a)) (less_encA fr), trivial⟩ (by intro v hv; simp at hv; subst hv; exact encA_cold _) (by simp) (rowsLegs_ff _) (ownA_mov a) ?_
  (conv => whnf)
  cases h0 : (n == 0) with
  | true =>
    have h0 : n = 0 := by simpa using h0
    subst h0
    rw [prepV_zero hb]
    (conv => whnf)
    exact (Ends.pure [2] (by first | exact LeV.freezeE (by simp) rfl (by simp) (List.take_of_length_le (by simp)) (rowsLegs_free _ _) | exact .ptr rfl (by omega) | exact .osl_of rfl (by omega) rfl | exact .fr rfl | exact LeL.fr rfl | exact .yld rfl (by omega) | exact .eptr rfl (by omega) | exact .osl0 | exact .snil_sl | exact .to_any | (refine .tupL ?_; repeat' (first | exact True.intro | exact LeV.freezeE (by simp) rfl (by simp) (List.take_of_length_le (by simp)) (rowsLegs_free _ _) | exact .ptr rfl (by omega) | exact .osl_of rfl (by omega) rfl | exact .fr rfl | exact LeL.fr rfl | exact .yld rfl (by omega) | exact .eptr rfl (by omega) | exact .osl0 | exact .snil_sl | exact .to_any | refine .aggL ?_ | refine ⟨?_, ?_⟩)) | (refine .aggL ?_; repeat' (first | exact True.intro | exact LeV.freezeE (by simp) rfl (by simp) (List.take_of_length_le (by simp)) (rowsLegs_free _ _) | exact .ptr rfl (by omega) | exact .osl_of rfl (by omega) rfl | exact .fr rfl | exact LeL.fr rfl | exact .yld rfl (by omega) | exact .eptr rfl (by omega) | exact .osl0 | exact .snil_sl | exact .to_any | refine ⟨?_, ?_⟩))) (by intro z hz; simp only [List.mem_cons, List.not_mem_nil, or_false] at hz; rcases hz with rfl <;> exact ne_none_of rfl))
  | false =>
  have h0 : n ≠ 0 := by simpa using h0
  obtain ⟨n, rfl⟩ : ∃ k : Nat, n = k := ⟨n.toNat, by have := of_decide_eq_false hn; omega⟩
  have hk : n ≤ 8 := by have := of_decide_eq_false h8; omega
  have hk0 : 0 < n := by omega
  have fin : ∀ {s : St} {vp : V} (Z : List Nat), pathOk (prePath a.path x n) = true → LeV s.h s.nx id 0 Z vp (encLegs true (prePath a.path x n)) → (∀ z ∈ Z, hget s.h z ≠ none) →
      ∃ v1 h' nx', Ends 0 s (.tup [.agg [cB a.origin, vp, cW a.next, .bool a.hasMed, cW a.med, .bool a.hasPref, cW a.pref, encW true a.tags], .int .i64 0]) v1 h' nx' ∧ (v1 = prepV true a x n ∧ h' = [] ∧ nx' = 0) := fun Z hlp hv hz => by
    rw [prepV_ok hb h0 hlp]
    exact Ends.pure Z (.tupL ⟨.aggL ⟨.free .int, hv, .free .int, .free .bool, .free .int, .free .bool, .free .int, .free (encW_free _ _), trivial⟩, .free .int, trivial⟩) hz
  have long : ∀ {s : St} {v : V}, pathOk (prePath a.path x n) = false → LeV s.h s.nx id 0 [] v (encA true noA) → ∃ v1 h' nx', Ends 0 s (.tup [v, .int .i64 3]) v1 h' nx' ∧ (v1 = prepV true a x n ∧ h' = [] ∧ nx' = 0) := fun hlp hv => by
    rw [prepV_long hb h0 hlp]
    exact Ends.pure [] (.tupL ⟨hv, .free .int, trivial⟩) (by simp)
  (conv => whnf)
  intro _
  (conv => whnf)
  obtain ⟨o, l, nn, hm, m, hq, q, tg⟩ := a
  simp only at hpl hp
  have hrow : ∀ v ∈ [V.bool false, V.snil], Free v := by intro v hv; simp at hv; rcases hv with rfl | rfl; exact .bool; exact .snil
  rcases l with _ | ⟨⟨st, ns⟩, r⟩
  · (conv => whnf)
    refine callV_frame (nx := 4) (n0 := 2) (renOf [(0, 2), ( 1, 3)]) (insertL_ok [] [.bool false, .snil] (by simp) hrow false (fun h => absurd rfl h) 0 0 (by simp) (by simp)) (by repeat' (first | exact True.intro | exact .osl_of rfl (by omega) (by simp) | exact LeB.arrE (xs := []) rfl (by simp) id id | exact LeB.arrE rfl (by intro y hy; simp only [List.mem_singleton] at hy; subst hy; exact hrow) id id | exact .ptr rfl (by omega) | exact .osl_of rfl (by omega) rfl | exact .fr rfl | exact LeL.fr rfl | exact .yld rfl (by omega) | exact .eptr rfl (by omega) | exact .osl0 | exact .snil_sl | exact .to_any | refine ⟨?_, ?_⟩)) (LeH.of (by repeat' (first | exact True.intro | exact id | exact rfl | decide | exact Nat.le_of_ble_eq_true rfl | exact .osl_of rfl (by omega) (by simp) | exact LeB.arrE (xs := []) rfl (by simp) id id | exact LeB.arrE rfl (by intro y hy; simp only [List.mem_singleton] at hy; subst hy; exact hrow) id id | exact .ptr rfl (by omega) | exact .osl_of rfl (by omega) rfl | exact .fr rfl | exact LeL.fr rfl | exact .yld rfl (by omega) | exact .eptr rfl (by omega) | exact .osl0 | exact .snil_sl | exact .to_any | exact LeB.fr rfl id id | exact LeB.fr (by simp; done) id id | refine Or.inl ⟨by simp, _, rfl, ?_⟩ | exact Or.inr ⟨by simp, _, _, _, _, rfl⟩ | refine ⟨rfl, rfl, rfl, rfl, rfl, rfl, ?_⟩ | refine ⟨?_, ?_⟩)) (show ∀ b ∈ ([0, 1] : List Nat), ∀ b' ∈ ([0, 1] : List Nat), (renOf [(0, 2), ( 1, 3)]) b = (renOf [(0, 2), ( 1, 3)]) b' → b = b' by decide) (fun _ h => by omega) (by omega) (by simp)) (fun b hb => by match b, hb with | 0, _ => exact ne_none_of rfl | 1, _ => exact ne_none_of rfl) (by decide) ?_
    rintro v h' nx' ⟨k', rfl, rfl, rfl⟩ _
    refine ⟨.osl 4 2 0 1, [(4, some (.arr true false 54 2 ([.bool false, .snil] :: List.replicate k' (List.replicate 2 .any)))), (0, some _), (1, some _)], Ren.osl rfl, (by repeat' (first | exact True.intro | exact Or.inr ⟨by decide, rfl⟩ | exact Or.inl ⟨2, rfl, by omega, _, rfl, RenB.arr (openL_free (rows := [[.bool false, .snil]]) (by intro y hy; simp only [List.mem_singleton] at hy; subst hy; exact hrow) k')⟩ | refine ⟨?_, ?_⟩)), ?_⟩
    (conv => whnf)
    refine ⟨encW true (List.replicate n x), [(5, some (.arr true true 23 1 (rowsW [x])))], fun h nx hrd => ?_, ?_, ?_⟩
    · have h8 := hrd 5 _ (List.mem_singleton.2 rfl)
      refine pureV_lend [5] (repeat_ok false x n hk) ⟨LeV.fresh_off (LeV.freeze_of (by simp) h8 (by simp) (rowsW_free [x]) rfl), .int_of rfl, trivial⟩ ?_ (one_none h8) (encW_fresh _)
      intro v hv
      simp at hv
      rcases hv with rfl | rfl
      · exact encW_cold _
      · exact .int
    · intro b ob hm
      obtain ⟨rfl, rfl⟩ : b = 5 ∧ ob = _ := by simpa using hm
      rfl
    (conv => whnf)
    refine ⟨rfl, ⟨by decide, by simp; try omega⟩, ?_⟩
    (conv => whnf)
    refine ⟨rfl, _, rfl, ?_⟩
    (conv => whnf)
    refine ⟨encW true (List.replicate n x ++ []), [(6, some (.arr true true 24 1 [[encW true (List.replicate n x)], [.snil]]))], fun h nx hrd => ?_, ?_, ?_⟩
    · have h9 := hrd 6 _ (List.mem_singleton.2 rfl)
      refine pureV_lend [6] (concat_ok false (List.replicate n x) [] .snil (by first | exact .inl rfl | exact .inr ⟨rfl, rfl⟩) (by simp; omega) (by first | omega | (simp; done))) ⟨.less (v1 := pairV true (List.replicate n x) .snil) (LeV.freeze_of (by simp) h9 (by simp) (encW_rows_free (vs := [encW true (List.replicate n x), .snil]) (by intro v hv; simp at hv; rcases hv with rfl | rfl; exact encW_free _ _; first | exact encW_free _ _ | exact .snil)) rfl) (.pair (by first | exact .encW | exact Less.refl _)), trivial⟩ ?_ (one_none h9) (encW_fresh _)
      intro v hv
      simp at hv
      subst hv
      exact pairV_cold (by first | exact .inl rfl | exact .inr ⟨rfl, rfl⟩)
    · intro b ob hm
      obtain ⟨rfl, rfl⟩ : b = 6 ∧ ob = _ := by simpa using hm
      rfl
    (conv => whnf)
    refine ⟨rfl, ⟨by decide, by simp; try omega⟩, ?_⟩
    (conv => whnf)
    refine ⟨rfl, _, rfl, ?_⟩
    (conv => whnf)
    refine ⟨by kernel_rfl, ?_⟩
    (conv => whnf)
    have hfz : ∀ {h : Heap} {nx nx' : Nat} {ρ : Nat → Nat} {Z : List Nat} {e2 : Bool}, 4 ∈ Z → hget h 4 = some (.arr true e2 54 2 ([.bool false, encW true (List.replicate n x ++ [])] :: List.replicate k' (List.replicate 2 .any))) → LeV h nx ρ nx' Z (.osl 4 2 0 1) (encLegs true (prePath (⟨o, [], nn, hm, m, hq, q, tg⟩ : Attrs).path x n)) := fun hz hb => LeV.freezeE hz hb (by simp) (by simp [prePath, encLeg]) (rowsLegs_free _ _)
    refine callV_lend [4] (path_ok false (prePath (⟨o, [], nn, hm, m, hq, q, tg⟩ : Attrs).path x n)) ⟨.less (v1 := encLegs true (prePath (⟨o, [], nn, hm, m, hq, q, tg⟩ : Attrs).path x n)) (hfz (by simp) rfl) .legs, trivial⟩ (by intro v hv; simp at hv; subst hv; exact encLegs_cold _) (one_none rfl) .bool ?_
    cases hpo : pathOk (prePath (⟨o, [], nn, hm, m, hq, q, tg⟩ : Attrs).path x n) with
    | false =>
      (conv => whnf)
      exact long hpo .noA
    | true =>
      (conv => whnf)
      exact fin [4] hpo (hfz (by simp) rfl) (by intro z hz; simp only [List.mem_cons, List.not_mem_nil, or_false] at hz; rcases hz with rfl <;> exact ne_none_of rfl)
  · simp only [List.length_cons] at hpl
    have hns := hp ⟨st, ns⟩ (by simp)
    simp only at hns
    cases st with
    | true =>
      (conv => whnf)
      refine ⟨rfl, ⟨by simp, by simp; try omega⟩, ?_⟩
      (conv => whnf)
      refine ⟨rfl, _, rfl, ?_⟩
      (conv => whnf)
      refine callV_open rfl (by decide) (by simp) 0 rfl (by simp) fun k => ?_
      refine callV_frame (nx := 4) (n0 := 2) (renOf [(0, 2), ( 1, 3)]) (insertL_ok (List.map (encLeg true) (⟨true, ns⟩ :: r)) [.bool false, .snil] (rowsLegs_free _ _) hrow true (fun _ => rfl) 0 k (by simp; omega) (by simp)) (by repeat' (first | exact True.intro | exact .osl_of rfl (by omega) (by simp) | exact LeB.arrE rfl (openL_free (rowsLegs_free true (⟨true, ns⟩ :: r)) k) id id | exact LeB.arrE rfl (by intro y hy; simp only [List.mem_singleton] at hy; subst hy; exact hrow) id id | exact .ptr rfl (by omega) | exact .osl_of rfl (by omega) rfl | exact .fr rfl | exact LeL.fr rfl | exact .yld rfl (by omega) | exact .eptr rfl (by omega) | exact .osl0 | exact .snil_sl | exact .to_any | refine ⟨?_, ?_⟩)) (LeH.of (by repeat' (first | exact True.intro | exact id | exact rfl | decide | exact Nat.le_of_ble_eq_true rfl | exact .osl_of rfl (by omega) (by simp) | exact LeB.arrE rfl (openL_free (rowsLegs_free true (⟨true, ns⟩ :: r)) k) id id | exact LeB.arrE rfl (by intro y hy; simp only [List.mem_singleton] at hy; subst hy; exact hrow) id id | exact .ptr rfl (by omega) | exact .osl_of rfl (by omega) rfl | exact .fr rfl | exact LeL.fr rfl | exact .yld rfl (by omega) | exact .eptr rfl (by omega) | exact .osl0 | exact .snil_sl | exact .to_any | exact LeB.fr rfl id id | exact LeB.fr (by simp; done) id id | refine Or.inl ⟨by simp, _, rfl, ?_⟩ | exact Or.inr ⟨by simp, _, _, _, _, rfl⟩ | refine ⟨rfl, rfl, rfl, rfl, rfl, rfl, ?_⟩ | refine ⟨?_, ?_⟩)) (show ∀ b ∈ ([0, 1] : List Nat), ∀ b' ∈ ([0, 1] : List Nat), (renOf [(0, 2), ( 1, 3)]) b = (renOf [(0, 2), ( 1, 3)]) b' → b = b' by decide) (fun _ h => by omega) (by omega) (by simp)) (fun b hb => by match b, hb with | 0, _ => exact ne_none_of rfl | 1, _ => exact ne_none_of rfl) (by decide) ?_
      rintro v h' nx' ⟨k', rfl, rfl, rfl⟩ _
      refine ⟨.osl 4 2 0 (r.length + 1 + 1), [(4, some (.arr true false 54 2 ([.bool false, .snil] :: List.map (encLeg true) (⟨true, ns⟩ :: r) ++ List.replicate k' (List.replicate 2 .any)))), (0, some _), (1, some _)], by rw [List.length_map, List.length_cons]; exact Ren.osl rfl, (by repeat' (first | exact True.intro | exact Or.inr ⟨by decide, rfl⟩ | exact Or.inl ⟨2, rfl, by omega, _, rfl, RenB.arr (openL_free (insRows_free (i := 0) (rowsLegs_free true (⟨true, ns⟩ :: r)) hrow) k')⟩ | refine ⟨?_, ?_⟩)), ?_⟩
      (conv => whnf)
      refine ⟨encW true (List.replicate n x), [(5, some (.arr true true 23 1 (rowsW [x])))], fun h nx hrd => ?_, ?_, ?_⟩
      · have h8 := hrd 5 _ (List.mem_singleton.2 rfl)
        refine pureV_lend [5] (repeat_ok false x n hk) ⟨LeV.fresh_off (LeV.freeze_of (by simp) h8 (by simp) (rowsW_free [x]) rfl), .int_of rfl, trivial⟩ ?_ (one_none h8) (encW_fresh _)
        intro v hv
        simp at hv
        rcases hv with rfl | rfl
        · exact encW_cold _
        · exact .int
      · intro b ob hm
        obtain ⟨rfl, rfl⟩ : b = 5 ∧ ob = _ := by simpa using hm
        rfl
      (conv => whnf)
      refine ⟨rfl, ⟨by decide, by simp; try omega⟩, ?_⟩
      (conv => whnf)
      refine ⟨rfl, _, rfl, ?_⟩
      (conv => whnf)
      refine ⟨encW true (List.replicate n x ++ []), [(6, some (.arr true true 24 1 [[encW true (List.replicate n x)], [.snil]]))], fun h nx hrd => ?_, ?_, ?_⟩
      · have h9 := hrd 6 _ (List.mem_singleton.2 rfl)
        refine pureV_lend [6] (concat_ok false (List.replicate n x) [] .snil (by first | exact .inl rfl | exact .inr ⟨rfl, rfl⟩) (by simp; omega) (by first | omega | (simp; done))) ⟨.less (v1 := pairV true (List.replicate n x) .snil) (LeV.freeze_of (by simp) h9 (by simp) (encW_rows_free (vs := [encW true (List.replicate n x), .snil]) (by intro v hv; simp at hv; rcases hv with rfl | rfl; exact encW_free _ _; first | exact encW_free _ _ | exact .snil)) rfl) (.pair (by first | exact .encW | exact Less.refl _)), trivial⟩ ?_ (one_none h9) (encW_fresh _)
        intro v hv
        simp at hv
        subst hv
        exact pairV_cold (by first | exact .inl rfl | exact .inr ⟨rfl, rfl⟩)
      · intro b ob hm
        obtain ⟨rfl, rfl⟩ : b = 6 ∧ ob = _ := by simpa using hm
        rfl
      (conv => whnf)
      refine ⟨rfl, ⟨by decide, by simp; try omega⟩, ?_⟩
      (conv => whnf)
      refine ⟨rfl, _, rfl, ?_⟩
      (conv => whnf)
      refine ⟨by kernel_rfl, ?_⟩
      (conv => whnf)
      have hfz : ∀ {h : Heap} {nx nx' : Nat} {ρ : Nat → Nat} {Z : List Nat} {e2 : Bool}, 4 ∈ Z → hget h 4 = some (.arr true e2 54 2 ([.bool false, encW true (List.replicate n x ++ [])] :: List.map (encLeg true) (⟨true, ns⟩ :: r) ++ List.replicate k' (List.replicate 2 .any))) → LeV h nx ρ nx' Z (.osl 4 2 0 (r.length + 1 + 1)) (encLegs true (prePath (⟨o, (⟨true, ns⟩ :: r), nn, hm, m, hq, q, tg⟩ : Attrs).path x n)) := fun hz hb => LeV.freezeE hz hb (by simp) (by simp [prePath, encLeg]) (rowsLegs_free _ _)
      refine callV_lend [4] (path_ok false (prePath (⟨o, (⟨true, ns⟩ :: r), nn, hm, m, hq, q, tg⟩ : Attrs).path x n)) ⟨.less (v1 := encLegs true (prePath (⟨o, (⟨true, ns⟩ :: r), nn, hm, m, hq, q, tg⟩ : Attrs).path x n)) (hfz (by simp) rfl) .legs, trivial⟩ (by intro v hv; simp at hv; subst hv; exact encLegs_cold _) (one_none rfl) .bool ?_
      cases hpo : pathOk (prePath (⟨o, (⟨true, ns⟩ :: r), nn, hm, m, hq, q, tg⟩ : Attrs).path x n) with
      | false =>
        (conv => whnf)
        exact long hpo .noA
      | true =>
        (conv => whnf)
        exact fin [4] hpo (hfz (by simp) rfl) (by intro z hz; simp only [List.mem_cons, List.not_mem_nil, or_false] at hz; rcases hz with rfl <;> exact ne_none_of rfl)
    | false =>
      (conv => whnf)
      refine ⟨rfl, ⟨by simp, by simp; try omega⟩, ?_⟩
      (conv => whnf)
      refine ⟨rfl, _, rfl, ?_⟩
      (conv => whnf)
      refine ⟨encW true (List.replicate n x), [(3, some (.arr true true 23 1 (rowsW [x])))], fun h nx hrd => ?_, ?_, ?_⟩
      · have h8 := hrd 3 _ (List.mem_singleton.2 rfl)
        refine pureV_lend [3] (repeat_ok false x n hk) ⟨LeV.fresh_off (LeV.freeze_of (by simp) h8 (by simp) (rowsW_free [x]) rfl), .int_of rfl, trivial⟩ ?_ (one_none h8) (encW_fresh _)
        intro v hv
        simp at hv
        rcases hv with rfl | rfl
        · exact encW_cold _
        · exact .int
      · intro b ob hm
        obtain ⟨rfl, rfl⟩ : b = 3 ∧ ob = _ := by simpa using hm
        rfl
      (conv => whnf)
      refine ⟨rfl, ⟨by decide, by simp; try omega⟩, ?_⟩
      (conv => whnf)
      refine ⟨rfl, _, rfl, ?_⟩
      (conv => whnf)
      refine ⟨encW true (List.replicate n x ++ ns), [(4, some (.arr true true 24 1 [[encW true (List.replicate n x)], [(encW true ns)]]))], fun h nx hrd => ?_, ?_, ?_⟩
      · have h9 := hrd 4 _ (List.mem_singleton.2 rfl)
        refine pureV_lend [4] (concat_ok false (List.replicate n x) ns (encW false ns) (by first | exact .inl rfl | exact .inr ⟨rfl, rfl⟩) (by simp; omega) (by first | omega | (simp; done))) ⟨.less (v1 := pairV true (List.replicate n x) (encW true ns)) (LeV.freeze_of (by simp) h9 (by simp) (encW_rows_free (vs := [encW true (List.replicate n x), (encW true ns)]) (by intro v hv; simp at hv; rcases hv with rfl | rfl; exact encW_free _ _; first | exact encW_free _ _ | exact .snil)) rfl) (.pair (by first | exact .encW | exact Less.refl _)), trivial⟩ ?_ (one_none h9) (encW_fresh _)
        intro v hv
        simp at hv
        subst hv
        exact pairV_cold (by first | exact .inl rfl | exact .inr ⟨rfl, rfl⟩)
      · intro b ob hm
        obtain ⟨rfl, rfl⟩ : b = 4 ∧ ob = _ := by simpa using hm
        rfl
      (conv => whnf)
      refine ⟨rfl, ⟨by decide, by simp; try omega⟩, ?_⟩
      (conv => whnf)
      refine ⟨rfl, _, rfl, ?_⟩
      (conv => whnf)
      refine ⟨by kernel_rfl, ?_⟩
      (conv => whnf)
      have hfz : ∀ {h : Heap} {nx nx' : Nat} {ρ : Nat → Nat} {Z : List Nat} {e2 : Bool}, 2 ∈ Z → hget h 2 = some (.arr true e2 54 2 ([.bool false, encW true (List.replicate n x ++ ns)] :: List.map (encLeg true) r)) → LeV h nx ρ nx' Z (.osl 2 2 0 (r.length + 1)) (encLegs true (prePath (⟨o, (⟨false, ns⟩ :: r), nn, hm, m, hq, q, tg⟩ : Attrs).path x n)) := fun hz hb => LeV.freezeE hz hb (by simp) (by simp [prePath, encLeg]; exact List.take_of_length_le (by simp)) (rowsLegs_free _ _)
      refine callV_lend [2] (path_ok false (prePath (⟨o, (⟨false, ns⟩ :: r), nn, hm, m, hq, q, tg⟩ : Attrs).path x n)) ⟨.less (v1 := encLegs true (prePath (⟨o, (⟨false, ns⟩ :: r), nn, hm, m, hq, q, tg⟩ : Attrs).path x n)) (hfz (by simp) rfl) .legs, trivial⟩ (by intro v hv; simp at hv; subst hv; exact encLegs_cold _) (one_none rfl) .bool ?_
      cases hpo : pathOk (prePath (⟨o, (⟨false, ns⟩ :: r), nn, hm, m, hq, q, tg⟩ : Attrs).path x n) with
      | false =>
        (conv => whnf)
        exact long hpo .noA
      | true =>
        (conv => whnf)
        exact fin [2] hpo (hfz (by simp) rfl) (by intro z hz; simp only [List.mem_cons, List.not_mem_nil, or_false] at hz; rcases hz with rfl <;> exact ne_none_of rfl)
end Go.Proofs.Ytcfkendgjinmiaa
