/- From a contract to a row: what a start's data are as pure values; what stays as it was. -/
import Derived.Test.YtcfkendgjinmiaaVW
import Derived.RowKit
import Derived.ChangeSame
import Derived.WideKeyArgs
import Derived.JoinedOf
import Derived.KernelRfl
set_option linter.unusedVariables false
set_option linter.unusedSimpArgs false
namespace Go.Proofs.Ytcfkendgjinmiaa
open Go.RowKit Go.ChangeShapes Go.WideShapes

/-- The ghosts at a call's start: nothing is owned, nothing that is there turns. -/
def G0 (w : World) : Gh := ⟨fun _ => none, fun c => c < w.heap.size, w.heap.size⟩
theorem hr0 (w : World) : HR (G0 w) [] 0 w :=
  ⟨fun c hc => hc, Nat.le_refl _, fun _ _ => rfl, fun b k hb => by simp [hget] at hb, fun b b' k k' c hb => by simp [hget] at hb, fun b k c hb => by simp [hget] at hb, fun b c hb => by simp [G0] at hb, fun b k hb => by simp [hget] at hb⟩
theorem kept0 {G' : Gh} {w w' : World} (h : Evo 0 (G0 w) w G' w') (may : MemPlace → Prop) : w.keptBut w' may := by
  refine ⟨h.os, h.output, fun i hi => ?_⟩
  rw [h.keep i hi]
  split
  · rename_i e1 e2; cases e1.symm.trans e2; exact ⟨rfl, rfl, rfl, fun _ _ => rfl⟩
  · rename_i e1 e2; cases e1.symm.trans e2; exact .inr ⟨rfl, rfl⟩
  · rfl
theorem same0 {G' : Gh} {w w' : World} (h : Evo 0 (G0 w) w G' w') {p : MemPlace} (hp : p.block < w.heap.size) : w.sameAt w' p := by
  cases p with
  | cell b off => exact World.cell?_of_block (h.keep b hp)
  | map b => exact h.keep b hp

section
variable {H : Type} {enc : TypeId × Value → H} {P : Program}
/-- Behind a call that leaves what was there as it was. -/
theorem post_same {f : Func} {s : ChangeSpec} {apart fresh handsOn again : Bool} {W W' : World} {args : Array Value} {v : Value} {ds gs : List (DataW H)} {before pa pv : List MemPlace}
    (hW : DataW.Whole enc P f.params.toList s.vars apart W args.toList ds gs before)
    (hres : ∀ (b : Nat) (sp : Nat → Bool) (hd : Bool), DataW.TrodAll enc P W' b sp hd f.resultTypes.toList (v.resultList f.resultTypes.size) (s.fn H (ds ++ gs)).results [])
    (hargs : ∀ sp : Nat → Bool, (∀ p ∈ before, sp p.block = true) → DataW.TrodAll enc P W' 0 sp true f.params.toList args.toList (s.fn H (ds ++ gs)).args pa)
    (hvars : ∀ sp : Nat → Bool, (∀ p ∈ before, sp p.block = true) → DataW.TrodVars enc P W' sp s.vars (s.fn H (ds ++ gs)).vars pv)
    (hps : before = pa ++ pv) (hk : W.keptBut W' (· ∈ before)) (hfz : ∀ b off, MemPlace.cell b off ∈ before → W'.frozen? ⟨b, off, none⟩ = W.frozen? ⟨b, off, none⟩)
    (hok : ∀ (j : Nat) (t : TypeId) (r : Value), f.resultTypes[j]? = some t → (v.resultList f.resultTypes.size)[j]? = some r → Value.okWide P W' .any 0 t r) :
    s.post enc P f apart fresh handsOn again W args v W' := by
  have hold : ∀ p ∈ before, (fun b => decide (b < W.heap.size)) p.block = true := fun p hp => by simpa using hW.lt p hp
  refine ⟨ds, gs, before, [], pa, pv, hW, hres _ _ _, hargs _ hold, hvars _ hold, World.keptBut_mono (fun p hp => ⟨hp, ?_⟩) hk, fun _ => ?_⟩
  · rw [hps, List.mem_append] at hp
    exact Or.inr hp
  · obtain ⟨_, _, _, _, _, hz, hn⟩ := hW
    refine ⟨hok, _, _, ([] ++ pa) ++ pv, ⟨[] ++ pa, pv, trodAll_append (hargs _ (fun _ _ => rfl)) (hres _ _ _), hvars _ (fun _ _ => rfl), rfl, ?_, ?_⟩, ?_⟩
    · intro b off hp
      have hb : MemPlace.cell b off ∈ before := by rw [hps]; simpa using hp
      rw [hfz b off hb]
      exact hz b off hb
    · intro ha
      have := hn ha
      rw [hps] at this
      simpa using this
    · intro p hp _
      rw [hps]
      simpa using hp
theorem trodAll_same {W W' : World} {sp : Nat → Bool} (hl : laidOutB P = true) : ∀ {ts : List TypeId} {vs : List Value} {ds : List (DataW H)} {p : List MemPlace}, (∀ t ∈ ts, P.readableRec t = true ∧ t < P.types.size) → DataW.TrodAll enc P W 0 (fun _ => true) true ts vs ds p →
    (∀ q ∈ p, W.sameAt W' q) → (∀ q ∈ p, sp q.block = true) → DataW.TrodAll enc P W' 0 sp true ts vs ds p
  | [], vs, ds, p, _, h, _, _ => by
    obtain ⟨rfl, rfl, rfl⟩ := trodAll_nil h
    exact trodAll_mk0
  | t :: ts, vs, ds, p, ht, h, h1, h2 => by
    obtain ⟨v, vs', d, ds', p', q', rfl, rfl, rfl, h3, h4⟩ := trodAll_cons h
    exact ⟨p', q', WideElems.Trod_stays hl (ht t (by simp)).1 (ht t (by simp)).2 h3 (fun q hq => h1 q (by simp [hq])) (fun q hq => h2 q (by simp [hq])), trodAll_same hl (fun t ht' => ht t (by simp [ht'])) h4 (fun q hq => h1 q (by simp [hq])) (fun q hq => h2 q (by simp [hq])), rfl⟩
theorem trodAll_len {W : World} {b : Nat} {sp : Nat → Bool} {hd : Bool} : ∀ {ts : List TypeId} {vs : List Value} {ds : List (DataW H)} {p : List MemPlace}, DataW.TrodAll enc P W b sp hd ts vs ds p → ds.length = ts.length
  | [], vs, ds, p, h => by
    obtain ⟨rfl, rfl, rfl⟩ := trodAll_nil h
    rfl
  | t :: ts, vs, ds, p, h => by
    obtain ⟨v, vs', d, ds', p', q', rfl, rfl, rfl, h3, h4⟩ := trodAll_cons h
    simp [trodAll_len h4]
end

/-! ### Data as pure values -/
/-- What is read at a type is one of these lists of cells. -/
def RepOk (P : Program) (t : TypeId) {α : Type} (cells : α → List V) : Prop :=
  ∀ {H : Type} (enc : TypeId × Value → H) (w : World) (sp : Nat → Bool) (fuel : Nat) (cs : List Value) (x : DataW H × List MemPlace), DataW.trod enc P w 0 sp true fuel t cs = some x →
    ∃ a, vrs (G0 w) w (cells a) cs ∧ ∀ u ∈ cs, u.oneCell' = true
def ArgOk (P : Program) (t : TypeId) {α : Type} (val : α → V) : Prop :=
  ∀ {H : Type} (enc : TypeId × Value → H) (W : World) (base : Nat) (v : Value) (d : DataW H) (p : List MemPlace), Value.okWide P W .any base t v → DataW.Trod enc P W 0 (fun _ => true) true t v d p → ∃ a, vr (G0 W) W (val a) v
def ArgsOk (P : Program) (ts : List TypeId) {α : Type} (vals : α → List V) : Prop :=
  ∀ {H : Type} (enc : TypeId × Value → H) (W : World) (base : Nat) (vs : List Value) (ds : List (DataW H)) (p : List MemPlace), (∀ (j : Nat) t v, ts[j]? = some t → vs[j]? = some v → Value.okWide P W .any base t v) →
    DataW.TrodAll enc P W 0 (fun _ => true) true ts vs ds p → ∃ a, vrs (G0 W) W (vals a) vs
theorem argsNil {P : Program} : ArgsOk P [] (fun _ : Unit => []) := fun enc W base vs ds p _ h => by
  obtain ⟨rfl, rfl, rfl⟩ := trodAll_nil h
  exact ⟨(), vrs.nil⟩
theorem vrs_cons {G : Gh} {w : World} {v : V} {vs : List V} {u : Value} {us : List Value} (h : vr G w v u) (h' : vrs G w vs us) : vrs G w (v :: vs) (u :: us) :=
  ⟨by simp [h'.1], fun j v' u' h1 h2 => by
    cases j with
    | zero => simp at h1 h2; subst h1; subst h2; exact h
    | succ j => exact h'.2 j v' u' (by simpa using h1) (by simpa using h2)⟩
theorem argsCons {P : Program} {t : TypeId} {ts : List TypeId} {α β : Type} {val : α → V} {vals : β → List V} (h : ArgOk P t val) (hs : ArgsOk P ts vals) : ArgsOk P (t :: ts) (fun x : α × β => val x.1 :: vals x.2) := fun enc W base vs ds p hok hp => by
  obtain ⟨v, vs', d, ds', p', q', rfl, rfl, rfl, h3, h4⟩ := trodAll_cons hp
  obtain ⟨a, ha⟩ := h enc W base v d p' (hok 0 t v rfl rfl) h3
  obtain ⟨b, hb⟩ := hs enc W base vs' ds' q' (fun j t v h1 h2 => hok (j + 1) t v (by simpa using h1) (by simpa using h2)) h4
  exact ⟨(a, b), vrs_cons ha hb⟩
theorem rep_bool {P : Program} {t : TypeId} (ht : P.underlying t = some .bool) : RepOk P t (fun b : Bool => [.bool b]) := fun enc w sp fuel cs x h => by
  obtain ⟨b, rfl, _⟩ := DataW.trod_bool ht h
  exact ⟨b, vrs_cons (.bool b) vrs.nil, by simp [Value.oneCell']⟩
theorem rep_int {P : Program} {t : TypeId} {k : IntKind} (ht : P.underlying t = some (.int k)) {α : Type} (val : α → Int) (hv : ∀ n, (Lit.int k n).wf = true → ∃ a, val a = n) : RepOk P t (fun a : α => [.int k (val a)]) := fun enc w sp fuel cs x h => by
  obtain ⟨n, rfl, _, hw⟩ := DataW.trod_int ht h
  obtain ⟨a, rfl⟩ := hv n hw
  exact ⟨a, vrs_cons (.int k _) vrs.nil, by simp [Value.oneCell']⟩
theorem rep_u8 {P : Program} {t : TypeId} (ht : P.underlying t = some (.int .u8)) : RepOk P t (fun b : UInt8 => [.int .u8 b.toNat]) :=
  rep_int ht (fun b : UInt8 => (b.toNat : Int)) fun n hw => by
    have hx : 0 ≤ n ∧ n ≤ 255 := by simpa [Lit.wf, IntKind.min, IntKind.max, IntKind.signed, IntKind.bits] using hw
    refine ⟨UInt8.ofNat n.toNat, ?_⟩
    rw [UInt8.toNat_ofNat']
    omega
theorem rep_u32 {P : Program} {t : TypeId} (ht : P.underlying t = some (.int .u32)) : RepOk P t (fun b : UInt32 => [.int .u32 b.toNat]) :=
  rep_int ht (fun b : UInt32 => (b.toNat : Int)) fun n hw => by
    have hx : 0 ≤ n ∧ n ≤ 4294967295 := by simpa [Lit.wf, IntKind.min, IntKind.max, IntKind.signed, IntKind.bits] using hw
    refine ⟨UInt32.ofNat n.toNat, ?_⟩
    rw [UInt32.toNat_ofNat']
    omega
/-- A number of 64 bits. -/
def I64 := { n : Int // -9223372036854775808 ≤ n ∧ n ≤ 9223372036854775807 }
theorem rep_i64 {P : Program} {t : TypeId} (ht : P.underlying t = some (.int .i64)) : RepOk P t (fun n : I64 => [.int .i64 n.1]) :=
  rep_int ht (fun n : I64 => n.1) fun n hw => ⟨⟨n, by simpa [Lit.wf, IntKind.min, IntKind.max, IntKind.signed, IntKind.bits] using hw⟩, rfl⟩
theorem rep_str {P : Program} {t : TypeId} (ht : P.underlying t = some .string) : RepOk P t (fun b : ByteArray => [.str b]) := fun enc w sp fuel cs x h => by
  obtain ⟨s, rfl, _⟩ := DataW.trod_string ht h
  exact ⟨s, vrs_cons (.str s) vrs.nil, by simp [Value.oneCell']⟩
theorem list_of {α : Type} {p : Nat → α → Prop} : ∀ {n : Nat}, (∀ i, i < n → ∃ a, p i a) → ∃ l : List α, l.length = n ∧ ∀ i a, l[i]? = some a → p i a
  | 0, _ => ⟨[], rfl, by simp⟩
  | n + 1, h => by
    obtain ⟨l, hl, hp⟩ := list_of (p := p) (n := n) (fun i hi => h i (by omega))
    obtain ⟨a, ha⟩ := h n (by omega)
    refine ⟨l ++ [a], by simp [hl], fun i x hx => ?_⟩
    by_cases hi : i < n
    · rw [List.getElem?_append_left (by omega)] at hx; exact hp i x hx
    · have hlt := (List.getElem?_eq_some_iff.1 hx).1
      have : i = n := by simp at hlt; omega
      subst this
      rw [List.getElem?_append_right (by omega), hl] at hx
      simp at hx; subst hx; exact ha
theorem rep_slice {P : Program} {t e : TypeId} {sz : Nat} (ht : P.underlying t = some (.slice e)) (hc : P.cellsOf e = sz) (hpos : 0 < sz) {α : Type} {cells : α → List V} (hl : ∀ a, (cells a).length = sz) (he : RepOk P e cells) :
    RepOk P t (fun l : List α => [.sl false sz (l.map cells)]) := fun enc w sp fuel cs x h => by
  rcases DataW.trod_slice ht h with ⟨rfl, _⟩ | ⟨ad, len, cap, elems, rest, n, _, rfl, _, hb, hlc, hcm, hlen, hel, _, _⟩
  · exact ⟨[], vrs_cons (.sl false sz [] none 0 (fun _ => undef) (Nat.le_refl _) (Nat.zero_le _) (fun h => absurd rfl h) (by simp) (by simp) (by simp)) vrs.nil, by simp [Value.oneCell']⟩
  rw [hc] at hel
  have each : ∀ i, i < len → ∃ a : α, ∃ cs, w.cells? 0 (ad.add (i * sz)) sz = some cs ∧ vrs (G0 w) w (cells a) cs ∧ ∀ u ∈ cs, u.oneCell' = true := by
    intro i hi
    have h1 := hel i hi
    rw [List.getElem?_eq_getElem (by omega), Option.bind_eq_some_iff] at h1
    obtain ⟨cs, h2, h3⟩ := h1
    obtain ⟨a, h4, h5⟩ := he enc w sp _ _ _ h3
    exact ⟨a, cs, h2, h4, h5⟩
  obtain ⟨l, hll, hp⟩ := list_of each
  have hrow : ∀ x, x ∈ l.map cells → x.length = sz := by
    intro x hx
    obtain ⟨a, _, rfl⟩ := List.mem_map.1 hx
    exact hl a
  have hfl := flatten_cells hrow
  rw [List.length_map] at hfl
  have hspot : l ≠ [] → ad.spot = none := by
    intro hne
    have h0 : 0 < l.length := List.length_pos_iff.2 hne
    obtain ⟨cs, h1, _⟩ := hp 0 _ (List.getElem?_eq_getElem h0)
    obtain ⟨_, h2, h3⟩ := World.cells?_some h1
    have h4 := h3 0 hpos
    have h5 : ((ad.add (0 * sz)).add 0) = ad := by simp [Addr.add]
    rw [h5, List.getElem?_eq_getElem (by omega)] at h4
    unfold World.cell? at h4
    split at h4
    · split at h4
      · cases h4
      · rename_i hs; simpa using hs
    · cases h4
  have key : ∀ (j : Nat) (v : V), (l.map cells).flatten[j]? = some v → ∃ u, w.cell? ⟨ad.block, ad.off + j, none⟩ = some u ∧ u.oneCell' = true ∧ vr (G0 w) w v u := by
    intro j v hv
    have hj : j < l.length * sz := by rw [← hfl]; exact (List.getElem?_eq_some_iff.1 hv).1
    have hi : j / sz < l.length := (Nat.div_lt_iff_lt_mul hpos).2 hj
    have hk : j % sz < sz := Nat.mod_lt _ hpos
    have hne : l ≠ [] := by intro e; subst e; simp at hi
    obtain ⟨cs, h1, h2, h3⟩ := hp (j / sz) _ (List.getElem?_eq_getElem hi)
    obtain ⟨_, h4, h5⟩ := World.cells?_some h1
    have hrw : (l.map cells)[j / sz]? = some (cells l[j / sz]) := by simp [hi]
    have hdm : (j / sz) * sz + j % sz = j := by rw [Nat.mul_comm]; exact Nat.div_add_mod j sz
    have hcl := hl l[j / sz]
    have hv2 := flatten_row hrow hrw (j % sz) (cells l[j / sz])[j % sz] (List.getElem?_eq_getElem (by omega))
    rw [hdm, hv] at hv2
    have hu := h5 (j % sz) hk
    rw [List.getElem?_eq_getElem (by omega)] at hu
    have hs := hspot hne
    have had : (ad.add (j / sz * sz)).add (j % sz) = ⟨ad.block, ad.off + j, none⟩ := by
      rw [add_none hs, add_none rfl]
      simp only [Addr.mk.injEq, and_true, true_and]
      omega
    rw [had] at hu
    refine ⟨cs[j % sz], hu, h3 _ (List.getElem_mem (by omega)), ?_⟩
    cases hv2
    exact h2.2 (j % sz) _ _ (List.getElem?_eq_getElem (by omega)) (List.getElem?_eq_getElem (by omega))
  refine ⟨l, vrs_cons ?_ vrs.nil, by simp [Value.oneCell']⟩
  have := VR.sl (ι := (G0 w).ι) (csz := csz w) (imm := imm (G0 w) w) false sz (l.map cells) (some ad) cap (fun j => (w.cell? ⟨ad.block, ad.off + j, none⟩).getD undef) (by simp [hll]; exact hlc) hcm (fun hne => ⟨ad, rfl, hspot (by intro e; subst e; exact hne rfl)⟩) hrow (fun j v hv ad' e => by
      cases e
      obtain ⟨u, h1, h2, h3⟩ := key j v hv
      refine ⟨by rw [h1]; rfl, ?_, (fun h => by cases h), by rw [h1]; exact h2⟩
      show ad.block < w.heap.size
      unfold World.cell? at h1
      split at h1
      · rename_i hb; exact (Array.getElem?_eq_some_iff.1 hb).1
      · cases h1) (fun j v hv => by
      obtain ⟨u, h1, h2, h3⟩ := key j v hv
      rw [h1]; exact h3)
  rwa [List.length_map, hll] at this
/-- A struct of two parts; more by turns. -/
theorem field_of {H : Type} {enc : TypeId × Value → H} {P : Program} {w : World} {sp : Nat → Bool} {t : TypeId} {fs : Array Field} {fuel : Nat} {cs : List Value} {x : DataW H × List MemPlace} (ht : P.underlying t = some (.struct fs)) (h : DataW.trod enc P w 0 sp true fuel t cs = some x)
    {i : Nat} {f : Field} (hf : fs[i]? = some f) {α : Type} {cells : α → List V} (he : RepOk P f.type cells) : ∃ a, vrs (G0 w) w (cells a) ((cs.drop f.offset).take (P.cellsOf f.type)) ∧ ∀ u ∈ (cs.drop f.offset).take (P.cellsOf f.type), u.oneCell' = true := by
  obtain ⟨xs, n, rfl, _, _, hlen, hx⟩ := DataW.trod_struct ht h
  have hi := (Array.getElem?_eq_some_iff.1 hf).1
  have := hx i f hf
  rw [List.getElem?_eq_getElem (by omega)] at this
  exact he enc w sp _ _ _ this
theorem arg_struct {P : Program} {t : TypeId} {fs : Array Field} (ht : P.underlying t = some (.struct fs)) {α : Type} {cells : α → List V} (h : RepOk P t cells) : ArgOk P t (fun a => .agg (cells a)) := fun enc W base v d p hok hd => by
  obtain ⟨cs, rfl, _⟩ := okWide_struct ht hok
  obtain ⟨fuel, hf⟩ := hd
  obtain ⟨a, h1, _⟩ := h enc W _ fuel _ _ hf
  refine ⟨a, ?_⟩
  have := VR.agg (ι := (G0 W).ι) (csz := csz W) (imm := imm (G0 W) W) (cells a) cs.toList h1.1 h1.2
  simpa using this
theorem arg_one {P : Program} {t : TypeId} {α : Type} {val : α → V} (hone : ∀ W base v, Value.okWide P W .any base t v → v.cells = #[v]) (h : RepOk P t (fun a => [val a])) : ArgOk P t val := fun enc W base v d p hok hd => by
  obtain ⟨fuel, hf⟩ := hd
  rw [hone W base v hok] at hf
  obtain ⟨a, h1, _⟩ := h enc W _ fuel _ _ hf
  exact ⟨a, h1.2 0 _ _ rfl rfl⟩
theorem arg_int {P : Program} {t : TypeId} {k : IntKind} (ht : P.underlying t = some (.int k)) {α : Type} {val : α → V} (h : RepOk P t (fun a => [val a])) : ArgOk P t val :=
  arg_one (fun W base v hok => by obtain ⟨n, rfl⟩ := okWide_int ht hok; rfl) h
theorem arg_bool {P : Program} {t : TypeId} (ht : P.underlying t = some .bool) {α : Type} {val : α → V} (h : RepOk P t (fun a => [val a])) : ArgOk P t val :=
  arg_one (fun W base v hok => by obtain ⟨n, rfl⟩ := okWide_bool ht hok; rfl) h
theorem arg_slice {P : Program} {t e : TypeId} (ht : P.underlying t = some (.slice e)) {α : Type} {val : α → V} (h : RepOk P t (fun a => [val a])) : ArgOk P t val :=
  arg_one (fun W base v hok => by obtain ⟨a, len, cap, rfl⟩ := okWide_slice ht hok; rfl) h
theorem arg_str {P : Program} {t : TypeId} (ht : P.underlying t = some .string) {α : Type} {val : α → V} (h : RepOk P t (fun a => [val a])) : ArgOk P t val :=
  arg_one (fun W base v hok => by obtain ⟨s, rfl⟩ := okWide_string ht hok; rfl) h

/-- A LAW: out of its contract, what its row asks of the call. -/
theorem law_of {H : Type} {enc : TypeId × Value → H} {P : Program} {f : FuncId} {fn : Func} {s : ChangeSpec} {apart fresh handsOn again : Bool} {ts : List TypeId} {tb : TypeId} (hts : fn.params.toList = ts) (hr : fn.resultTypes = #[tb]) (htb : P.underlying tb = some .bool)
    (hlaid : laidOutB P = true) (hread : ∀ t ∈ ts, P.readableRec t = true ∧ t < P.types.size) (hv : s.vars = []) (hspec : ∀ ds : List (DataW H), ds.length = ts.length → s.fn H ds = { results := [.lit (.bool true)], args := ds })
    {α : Type} {vals : α → List V} (hrep : ArgsOk P ts vals) (hc : ∀ a, PCon P f (vals a) (.bool true)) {W : World} {base : Nat} {args : Array Value} {ds gs : List (DataW H)} {before : List MemPlace}
    (hval : ∀ (j : Nat) t v, fn.params[j]? = some t → args[j]? = some v → Value.okWide P W .any base t v) (hW : DataW.Whole enc P fn.params.toList s.vars apart W args.toList ds gs before) :
    Calls P f args W fun e W' => ∃ v, e = .returned v ∧ s.post enc P fn apart fresh handsOn again W args v W' := by
  have hW' := hW
  obtain ⟨p, q, hA0, hV, rfl, hfz, hnd⟩ := hW
  rw [hts] at hA0
  rw [hv] at hV
  obtain ⟨rfl, rfl⟩ := trodVars_none hV
  obtain ⟨a, ha⟩ := hrep enc W base args.toList ds p (fun j t v h1 h2 => hval j t v (by rw [← hts] at h1; simpa using h1) (by simpa using h2)) hA0
  have hcall := (hc a).2 (G0 W) W args.toList (hr0 W) ha
  rw [Array.toArray_toList] at hcall
  refine hcall.mono ?_
  rintro e W' ⟨u, v, h', nx', G', rfl, ⟨rfl, rfl, rfl⟩, hvu, hr', E, _⟩
  obtain rfl := VR.bool_iff.1 hvu
  have hlen := trodAll_len hA0
  have hlt := hW'.lt
  refine ⟨_, rfl, post_same (pa := p) (pv := []) hW' (fun b sp hd => ?_) (fun sp hsp => ?_) (fun sp hsp => ?_) rfl (kept0 E _) (fun b off hb => ?_) (ok_one hr rfl (okWide_bool_mk htb _))⟩
  · rw [List.append_nil, hspec ds hlen, hr]
    exact ⟨[], [], shut_bool htb true, trodAll_mk0, rfl⟩
  · rw [List.append_nil, hspec ds hlen, hts]
    exact trodAll_same hlaid hread hA0 (fun q hq => same0 E (hlt q (by simpa using hq))) (fun q hq => hsp q (by simpa using hq))
  · rw [List.append_nil, hspec ds hlen, hv]
    rfl
  · have := E.keep b (hlt _ hb)
    simp only [World.frozen?, this]
end Go.Proofs.Ytcfkendgjinmiaa
