/- The abstract machine: pure values, states, and what a world holds of them. -/
import Derived.Below
import Derived.Laws.Cells
import Derived.Laws.CopyRow
import Derived.Laws.Build
import Derived.ControlIn
import Derived.CallsIn
import Derived.OwnWalkIn
set_option linter.unusedVariables false
namespace Go.Proofs.Ytcfkendgjinmiaa
open Go.RowKit

/-- Pure values. -/
inductive V where
  | any
  | int (k : IntKind) (n : Int)
  | bool (b : Bool)
  | str (s : ByteArray)
  | agg (cs : List V)
  | tup (vs : List V)
  | snil
  | sl (fr : Bool) (sz : Nat) (xs : List (List V))
  | osl (b sz row n : Nat)
  | nilp
  | ptr (b col : Nat)
  | eptr (b sz row col : Nat)
  | iptr (fr : Bool) (cs : List V)
  | nilf
  | fn (f : Fn) (first cap : List V)
  | nili
  | ifc (t : TypeId) (v : V)
  | opt (c : Bool) (v : V)
  | yld (b : Nat)
  | ubool
instance : Inhabited V := ⟨.any⟩

/-- What is owned: a block of rows; `ex`: it has no spare room. -/
inductive Blk where
  | var (fr : Bool) (ty : TypeId) (cells : List V)
  | arr (fr ex : Bool) (ty : TypeId) (sz : Nat) (rows : List (List V))
  | loop (N : Nat) (t : List (Nat × V)) (ps : List Nat) (asg body : Code) (st : LoopState) (pend : Option Code)

abbrev Heap := List (Nat × Option Blk)
structure St where
  t : List (Nat × V)
  h : Heap
  nx : Nat

def look : List (Nat × V) → Nat → V
  | [], _ => .any
  | (i, v) :: r, j => match Nat.beq i j with | true => v | false => look r j
def hget : Heap → Nat → Option Blk
  | [], _ => none
  | (i, v) :: r, j => match Nat.beq i j with | true => v | false => hget r j

/-- Ghosts: where each owned block lies, which blocks never turn, from where on blocks count as fresh. -/
structure Gh where
  ι : Nat → Option Nat
  amb : Nat → Prop
  B : Nat

inductive VR (ι : Nat → Option Nat) (csz : Nat → Option Nat) (imm : Bool → Addr → Value → Prop) : V → Value → Prop
  | any (u) : VR ι csz imm .any u
  | int (k n) : VR ι csz imm (.int k n) (.int k n)
  | bool (b) : VR ι csz imm (.bool b) (.bool b)
  | str (s) : VR ι csz imm (.str s) (.string s)
  | agg (cs : List V) (us : List Value) (hl : cs.length = us.length) (h : ∀ (j : Nat) (v : V) (u : Value), cs[j]? = some v → us[j]? = some u → VR ι csz imm v u) : VR ι csz imm (.agg cs) (.agg us.toArray)
  | tup (cs : List V) (us : List Value) (hl : cs.length = us.length) (h : ∀ (j : Nat) (v : V) (u : Value), cs[j]? = some v → us[j]? = some u → VR ι csz imm v u) : VR ι csz imm (.tup cs) (.tuple us.toArray)
  | snil (A) : VR ι csz imm .snil (.slice A 0 0)
  | sl (fr : Bool) (sz : Nat) (xs : List (List V)) (A : Option Addr) (cap : Nat) (us : Nat → Value) (hcap : xs.length ≤ cap) (hm : cap ≤ maxLen)
      (hA : xs ≠ [] → ∃ ad, A = some ad ∧ ad.spot = none) (hrow : ∀ x, x ∈ xs → x.length = sz)
      (hc : ∀ (j : Nat) (v : V), xs.flatten[j]? = some v → ∀ ad, A = some ad → imm fr ⟨ad.block, ad.off + j, none⟩ (us j))
      (hv : ∀ (j : Nat) (v : V), xs.flatten[j]? = some v → VR ι csz imm v (us j)) : VR ι csz imm (.sl fr sz xs) (.slice A xs.length cap)
  | iptr (fr : Bool) (cs : List V) (ad : Addr) (us : Nat → Value) (hs : ad.spot = none)
      (hc : ∀ (j : Nat) (v : V), cs[j]? = some v → imm fr ⟨ad.block, ad.off + j, none⟩ (us j))
      (hv : ∀ (j : Nat) (v : V), cs[j]? = some v → VR ι csz imm v (us j)) : VR ι csz imm (.iptr fr cs) (.pointer (some ad))
  | nilp : VR ι csz imm .nilp (.pointer none)
  | ptr (b col c) (h : ι b = some c) : VR ι csz imm (.ptr b col) (.pointer (some ⟨c, col, none⟩))
  | eptr (b sz row col c) (h : ι b = some c) : VR ι csz imm (.eptr b sz row col) (.pointer (some ⟨c, row * sz + col, none⟩))
  | osl (b sz row n c cap m) (h : ι b = some c) (hz : csz c = some m) (he : (row + cap) * sz = m) (hn : n ≤ cap) (hm : cap ≤ maxLen) : VR ι csz imm (.osl b sz row n) (.slice (some ⟨c, row * sz, none⟩) n cap)
  | oslz (b sz row A) : VR ι csz imm (.osl b sz row 0) (.slice A 0 0)
  | nilf : VR ι csz imm .nilf .nilFunc
  | fn (f : Fn) (fs cs : List V) (us ws : List Value) (hf : fs.length = us.length) (hc : cs.length = ws.length) (h1 : ∀ (j : Nat) (v : V) (u : Value), fs[j]? = some v → us[j]? = some u → VR ι csz imm v u)
      (h2 : ∀ (j : Nat) (v : V) (u : Value), cs[j]? = some v → ws[j]? = some u → VR ι csz imm v u) : VR ι csz imm (.fn f fs cs) (.func f us.toArray ws.toArray)
  | nili : VR ι csz imm .nili .nilIface
  | ifc (t : TypeId) (v : V) (u : Value) (h : VR ι csz imm v u) : VR ι csz imm (.ifc t v) (.iface t u)
  | opt (c : Bool) (v : V) (u : Value) (h : c = true → VR ι csz imm v u) (h0 : c = false → u = .tuple #[]) : VR ι csz imm (.opt c v) u
  | yld (b c : Nat) (h : ι b = some c) : VR ι csz imm (.yld b) (.func (.yield c) #[] #[])
  | ubool (b : Bool) : VR ι csz imm .ubool (.bool b)

theorem VR.mono {ι ι' : Nat → Option Nat} {csz csz' : Nat → Option Nat} {imm imm' : Bool → Addr → Value → Prop}
    (hι : ∀ b c, ι b = some c → ι' b = some c) (hz : ∀ c m, csz c = some m → csz' c = some m) (hi : ∀ fr a u, imm fr a u → imm' fr a u)
    {v : V} {u : Value} (h : VR ι csz imm v u) : VR ι' csz' imm' v u := by
  induction h with
  | any u => exact .any u
  | int k n => exact .int k n
  | bool b => exact .bool b
  | str s => exact .str s
  | agg cs us hl _ ih => exact .agg cs us hl ih
  | tup cs us hl _ ih => exact .tup cs us hl ih
  | snil A => exact .snil A
  | sl fr sz xs A cap us hcap hm hA hrow hc _ ih => exact .sl fr sz xs A cap us hcap hm hA hrow (fun j v hj ad ha => hi _ _ _ (hc j v hj ad ha)) ih
  | iptr fr cs ad us hs hc _ ih => exact .iptr fr cs ad us hs (fun j v hj => hi _ _ _ (hc j v hj)) ih
  | nilp => exact .nilp
  | ptr b col c h => exact .ptr b col c (hι _ _ h)
  | eptr b sz row col c h => exact .eptr b sz row col c (hι _ _ h)
  | osl b sz row n c cap m h z he hn hm => exact .osl b sz row n c cap m (hι _ _ h) (hz _ _ z) he hn hm
  | oslz b sz row A => exact .oslz b sz row A
  | nilf => exact .nilf
  | fn f fs cs us ws hf hc _ _ ih1 ih2 => exact .fn f fs cs us ws hf hc ih1 ih2
  | nili => exact .nili
  | ifc t v u _ ih => exact .ifc t v u ih
  | opt c v u _ h0 ih => exact .opt c v u ih h0
  | yld b c h => exact .yld b c (hι _ _ h)
  | ubool b => exact .ubool b

/-- How many cells a block has. -/
def csz (w : World) (c : Nat) : Option Nat :=
  match w.heap[c]? with
  | some (.cells cs _ _) => some cs.size
  | _ => none
def imm (G : Gh) (w : World) (fr : Bool) (a : Addr) (u : Value) : Prop := w.cell? a = some u ∧ G.amb a.block ∧ (fr = true → G.B ≤ a.block) ∧ u.oneCell' = true
abbrev vr (G : Gh) (w : World) : V → Value → Prop := VR G.ι (csz w) (imm G w)

/-- What a world holds of an owned block: cells of its own. -/
def Holds (G : Gh) (w : World) (b : Nat) (fr ex : Bool) (ty : TypeId) (vs : List V) : Prop :=
  ∃ c cs, G.ι b = some c ∧ w.heap[c]? = some (.cells cs ty (0, 0)) ∧ vs.length ≤ cs.size ∧ (ex = true → vs.length = cs.size) ∧
      (fr = true → G.B ≤ c) ∧ ∀ (j : Nat) (v : V), vs[j]? = some v → ∃ u : Value, cs[j]? = some u ∧ u.oneCell' = true ∧ vr G w v u
def BlkOk (G : Gh) (w : World) (b : Nat) : Blk → Prop
  | .var fr ty cells => Holds G w b fr true ty cells
  | .arr fr ex ty sz rows => (∀ x, x ∈ rows → x.length = sz) ∧ ((G.ι b = none ∧ rows = []) ∨ Holds G w b fr ex ty rows.flatten)
  | .loop N t ps asg body st pend => ∃ c r, G.ι b = some c ∧ w.heap[c]? = some (.loop r) ∧ r.state = st ∧ r.pending = pend ∧ r.params = ps.toArray ∧ r.assign = asg ∧ r.body = body ∧ r.tmps.size = N ∧ ∀ i, vr G w (look t i) (r.tmps.getD i undef)

structure HR (G : Gh) (h : Heap) (nx : Nat) (w : World) : Prop where
  amb_lt : ∀ c, G.amb c → c < w.heap.size
  B_le : G.B ≤ w.heap.size
  dom : ∀ b, nx ≤ b → G.ι b = none
  own : ∀ b blk, hget h b = some blk → BlkOk G w b blk
  inj : ∀ b b' blk blk' c, hget h b = some blk → hget h b' = some blk' → G.ι b = some c → G.ι b' = some c → b = b'
  apart : ∀ b blk c, hget h b = some blk → G.ι b = some c → ¬ G.amb c
  lt : ∀ b c, G.ι b = some c → c < w.heap.size
  hdom : ∀ b blk, hget h b = some blk → b < nx

def St.get (s : St) (i : Nat) : V := look s.t i
structure Sim (G : Gh) (N : Nat) (s : St) (a : Act) (w : World) : Prop where
  size : a.tmps.size = N
  tmp : ∀ i, vr G w (s.get i) (a.tmps.getD i undef)
  hr : HR G s.h s.nx w

/-- How a piece of code may turn the world. `base`: ids below it keep their places. -/
structure Evo (base : Nat) (G : Gh) (w : World) (G' : Gh) (w' : World) : Prop where
  os : w'.os = w.os
  tape : w'.tape = w.tape
  output : w'.output = w.output
  size : w.heap.size ≤ w'.heap.size
  B : G'.B = G.B
  amb : ∀ c, G.amb c → G'.amb c
  keep : ∀ c, G.amb c → w'.heap[c]? = w.heap[c]?
  csz : ∀ c m, csz w c = some m → csz w' c = some m
  ids : ∀ b c, b < base → G.ι b = some c → G'.ι b = some c
  keepu : ∀ c, c < w.heap.size → (∀ b, G.ι b ≠ some c) → w'.heap[c]? = w.heap[c]?
  ambn : ∀ c, G'.amb c → c < w.heap.size → G.amb c ∨ ∃ b, G.ι b = some c
  idn : ∀ b c, G'.ι b = some c → c < w.heap.size → ∃ b', G.ι b' = some c

theorem Evo.refl (base : Nat) (G : Gh) (w : World) : Evo base G w G w :=
  ⟨rfl, rfl, rfl, Nat.le_refl _, rfl, fun _ h => h, fun _ _ => rfl, fun _ _ h => h, fun _ _ _ h => h, fun _ _ _ => rfl, fun _ h _ => .inl h, fun b _ h _ => ⟨b, h⟩⟩
theorem Evo.trans {base : Nat} {G₁ G₂ G₃ : Gh} {w₁ w₂ w₃ : World} (h : Evo base G₁ w₁ G₂ w₂) (k : Evo base G₂ w₂ G₃ w₃) : Evo base G₁ w₁ G₃ w₃ :=
  ⟨k.os.trans h.os, k.tape.trans h.tape, k.output.trans h.output, Nat.le_trans h.size k.size, k.B.trans h.B, fun c hc => k.amb c (h.amb c hc),
   fun c hc => (k.keep c (h.amb c hc)).trans (h.keep c hc), fun c m hm => k.csz c m (h.csz c m hm), fun b c hb hc => k.ids b c hb (h.ids b c hb hc),
   fun c hc hn => (k.keepu c (Nat.lt_of_lt_of_le hc h.size) (fun b hb => by obtain ⟨b', hb'⟩ := h.idn b c hb hc; exact hn b' hb')).trans (h.keepu c hc hn),
   fun c hc hlt => by
    rcases k.ambn c hc (Nat.lt_of_lt_of_le hlt h.size) with h1 | ⟨b, h1⟩
    · exact h.ambn c h1 hlt
    · exact .inr (h.idn b c h1 hlt),
   fun b c hc hlt => by
    obtain ⟨b', h1⟩ := k.idn b c hc (Nat.lt_of_lt_of_le hlt h.size)
    exact h.idn b' c h1 hlt⟩
theorem Evo.less {base base' : Nat} {G G' : Gh} {w w' : World} (h : Evo base G w G' w') (hb : base' ≤ base) : Evo base' G w G' w' :=
  ⟨h.os, h.tape, h.output, h.size, h.B, h.amb, h.keep, h.csz, fun b c hb' hc => h.ids b c (by omega) hc, h.keepu, h.ambn, h.idn⟩
theorem Evo.imm {base : Nat} {G G' : Gh} {w w' : World} (h : Evo base G w G' w') {fr : Bool} {a : Addr} {u : Value} (hi : imm G w fr a u) : imm G' w' fr a u :=
  ⟨(World.cell?_of_block (h.keep _ hi.2.1)).trans hi.1, h.amb _ hi.2.1, fun hf => by rw [h.B]; exact hi.2.2.1 hf, hi.2.2.2⟩
/-- What a value is, it stays, where its ids keep their places. -/
theorem Evo.vr {base : Nat} {G G' : Gh} {w w' : World} (h : Evo base G w G' w') (hd : ∀ b, base ≤ b → G.ι b = none) {v : V} {u : Value} (hv : vr G w v u) : vr G' w' v u :=
  VR.mono (fun b c hb => h.ids b c (by
    rcases Nat.lt_or_ge b base with hlt | hge
    · exact hlt
    · rw [hd b hge] at hb; cases hb) hb) h.csz (fun _ _ _ hi => h.imm hi) hv

end Go.Proofs.Ytcfkendgjinmiaa
