/- Calls, regions in the text's order, code. -/
import Derived.Test.YtcfkendgjinmiaaVJ
import Derived.RangeFuncIn
import Derived.RangeFuncCalls
import Derived.RangeFuncRecord
import Derived.RangeFuncLeaves
set_option linter.unusedVariables false
set_option linter.unusedSimpArgs false
namespace Go.Proofs.Ytcfkendgjinmiaa
open Go.RowKit

/-- The fences that let everything in. -/
def FW (F : Fence) : Prop := F = Fence.wide ∨ ∃ l, F = Fence.wide.inRound l
theorem FW.fn {F : Fence} (h : FW F) (f : FuncId) : F.fn f := by rcases h with rfl | ⟨l, rfl⟩ <;> trivial
theorem FW.depth {F : Fence} (h : FW F) : F.depth = none := by rcases h with rfl | ⟨l, rfl⟩ <;> rfl
theorem FW.call {F : Fence} (h : FW F) {n : Nat} {P : Program} {f : FuncId} {args : Array Value} {w : World} {R : Ending → World → Prop} (hc : Calls P f args w R) : CallsIn F n P f args w R := by
  rcases h with rfl | ⟨l, rfl⟩
  · exact callsIn_wide.2 hc
  · exact CallsIn.inRound l (callsIn_wide.2 hc)
theorem FW.plain {F : Fence} (h : FW F) : FW F.plain := .inl (by rcases h with rfl | ⟨l, rfl⟩ <;> rfl)

/-- What a call of a function does, told on pure values. -/
def CallV (P : Program) (f : FuncId) (args : List V) (h : Heap) (nx : Nat) (R : V → Heap → Nat → Prop) : Prop :=
  (∃ fn, P.funcs[f]? = some fn ∧ fn.body.isSome = true ∧ fn.name ≠ "runtime.NumGoroutine") ∧
  ∀ (G : Gh) (w : World) (us : List Value), HR G h nx w → vrs G w args us →
    Calls P f us.toArray w fun e w' => ∃ u v h' nx' G', e = .returned u ∧ R v h' nx' ∧ vr G' w' v u ∧ HR G' h' nx' w' ∧ Evo nx G w G' w' ∧ nx ≤ nx'
theorem CallV.mono {P : Program} {f : FuncId} {args : List V} {h : Heap} {nx : Nat} {R R' : V → Heap → Nat → Prop} (hc : CallV P f args h nx R) (hr : ∀ v h' nx', R v h' nx' → R' v h' nx') : CallV P f args h nx R' :=
  ⟨hc.1, fun G w us hh hv => (hc.2 G w us hh hv).mono fun e w' ⟨u, v, h', nx', G', h1, h2, h3⟩ => ⟨u, v, h', nx', G', h1, hr _ _ _ h2, h3⟩⟩

inductive Ex where
  | normal | exit (id : Nat) | goto (l : Nat) | ret
def Ex.to : Ex → Exit
  | .normal => .normal
  | .exit id => .exit id
  | .goto l => .goto l
  | .ret => .ret

/-- What ranges over functions leave to be done at the function's end: marks, each with nothing behind it. -/
def Dfr (w0 : World) (G : Gh) (w : World) (D D' : List Deferred) : Prop :=
  ∃ ms : List Nat, D' = (ms.map fun r => { target := .collected r, args := #[] }) ++ D ∧ (∀ r ∈ ms, w0.heap.size ≤ r ∧ w.heap[r]? = some (.deferred (some [])) ∧ (∀ b, G.ι b ≠ some r) ∧ ¬ G.amb r) ∧ ms.Pairwise (· ≠ ·)
theorem Dfr.refl (w0 : World) (G : Gh) (w : World) (D : List Deferred) : Dfr w0 G w D D := ⟨[], rfl, by simp, .nil⟩
theorem Dfr.of_eq {w0 : World} {G : Gh} {w : World} {D D' : List Deferred} (h : D' = D) : Dfr w0 G w D D' := h ▸ Dfr.refl _ _ _ _
theorem lt_of_heap {w : World} {r : Nat} {o : Obj} (h : w.heap[r]? = some o) : r < w.heap.size := (Array.getElem?_eq_some_iff.1 h).1
theorem Dfr.evo {base : Nat} {w0 : World} {G G' : Gh} {w w' : World} {D D' : List Deferred} (h : Dfr w0 G w D D') (he : Evo base G w G' w') : Dfr w0 G' w' D D' := by
  obtain ⟨ms, h1, h2, h3⟩ := h
  refine ⟨ms, h1, fun r hr => ?_, h3⟩
  obtain ⟨q1, q2, q3, q4⟩ := h2 r hr
  have hlt := lt_of_heap q2
  refine ⟨q1, (he.keepu r hlt q3).trans q2, fun b hb => ?_, fun ha => ?_⟩
  · obtain ⟨b', hb'⟩ := he.idn b r hb hlt
    exact q3 b' hb'
  · rcases he.ambn r ha hlt with h | ⟨b, h⟩
    · exact q4 h
    · exact q3 b h
theorem Dfr.trans {base : Nat} {w0 : World} {G1 G2 : Gh} {w1 w2 : World} {D D1 D2 : List Deferred} (h : Dfr w0 G1 w1 D D1) (he : Evo base G1 w1 G2 w2) (hw : w0.heap.size ≤ w1.heap.size) (k : Dfr w1 G2 w2 D1 D2) : Dfr w0 G2 w2 D D2 := by
  have h' := h.evo he
  obtain ⟨ms, h1, h2, h3⟩ := h'
  obtain ⟨ms2, k1, k2, k3⟩ := k
  obtain ⟨ms0, h10, h20, _⟩ := h
  have hsz : ∀ r ∈ ms, r < w1.heap.size := by
    intro r hr
    have : ms0 = ms := by
      have e := h10.symm.trans h1
      have e2 := List.append_cancel_right e
      exact (List.map_inj_right (fun a b hab => by simpa using hab)).1 e2
    subst this
    exact lt_of_heap (h20 r hr).2.1
  refine ⟨ms2 ++ ms, by rw [k1, h1]; simp, fun r hr => ?_, List.pairwise_append.2 ⟨k3, h3, fun a ha b hb e => ?_⟩⟩
  · rcases List.mem_append.1 hr with hr | hr
    · have := k2 r hr
      exact ⟨by omega, this.2⟩
    · exact h2 r hr
  · have := (k2 a ha).1
    have := hsz b hb
    omega
/-- The machine's side of a postcondition. -/
def Post (N base : Nat) (G : Gh) (w : World) (D : List Deferred) (Q : Ex → St → Prop) (e : Exit) (a' : Act) (w' : World) : Prop :=
  ∃ e' s' G', e = e'.to ∧ Q e' s' ∧ Sim G' N s' a' w' ∧ Evo base G w G' w' ∧ base ≤ s'.nx ∧ Dfr w G' w' D a'.defers
/-- WHAT A PIECE OF CODE DOES, TOLD ON STATES. -/
def VC (P : Program) (F : Fence) (N base : Nat) (c : Code) (s : St) (Q : Ex → St → Prop) : Prop :=
  ∀ (n : Nat) (G : Gh) (a : Act) (w : World), Sim G N s a w → base ≤ s.nx → c.wpIn F n P (Post N base G w a.defers Q) a w
theorem Post.evo {N base : Nat} {G G1 : Gh} {w w1 : World} {D : List Deferred} {D1 : List Deferred} {Q : Ex → St → Prop} {e : Exit} {a' : Act} {w' : World} (h : Post N base G1 w1 D1 Q e a' w') (he : Evo base G w G1 w1) (hd : Dfr w G1 w1 D D1) : Post N base G w D Q e a' w' := by
  obtain ⟨e', s', G', h1, h2, h3, h4, h5, h6⟩ := h
  exact ⟨e', s', G', h1, h2, h3, he.trans h4, h5, hd.trans h4 he.size h6⟩
theorem VC.mono {P : Program} {F : Fence} {N base : Nat} {c : Code} {s : St} {Q Q' : Ex → St → Prop} (h : VC P F N base c s Q) (hq : ∀ e s, Q e s → Q' e s) : VC P F N base c s Q' :=
  fun n G a w hs hb => wpIn_mono (h n G a w hs hb) fun e a' w' ⟨e', s', G', h1, h2, h3⟩ => ⟨e', s', G', h1, hq _ _ h2, h3⟩

/-! ### The record of a range over a function -/
theorem FW.round {F : Fence} (h : FW F) (l : Nat) : FW (F.inRound l) := by rcases h with rfl | ⟨l0, rfl⟩ <;> exact .inr ⟨l, rfl⟩
theorem csz_putObj {w : World} {c : Nat} {r r' : Loop} (hg : w.heap[c]? = some (.loop r)) {c' m : Nat} (h : csz w c' = some m) : csz (w.putObj c (.loop r')) c' = some m := by
  unfold csz at h ⊢
  by_cases e : c' = c
  · subst e; rw [hg] at h; cases h
  · rw [World.putObj_heap_other e]; exact h
theorem EvoA.putLoop {G : Gh} {w : World} {c : Nat} {r r' : Loop} (hg : w.heap[c]? = some (.loop r)) (ha : ¬ G.amb c) {b : Nat} (hb : G.ι b = some c) : EvoA G w G (w.putObj c (.loop r')) := fun base =>
  ⟨rfl, rfl, rfl, by simp, rfl, fun _ hc => hc, fun c' hc => World.putObj_heap_other (fun e => ha (e ▸ hc)), fun _ _ hm => csz_putObj hg hm, fun _ _ _ hc => hc,
   fun c' _ hn => World.putObj_heap_other (fun e => hn b (e ▸ hb)), fun _ h _ => .inl h, fun b _ h _ => ⟨b, h⟩⟩
theorem HR.putLoop {G : Gh} {hp : Heap} {n : Nat} {w : World} (h : HR G hp n w) {b c : Nat} {blk : Blk} (hb : hget hp b = some blk) (hc : G.ι b = some c) {r r' : Loop}
    (hg : w.heap[c]? = some (.loop r)) (blk' : Blk) (hok : BlkOk G (w.putObj c (.loop r')) b blk') : HR G ((b, some blk') :: hp) n (w.putObj c (.loop r')) := by
  have he : EvoA G w G (w.putObj c (.loop r')) := EvoA.putLoop hg (h.apart b blk c hb hc) hc
  have live : ∀ {b' k}, hget ((b, some blk') :: hp) b' = some k → ∃ k', hget hp b' = some k' := by
    intro b' k hk
    rw [hget_cons] at hk
    split at hk
    · rename_i e; subst e; exact ⟨_, hb⟩
    · exact ⟨k, hk⟩
  refine ⟨fun c hc => by have := h.amb_lt c hc; simpa using this, by simpa using h.B_le, h.dom, fun b' k hk => ?_, fun b1 b2 k1 k2 c' h1 h2 h3 h4 => ?_, fun b' k c' hk hc' => ?_, fun b' c' hc' => by simpa using h.lt b' c' hc', fun b' k hk => ?_⟩
  · rw [hget_cons] at hk
    split at hk
    · rename_i e; subst e; cases hk; exact hok
    · rename_i e
      refine (h.own b' k hk).keep he (fun c' hc' => World.putObj_heap_other ?_) (fun hn => hn)
      rintro rfl
      exact e (h.inj b b' _ _ _ hb hk hc hc')
  · obtain ⟨_, g1⟩ := live h1
    obtain ⟨_, g2⟩ := live h2
    exact h.inj b1 b2 _ _ c' g1 g2 h3 h4
  · obtain ⟨_, g1⟩ := live hk
    exact h.apart b' _ c' g1 hc'
  · obtain ⟨_, g1⟩ := live hk
    exact h.hdom b' _ g1
/-- The record turns its state. -/
theorem HR.loopTo {G : Gh} {hp : Heap} {n : Nat} {w : World} (h : HR G hp n w) {b N : Nat} {t : List (Nat × V)} {ps : List Nat} {asg body : Code} {st : LoopState} {pend : Option Code}
    (hb : hget hp b = some (.loop N t ps asg body st pend)) : ∃ c r, G.ι b = some c ∧ w.heap[c]? = some (.loop r) ∧ r.state = st ∧ r.pending = pend ∧ r.params = ps.toArray ∧ r.assign = asg ∧ r.body = body ∧ r.tmps.size = N ∧ (∀ i, vr G w (look t i) (r.tmps.getD i undef)) ∧
      ∀ st' pend', HR G ((b, some (.loop N t ps asg body st' pend')) :: hp) n (w.putObj c (.loop { r with state := st', pending := pend' })) ∧ EvoA G w G (w.putObj c (.loop { r with state := st', pending := pend' })) := by
  obtain ⟨c, r, h1, h2, h3, h4, h5, h6, h7, h8, h9⟩ : BlkOk G w b (.loop N t ps asg body st pend) := h.own b _ hb
  refine ⟨c, r, h1, h2, h3, h4, h5, h6, h7, h8, h9, fun st' pend' => ?_⟩
  have he : EvoA G w G (w.putObj c (.loop { r with state := st', pending := pend' })) := EvoA.putLoop h2 (h.apart b _ c hb h1) h1
  exact ⟨h.putLoop hb h1 h2 _ ⟨c, _, h1, World.putObj_heap_same (lt_of_heap h2), rfl, rfl, h5, h6, h7, h8, fun i => he.vr (h9 i)⟩, he⟩
def zipPs : List Nat → List V → List (Nat × V) → List (Nat × V)
  | p :: ps, v :: vs, t => zipPs ps vs ((p, v) :: t)
  | _, _, t => t
theorem zipPs_ok {G : Gh} {w : World} {N : Nat} : ∀ {ps : List Nat} {vs : List V} {us : List Value} {t : List (Nat × V)} {A : Array Value}, vrs G w vs us → (∀ p ∈ ps, p < N) → A.size = N → (∀ i, vr G w (look t i) (A.getD i undef)) →
    (((ps.zip us).foldl (fun (A : Array Value) (x : Nat × Value) => A.setIfInBounds x.1 x.2) A).size = N ∧ ∀ i, vr G w (look (zipPs ps vs t) i) (((ps.zip us).foldl (fun (A : Array Value) (x : Nat × Value) => A.setIfInBounds x.1 x.2) A).getD i undef))
  | [], vs, us, t, A, hv, hp, hA, ht => by cases vs <;> exact ⟨by simpa using hA, by simpa [zipPs] using ht⟩
  | p :: ps, [], us, t, A, hv, hp, hA, ht => by
    have : us = [] := List.eq_nil_of_length_eq_zero hv.1.symm
    subst this
    exact ⟨by simpa using hA, by simpa [zipPs] using ht⟩
  | p :: ps, v :: vs, [], t, A, hv, hp, hA, ht => by have := hv.1; simp at this
  | p :: ps, v :: vs, u :: us, t, A, hv, hp, hA, ht => by
    rw [List.zip_cons_cons, List.foldl_cons, zipPs]
    refine zipPs_ok (ps := ps) (vs := vs) (us := us) ⟨by simpa using hv.1, fun j v' u' h1 h2 => hv.2 (j + 1) v' u' (by simpa using h1) (by simpa using h2)⟩ (fun q hq => hp q (by simp [hq])) (by simpa using hA) fun i => ?_
    have h0 : look ((p, v) :: t) i = if p = i then v else look t i := by
      unfold look
      by_cases e : p = i
      · subst e; simp [Nat.beq_refl]
      · have : Nat.beq p i = false := by
          cases hb : Nat.beq p i with
          | false => rfl
          | true => exact absurd (Nat.eq_of_beq_eq_true hb) e
        simp [this, e]
        cases t <;> rfl
    rw [h0]
    simp only [Array.getD_eq_getD_getElem?] at ht ⊢
    by_cases e : p = i
    · subst e
      have := hp p (by simp)
      rw [Array.getElem?_setIfInBounds_self_of_lt (by omega)]
      simpa using hv.2 0 v u rfl rfl
    · rw [Array.getElem?_setIfInBounds_ne e]
      simpa [e] using ht i
def Ex.code : Ex → Code
  | .normal => .skip
  | .exit id => .exit id
  | .goto l => .goto l
  | .ret => .ret
/-- ONE ROUND: what a call of yield does. -/
def RoundV (P : Program) (N b : Nat) (t : List (Nat × V)) (ps : List Nat) (asg body : Code) (args : List V) (h : Heap) (nx : Nat) (K : V → Heap → Nat → Prop) : Prop :=
  args.length = ps.length ∧ (∀ p ∈ ps, p < N) ∧ b < nx ∧
  ∀ F, FW F → VC P F N nx asg ⟨zipPs ps args t, h, nx⟩ (fun e s1 => match e with
    | .normal => hget s1.h b = some (.loop N t ps asg body .ready none) ∧ VC P F N nx body ⟨s1.t, (b, some (.loop N t ps asg body .busy none)) :: s1.h, s1.nx⟩ (fun e2 s2 => hget s2.h b = some (.loop N t ps asg body .busy none) ∧
        match e2 with
        | .normal => K (.bool true) ((b, some (.loop N t ps asg body .ready none)) :: s2.h) s2.nx
        | e2 => K (.bool false) ((b, some (.loop N t ps asg body .done (some e2.code))) :: s2.h) s2.nx)
    | _ => False)

/-! ### The evaluator, on -/
def nthO {α : Type} : List α → Nat → Option α
  | [], _ => none
  | x :: _, 0 => some x
  | _ :: r, n + 1 => nthO r n
def guardK (all : List Oper) (s : St) (o : Oper) (K : Option Bool → St → Prop) : Prop :=
  match o.guard with
  | none => K none s
  | some (j, want) => match nthO all j with
    | some oj => match oj.dst with
      | some d => match s.get d, s with
        | .bool b, ⟨t, h, nx⟩ => match b with
          | true => K (some want) ⟨(d, .bool true) :: t, h, nx⟩
          | false => K (some (!want)) ⟨(d, .bool false) :: t, h, nx⟩
        | .opt c _, s => match c with
          | false => K (some false) s
          | true => False
        | _, _ => False
      | none => False
    | none => False
def gtmps (all : List Oper) (o : Oper) : List Nat :=
  match o.guard with
  | none => []
  | some (j, _) => match nthO all j with
    | some oj => match oj.dst with
      | some d => [d]
      | none => []
    | none => []
def putK' (N : Nat) (s : St) (d : Option Nat) (v : V) (h : Heap) (nx : Nat) (K : St → Prop) : Prop :=
  match d with
  | some d => match Nat.blt d N, s with
    | true, ⟨t, _, _⟩ => forceV v fun v => forceN nx fun nx => K ⟨(d, v) :: t, h, nx⟩
    | false, _ => False
  | none => match s with | ⟨t, _, _⟩ => forceN nx fun nx => K ⟨t, h, nx⟩
def appendH : Heap → Heap → (Heap → Prop) → Prop
  | [], h, K => forceH h K
  | x :: r, h, K => appendH r h fun h' => K (x :: h')
/-- What a call asks. -/
def callK (P : Program) (s : St) (f : V) (args : List V) (K : V → Heap → Nat → Prop) : Prop :=
  match f with
  | .fn (.func fid) first cap => CallV P fid (first ++ args ++ cap) s.h s.nx K
  | .yld b => match hget s.h b with
    | some (.loop N t ps asg body .ready none) => RoundV P N b t ps asg body args s.h s.nx K
    | _ => False
  | _ => False
/-- What is not wanted is passed by. -/
def skipK (g : Option Bool) (A B : Prop) : Prop :=
  match g with
  | some false => A
  | _ => B
def opK (P : Program) (T : Tab) (N : Nat) (all : List Oper) (o : Oper) (s : St) (K : St → Prop) : Prop :=
  guardK all s o fun g s => skipK g (putK' N s o.dst (.opt false .any) s.h s.nx K) (
    (fun (ex : Prop) => match o.op with
      | .call c => match c.callee with
        | .value f => argK none (ev s f) fun f => evs none s c.args.toList fun vs => callK P s f vs fun v h nx => putK' N s o.dst v h nx K
        | _ => ex
      | _ => ex) (exec T s none o fun val rd upd nx => appendH upd s.h fun h => putK' N s o.dst val h nx K))
def runOps (P : Program) (T : Tab) (N : Nat) (all : List Oper) : List Oper → St → (St → Prop) → Prop
  | [], s, K => K s
  | o :: r, s, K => opK P T N all o s fun s' => runOps P T N all r s' K

section sound
variable {P : Program} {T : Tab} {F : Fence} {N : Nat}

theorem get_put (t : List (Nat × V)) (h h' : Heap) (n n' : Nat) (d : Nat) (v : V) (i : Nat) : St.get ⟨(d, v) :: t, h', n'⟩ i = if d = i then v else St.get ⟨t, h, n⟩ i := by
  by_cases e : d = i
  · subst e; simp [St.get, look, Nat.beq_refl]
  · have : Nat.beq d i = false := by
      cases hb : Nat.beq d i with
      | false => rfl
      | true => exact absurd (Nat.eq_of_beq_eq_true hb) e
    simp [St.get, look, this, e]
theorem put_getD {a : Act} {d i : Nat} {u : Value} (hd : d < a.tmps.size) : (a.put (some d) u).tmps.getD i undef = if d = i then u else a.tmps.getD i undef := by
  simp only [Act.put, Array.getD_eq_getD_getElem?]
  by_cases e : d = i
  · subst e
    rw [Array.getElem?_setIfInBounds_self_of_lt hd]; simp
  · rw [Array.getElem?_setIfInBounds_ne e]; simp [e]
theorem guardK_out {all : List Oper} {s : St} {o : Oper} {K : Option Bool → St → Prop} (h : guardK all s o K) :
    ∃ g s1, K g s1 ∧ (∀ i, s1.get i = s.get i) ∧ s1.h = s.h ∧ s1.nx = s.nx ∧ (o.guard = none → g = none) ∧ ∀ (G : Gh) (a : Act) (w : World) (s' : St), Sim G N s' a w → (∀ i ∈ gtmps all o, s'.get i = s.get i) →
      (g = none → Region.wanted o (yielded all.toArray a.tmps) = true) ∧ ∀ b, g = some b → Region.wanted o (yielded all.toArray a.tmps) = b := by
  unfold guardK at h
  split at h
  · rename_i hg
    exact ⟨none, s, h, fun _ => rfl, rfl, rfl, fun _ => rfl, fun G a w s' hs hse => ⟨fun _ => by simp [Region.wanted, hg], fun b hb => by cases hb⟩⟩
  · rename_i j want hg
    split at h
    · rename_i oj hj
      split at h
      · rename_i d hd
        have hj' : all.toArray[j]? = some oj := by
          have key : ∀ (l : List Oper) (j : Nat), nthO l j = some oj → l[j]? = some oj := by
            intro l
            induction l with
            | nil => intro j h; simp [nthO] at h
            | cons x l ih =>
              intro j h
              cases j with
              | zero => simpa [nthO] using h
              | succ j => simpa [nthO] using ih j h
          simpa using key all j hj
        have hy1 : ∀ (a : Act) (b : Bool), a.tmps[d]? = some (.bool b) → yielded all.toArray a.tmps j = some b := by
          intro a b hb
          simp [yielded, hj', hd, hb]
        have hy0 : ∀ (a : Act), (∀ b, a.tmps[d]? ≠ some (.bool b)) → yielded all.toArray a.tmps j = none := by
          intro a hb
          unfold yielded
          rw [hj', Option.bind_some, hd, Option.bind_some]
          split
          · rename_i b hb'; exact absurd hb' (hb b)
          · rfl
        have hget : ∀ (G : Gh) (a : Act) (w : World) (s' : St), Sim G N s' a w → (∀ i ∈ gtmps all o, s'.get i = s.get i) → vr G w (s.get d) (a.tmps.getD d undef) := fun G a w s' hs hse => by
          have := hs.tmp d
          rw [hse d (by simp [gtmps, hg, hj, hd])] at this
          exact this
        have tm : ∀ (a : Act) (b : Bool), a.tmps.getD d undef = .bool b → a.tmps[d]? = some (.bool b) := by
          intro a b hb
          rw [Array.getD_eq_getD_getElem?] at hb
          cases hx : a.tmps[d]? with
          | none => rw [hx] at hb; simp [undef] at hb
          | some x => rw [hx] at hb; simp at hb; rw [hb]
        split at h
        · rename_i b t hp nx hb
          have h1 : ∀ (G : Gh) (a : Act) (w : World) (s' : St), Sim G N s' a w → (∀ i ∈ gtmps all o, s'.get i = (St.mk t hp nx).get i) → Region.wanted o (yielded all.toArray a.tmps) = (b == want) := by
            intro G a w s' hs hse
            have h1 := hget G a w s' hs hse
            rw [hb] at h1
            have h2 := tm a b (VR.bool_iff.1 h1)
            rw [Region.wanted, hg]
            simp only [hy1 a b h2]
            cases want <;> cases b <;> rfl
          have hsame : ∀ (x : Bool), x = b → ∀ i, (St.mk ((d, .bool x) :: t) hp nx).get i = (St.mk t hp nx).get i := by
            intro x hx i
            rw [get_put t hp hp nx nx d _ i]
            split
            · rename_i e; subst e; rw [hb, hx]
            · rfl
          split at h
          · exact ⟨_, _, h, hsame true rfl, rfl, rfl, (fun hn => by rw [hg] at hn; cases hn), fun G a w s' hs hse => ⟨(fun hn => by simp at hn), fun b' hb' => by cases hb'; rw [h1 G a w s' hs hse]; cases want <;> rfl⟩⟩
          · exact ⟨_, _, h, hsame false rfl, rfl, rfl, (fun hn => by rw [hg] at hn; cases hn), fun G a w s' hs hse => ⟨(fun hn => by simp at hn), fun b' hb' => by cases hb'; rw [h1 G a w s' hs hse]; cases want <;> rfl⟩⟩
        · rename_i c v s0 hb
          split at h
          · refine ⟨some false, _, h, fun _ => rfl, rfl, rfl, (fun hn => by rw [hg] at hn; cases hn), fun G a w s' hs hse => ⟨(fun hn => by simp at hn), fun b' hb' => ?_⟩⟩
            have h1 := hget G a w s' hs hse
            rw [hb] at h1
            cases hb'
            cases h1 with
            | opt _ _ _ hc h0 =>
              rw [Region.wanted, hg]
              have h2 := h0 rfl
              have h3 := hy0 a (fun b hb => by
                rw [Array.getD_eq_getD_getElem?, hb] at h2
                simp at h2)
              simp only [h3]
              rfl
          · exact h.elim
        · exact h.elim
      · exact h.elim
    · exact h.elim
theorem Sim.ext {G : Gh} {s s' : St} {a : Act} {w : World} (hs : Sim G N s a w) (h1 : ∀ i, s'.get i = s.get i) (h2 : s'.h = s.h) (h3 : s'.nx = s.nx) : Sim G N s' a w :=
  ⟨hs.size, fun i => by rw [h1]; exact hs.tmp i, by rw [h2, h3]; exact hs.hr⟩

theorem putK'_out {s : St} {d : Option Nat} {v : V} {h : Heap} {nx : Nat} {K : St → Prop} (hk : putK' N s d v h nx K) :
    ∃ s', K s' ∧ s'.h = h ∧ s'.nx = nx ∧ ∀ (G : Gh) (w : World) (a : Act) (u : Value), a.tmps.size = N → (∀ i, vr G w (s.get i) (a.tmps.getD i undef)) → vr G w v u → HR G h nx w → Sim G N s' (a.put d u) w := by
  obtain ⟨t, h0, n0⟩ := s
  unfold putK' at hk
  simp only [forceV_eq, forceN_eq] at hk
  cases d with
  | none => exact ⟨_, hk, rfl, rfl, fun G w a u hN hs hv hr => ⟨hN, hs, hr⟩⟩
  | some d' =>
    cases hlt : Nat.blt d' N with
    | false => simp only [hlt] at hk
    | true =>
      simp only [hlt] at hk
      have hlt : d' < N := by simpa [Nat.blt_eq] using hlt
      refine ⟨_, hk, rfl, rfl, fun G w a u hN hs hv hr => ⟨by simp [Act.put, hN], fun i => ?_, hr⟩⟩
      rw [put_getD (by omega), get_put t h0 h n0 nx]
      split
      · exact hv
      · exact hs i
theorem appendH_out : ∀ {u h : Heap} {K : Heap → Prop}, appendH u h K → K (u ++ h)
  | [], h, K, hk => by unfold appendH at hk; rw [forceH_eq] at hk; exact hk
  | x :: r, h, K, hk => appendH_out (u := r) (K := fun h' => K (x :: h')) hk

theorem vrs.nil {G : Gh} {w : World} : vrs G w [] [] := ⟨rfl, by simp⟩
/-- A call whose callee's contract is at hand, in the walk. -/
theorem call_run {f : FuncId} {args : List V} {h : Heap} {nx : Nat} {R : V → Heap → Nat → Prop} (hc : CallV P f args h nx R) (us : List Value) (w : World) : (callFunc f us.toArray).run P w = .ok (.enter f us.toArray) w := by
  obtain ⟨⟨fn, h1, h2, h3⟩, _⟩ := hc
  have h4 : (fn.name == "runtime.NumGoroutine") = false := by simpa using h3
  have h5 : fn.body.isNone = false := by cases hb : fn.body <;> simp [hb] at h2 ⊢
  simp only [callFunc, Sem.run_bind, run_program, Result.andThen_ok, h1, h4, h5, Bool.false_eq_true, if_false, Sem.run_pure]

def Goes (F : Fence) (n : Nat) (P : Program) (all : List Oper) (o : Oper) (a : Act) (w : World) (next : Act → World → Prop) (Q : Exit → Act → World → Prop) : Prop :=
  if Region.wanted o (yielded all.toArray a.tmps) then o.wpIn F n P a w next Q else (∀ f, o.about P w a.eval = some f → F.fn f) ∧ next (a.put o.dst undef) w

theorem exec_not_defer {s : St} {g : Option Bool} {o : Oper} {K : OK} (h : exec T s g o K) : ∀ c, o.op ≠ .defer c := by
  intro c hc
  simp only [exec, hc] at h

theorem opK_ok (hT : TabOk P T) (hF : FW F) {all : List Oper} {o : Oper} {s : St} {K : St → Prop} (h : opK P T N all o s K) {base n : Nat} {G : Gh} {a : Act} {w : World} (hs : Sim G N s a w) (hb : base ≤ s.nx)
    {next : Act → World → Prop} {Q : Exit → Act → World → Prop} (hnext : ∀ s' a' w' G', K s' → Sim G' N s' a' w' → Evo base G w G' w' → base ≤ s'.nx → a'.defers = a.defers → next a' w') :
    Goes F n P all o a w next Q := by
  unfold opK at h
  obtain ⟨g, s1, h', hse1, hse2, hse3, hgn, hw⟩ := guardK_out (N := N) h; clear h; have h := h'; clear h'
  replace hw : ∀ (G : Gh) (a : Act) (w : World), Sim G N s1 a w → (g = none → Region.wanted o (yielded all.toArray a.tmps) = true) ∧ ∀ b, g = some b → Region.wanted o (yielded all.toArray a.tmps) = b := fun G a w hs => hw G a w s1 hs (fun i _ => hse1 i)
  replace hs : Sim G N s1 a w := hs.ext hse1 hse2 hse3
  replace hb : base ≤ s1.nx := by omega
  clear hse1 hse2 hse3
  clear s
  obtain ⟨s, rfl⟩ : ∃ s', s' = s1 := ⟨s1, rfl⟩
  have defs : ∀ u, (a.put o.dst u).defers = a.defers := by intro u; cases o.dst <;> rfl
  have hskip : g = some false → putK' N s o.dst (.opt false .any) s.h s.nx K → Goes F n P all o a w next Q := by
    rintro rfl hk
    obtain ⟨s', hKs, e1, e2, hput⟩ := putK'_out hk
    unfold Goes
    rw [if_neg (by rw [(hw G a w hs).2 false rfl]; simp)]
    exact ⟨fun f _ => hF.fn f, hnext s' _ w G hKs (hput G w a undef hs.size hs.tmp (.opt _ _ _ (fun h => by cases h) (fun _ => rfl)) hs.hr) (Evo.refl _ _ _) (by omega) (defs undef)⟩
  unfold skipK at h
  split at h
  · exact hskip rfl h
  rename_i hne
  have hwt : Region.wanted o (yielded all.toArray a.tmps) = true := by
    rcases g with _ | gb
    · exact (hw G a w hs).1 rfl
    · cases gb with
      | true => exact (hw G a w hs).2 true rfl
      | false => exact absurd rfl hne
  clear hskip hne hw hgn
  -- an operation that is no call
  have plain : (exec T s none o fun val rd upd nx => appendH upd s.h fun h => putK' N s o.dst val h nx K) → Goes F n P all o a w next Q := by
    intro h
    have hnd := exec_not_defer h
    obtain ⟨val, rd, upd, nx', hK, hrd, hop, _⟩ := exec_ok hT ⟨G, N, a, w, hs⟩ h
    have hK := appendH_out hK
    obtain ⟨s', hKs, e1, e2, hput⟩ := putK'_out hK
    unfold Goes
    rw [if_pos hwt]
    obtain ⟨hle, hop⟩ := hop (.inl rfl)
    have hmax : max s.nx nx' = nx' := Nat.max_eq_right hle
    have hrd : ∀ b ob, (b, ob) ∈ rd → hget s.h b = ob := by
      intro b ob hm
      rcases hrd b ob hm with h | ⟨rfl, h⟩
      · exact h
      · cases hx : hget s.h b with
        | none => rfl
        | some blk => have := hs.hr.hdom b blk hx; omega
    obtain ⟨u, w', G', hy, hv, hr, hid, he⟩ := hop G N a w s hs (fun _ _ => rfl) hrd (fun b hb1 _ => hs.hr.dom b hb1)
    rw [hmax] at hr
    refine ⟨fun f _ => hF.fn f, ?_⟩
    rw [Oper.semAt_eq _ _ _ hnd]
    have hsim : Sim G' N s' (a.put o.dst u) w' := hput G' w' a u hs.size (fun i => he.vr (hs.tmp i)) hv hr
    have hfin := hnext s' (a.put o.dst u) w' G' hKs hsim (he base) (by omega) (defs u)
    rcases hy with hy | ⟨hy, rfl⟩
    · rw [hy]; exact hfin
    · rw [hy]; exact hfin
  split at h
  · rename_i c ho
    split at h
    · rename_i f hcal
      obtain ⟨fv, h', hfv⟩ := argK_out h; clear h; have h := h'; clear h'
      obtain ⟨vs, h', hlen, hvs⟩ := evs_out h; clear h; have h := h'; clear h'
      have hfm : f ∈ o.op.operands := by rw [ho]; simp [Op.operands, Call.operands, hcal]
      have ham : ∀ x ∈ c.args.toList, x ∈ o.op.operands := by
        intro x hx
        have hx' := Array.mem_toList_iff.1 hx
        rw [ho]; simp [Op.operands, Call.operands, hcal, hx']
      unfold callK at h
      split at h
      · rename_i fid first cap
        have hnd : ∀ c', o.op ≠ .defer c' := by rw [ho]; simp
        -- the call, made
        have made : ∀ {R : V → Heap → Nat → Prop}, CallV P fid (first ++ vs ++ cap) s.h s.nx R →
            (∀ u v h' nx' G' w', R v h' nx' → vr G' w' v u → HR G' h' nx' w' → Evo s.nx G w G' w' → s.nx ≤ nx' → next (a.put o.dst u) w') → o.wpIn F n P a w next Q := by
          intro R hc hk
          refine ⟨fun f _ => hF.fn f, ?_⟩
          rw [Oper.semAt_eq _ _ _ hnd]
          have hfv := hfv (.inl rfl) G w _ (ev_vr hs f (fun _ _ => rfl))
          have hvs := hvs (.inl rfl) G N a w s hs (fun _ _ _ _ => rfl)
          generalize hfu : a.eval f = fu at hfv
          cases hfv with
          | fn _ _ _ us ws hf1 hc1 h1 h2 =>
            have hargs : vrs G w (first ++ vs ++ cap) (us ++ c.args.toList.map a.eval ++ ws) := by
              refine (vrs.append ⟨hf1, h1⟩ ⟨by rw [hlen]; simp, fun j v u q1 q2 => ?_⟩).append ⟨hc1, h2⟩
              rw [List.getElem?_map] at q2
              obtain ⟨x, hx, rfl⟩ := Option.map_eq_some_iff.1 q2
              exact hvs j v x q1 hx
            have e : us.toArray ++ c.args.map a.eval ++ ws.toArray = (us ++ c.args.toList.map a.eval ++ ws).toArray := by apply Array.ext'; simp
            have hrun : (execOp a.eval o).run P w = .ok (.enter fid (us ++ c.args.toList.map a.eval ++ ws).toArray) w := by
              have := call_run hc (us ++ c.args.toList.map a.eval ++ ws) w
              simp only [execOp, ho, Sem.run_bind, resolve, hcal, hfu, Deferred.ofValue, Sem.run_pure, Result.andThen_ok, invoke]
              rw [e, this]
            rw [hrun]
            refine ⟨fun hd => by rw [hF.depth] at hd; simp at hd, hF.call ((hc.2 G w _ hs.hr hargs).mono ?_)⟩
            rintro e w' ⟨u, v, h', nx', G', rfl, hR, hv, hr, he, hle⟩
            exact hk u v h' nx' G' w' hR hv hr he hle
        have dm : ∀ b, s.nx ≤ b → G.ι b = none := hs.hr.dom
        unfold Goes
        rw [if_pos hwt]
        refine made h fun u v h' nx' G' w' hR hv hr he hle => ?_
        obtain ⟨s', hKs, e1, e2, hput⟩ := putK'_out hR
        exact hnext s' _ w' G' hKs (hput G' w' a u hs.size (fun i => he.vr dm (hs.tmp i)) hv hr) (he.less hb) (by omega) (defs u)
      · rename_i b
        split at h
        · rename_i N' t ps asg body hb'
          obtain ⟨hlen', hps, hlb, hR⟩ := h
          have hnd : ∀ c', o.op ≠ .defer c' := by rw [ho]; simp
          have hfv := hfv (.inl rfl) G w _ (ev_vr hs f (fun _ _ => rfl))
          have hvs := hvs (.inl rfl) G N a w s hs (fun _ _ _ _ => rfl)
          generalize hfu : a.eval f = fu at hfv
          cases hfv with
          | yld _ c1 hι =>
            obtain ⟨c2, r, r1, r2, r3, r4, r5, r6, r7, r8, r9, _⟩ := hs.hr.loopTo hb'
            rw [hι] at r1
            obtain rfl : c1 = c2 := Option.some.inj r1
            have hargs : vrs G w vs (c.args.toList.map a.eval) := ⟨by rw [hlen]; simp, fun j v u q1 q2 => by
              rw [List.getElem?_map] at q2
              obtain ⟨x, hx, rfl⟩ := Option.map_eq_some_iff.1 q2
              exact hvs j v x q1 hx⟩
            have hz := zipPs_ok (ps := ps) (t := t) hargs hps r8 r9
            have hrun : (execOp a.eval o).run P w = .ok (.round c1 r.fn ((ps.zip (c.args.toList.map a.eval)).foldl (fun (A : Array Value) (x : Nat × Value) => A.setIfInBounds x.1 x.2) r.tmps) r.assign r.body) w := by
              have e0 : (#[] ++ c.args.map a.eval : Array Value) = (c.args.toList.map a.eval).toArray := by apply Array.ext'; simp
              have := run_yield (P := P) (args := (c.args.toList.map a.eval).toArray) r2 (by rw [r5]; simp; rw [← hlen', hlen]; simp)
              simp only [execOp, ho, Sem.run_bind, resolve, hcal, hfu, Deferred.ofValue, Sem.run_pure, Result.andThen_ok, invoke]
              rw [e0, this]
              rw [r5]
              congr 2
              rw [← Array.foldl_toList]
              simp
            have dm : ∀ b, s.nx ≤ b → G.ι b = none := hs.hr.dom
            unfold Goes
            rw [if_pos hwt]
            refine ⟨fun f _ => hF.fn f, ?_⟩
            rw [Oper.semAt_eq _ _ _ hnd, hrun]
            refine ⟨fun hd => by rw [hF.depth] at hd; simp at hd, roundIn_of_wpIn (hF.fn _) ?_⟩
            rw [r6, r7]
            refine wpIn_mono (hR (F.inRound c1) (hF.round c1) (n - 1) G _ w ⟨hz.1, hz.2, hs.hr⟩ (Nat.le_refl _)) ?_
            rintro e1 a1 w1 ⟨e', s1, G1, rfl, hq, hs1, he1, hb1, hd1⟩
            cases e' with
            | exit id => exact hq.elim
            | goto l => exact hq.elim
            | ret => exact hq.elim
            | normal =>
              obtain ⟨hq1, hq2⟩ := hq
              obtain ⟨c3, r', p1, p2, p3, p4, p5, p6, p7, p8, p9, pto⟩ := hs1.hr.loopTo hq1
              have e3 := he1.ids b c1 hlb hι
              rw [e3] at p1
              obtain rfl : c1 = c3 := Option.some.inj p1
              obtain ⟨k1, k2⟩ := pto .busy none
              have e4 : ({ r' with state := .busy } : Loop) = { r' with state := .busy, pending := none } := by rw [← p4]
              refine ⟨_, run_beginRound p2 p3, ?_⟩
              rw [e4]
              refine wpIn_mono (hq2 (n - 1) G1 a1 _ ⟨hs1.size, fun i => k2.vr (hs1.tmp i), k1⟩ hb1) ?_
              rintro e2 a2 w2 ⟨e2', s2, G2, rfl, hq3, hs2, he2, hb2, hd2⟩
              obtain ⟨hq3, hK⟩ := hq3
              obtain ⟨c4, r'', z1, z2, z3, z4, z5, z6, z7, z8, z9, zto⟩ := hs2.hr.loopTo hq3
              have e5 := he2.ids b c1 hlb e3
              rw [e5] at z1
              obtain rfl : c1 = c4 := Option.some.inj z1
              have hend : ∀ (st : LoopState) (pend : Option Code) (v : Value), (Instr.endRound c1 pend).run P w2 = .ok v (w2.putObj c1 (.loop { r'' with state := st, pending := pend })) →
                  ∀ vv, vr G2 (w2.putObj c1 (.loop { r'' with state := st, pending := pend })) vv v → putK' N s o.dst vv ((b, some (.loop N' t ps asg body st pend)) :: s2.h) s2.nx K →
                  ∃ v' w', (Instr.endRound c1 pend).run P w2 = .ok v' w' ∧ next (a.put o.dst v') w' := by
                intro st pend v hr vv hv hk
                obtain ⟨y1, y2⟩ := zto st pend
                obtain ⟨s', hKs, q1, q2, hput⟩ := putK'_out hk
                have hev : Evo s.nx G w G2 (w2.putObj c1 (.loop { r'' with state := st, pending := pend })) := ((he1.trans (k2 s.nx)).trans he2).trans (y2 s.nx)
                exact ⟨v, _, hr, hnext s' _ _ G2 hKs (hput G2 _ a v hs.size (fun i => hev.vr dm (hs.tmp i)) hv y1) (hev.less hb) (by omega) (defs v)⟩
              cases e2' with
              | normal => exact hend .ready none (.bool true) (run_endRound none z2) _ (.bool true) hK
              | exit id => exact hend .done (some (.exit id)) (.bool false) (run_endRound (some (.exit id)) z2) _ (.bool false) hK
              | goto l => exact hend .done (some (.goto l)) (.bool false) (run_endRound (some (.goto l)) z2) _ (.bool false) hK
              | ret => exact hend .done (some .ret) (.bool false) (run_endRound (some .ret) z2) _ (.bool false) hK
        · exact h.elim
      · exact h.elim
    · exact plain h
  · exact plain h

theorem runOps_ok (hT : TabOk P T) (hF : FW F) {all : List Oper} {base n : Nat} {Q : Exit → Act → World → Prop} : ∀ {rest : List Oper} {k : Nat} {s : St} {K : St → Prop}, (∀ i, rest[i]? = all[k + i]?) → runOps P T N all rest s K →
    ∀ {G : Gh} {a : Act} {w : World}, Sim G N s a w → base ≤ s.nx →
      (∀ s' a' w' G', K s' → Sim G' N s' a' w' → Evo base G w G' w' → base ≤ s'.nx → a'.defers = a.defers → Q .normal a' w') → wpOpsIn F n P all.toArray Q (List.range' k rest.length) a w
  | [], k, s, K, hk, h, G, a, w, hs, hb, hQ => hQ s a w G h hs (Evo.refl _ _ _) hb rfl
  | o :: r, k, s, K, hk, h, G, a, w, hs, hb, hQ => by
    have ho : all.toArray[k]? = some o := by have := hk 0; simpa using this.symm
    have hg := opK_ok (n := n) hT hF (Q := Q) (next := wpOpsIn F n P all.toArray Q (List.range' (k + 1) r.length)) h hs hb (fun s' a' w' G' hK hs' he hb' hd =>
      runOps_ok hT hF (rest := r) (k := k + 1) (fun i => by have := hk (i + 1); simpa [Nat.add_assoc, Nat.add_comm 1 i] using this) hK hs' hb'
        (fun s2 a2 w2 G2 q1 q2 q3 q4 q5 => hQ s2 a2 w2 G2 q1 q2 (he.trans q3) q4 (q5.trans hd)))
    rw [List.length_cons, List.range'_succ]
    unfold Goes at hg
    simp only [wpOpsIn, ho]
    exact hg

/-! ### Code -/
theorem vc_skip {base : Nat} {s : St} {Q : Ex → St → Prop} (h : Q .normal s) : VC P F N base .skip s Q := fun n G a w hs hb => wpIn_skip ⟨.normal, s, G, rfl, h, hs, Evo.refl _ _ _, hb, Dfr.refl _ _ _ _⟩
theorem vc_exit {base id : Nat} {s : St} {Q : Ex → St → Prop} (h : Q (.exit id) s) : VC P F N base (.exit id) s Q := fun n G a w hs hb => wpIn_exit ⟨.exit id, s, G, rfl, h, hs, Evo.refl _ _ _, hb, Dfr.refl _ _ _ _⟩
theorem vc_goto {base id : Nat} {s : St} {Q : Ex → St → Prop} (h : Q (.goto id) s) : VC P F N base (.goto id) s Q := fun n G a w hs hb => wpIn_goto ⟨.goto id, s, G, rfl, h, hs, Evo.refl _ _ _, hb, Dfr.refl _ _ _ _⟩
theorem vc_ret {base : Nat} {s : St} {Q : Ex → St → Prop} (h : Q .ret s) : VC P F N base .ret s Q := fun n G a w hs hb => wpIn_ret ⟨.ret, s, G, rfl, h, hs, Evo.refl _ _ _, hb, Dfr.refl _ _ _ _⟩
def thenK (K : St → Prop) (Q : Ex → St → Prop) : Ex → St → Prop
  | .normal, s => K s
  | e, s => Q e s
theorem vc_seq {base : Nat} {x y : Code} {s : St} {Q : Ex → St → Prop} (h : VC P F N base x s (thenK (fun s' => VC P F N base y s' Q) Q)) : VC P F N base (.seq x y) s Q := by
  intro n G a w hs hb
  refine wpIn_seq (wpIn_mono (h n G a w hs hb) ?_)
  rintro e a' w' ⟨e', s', G', rfl, hq, hs', he, hb', hd⟩
  cases e' with
  | normal => exact wpIn_mono (hq n G' a' w' hs' hb') (fun e2 a2 w2 hp => hp.evo he hd)
  | exit id => exact ⟨.exit id, s', G', rfl, hq, hs', he, hb', hd⟩
  | goto l => exact ⟨.goto l, s', G', rfl, hq, hs', he, hb', hd⟩
  | ret => exact ⟨.ret, s', G', rfl, hq, hs', he, hb', hd⟩
theorem vc_cond {base : Nat} {c : Operand} {x y : Code} {s : St} {Q : Ex → St → Prop} {b : Bool} (hc : ev s c = .bool b) (h1 : b = true → VC P F N base x s Q) (h2 : b = false → VC P F N base y s Q) : VC P F N base (.cond c x y) s Q := by
  intro n G a w hs hb
  have hv := ev_vr hs c (fun _ _ => rfl)
  rw [hc] at hv
  exact wpIn_cond_split (VR.bool_iff.1 hv) (fun e => h1 e n G a w hs hb) (fun e => h2 e n G a w hs hb)
theorem vc_ucond {base : Nat} {c : Operand} {x y : Code} {s : St} {Q : Ex → St → Prop} (hc : ev s c = .ubool) (h1 : VC P F N base x s Q) (h2 : VC P F N base y s Q) : VC P F N base (.cond c x y) s Q := by
  intro n G a w hs hb
  have hv := ev_vr hs c (fun _ _ => rfl)
  rw [hc] at hv
  obtain ⟨b, hb'⟩ : ∃ b, a.eval c = .bool b := by
    generalize a.eval c = u at hv
    cases hv; exact ⟨_, rfl⟩
  exact wpIn_cond_split hb' (fun _ => h1 n G a w hs hb) (fun _ => h2 n G a w hs hb)
def blockK (id : Nat) (Q : Ex → St → Prop) : Ex → St → Prop
  | .exit j, s => match Nat.beq j id with | true => Q .normal s | false => Q (.exit j) s
  | e, s => Q e s
theorem vc_block {base id : Nat} {x : Code} {s : St} {Q : Ex → St → Prop} (h : VC P F N base x s (blockK id Q)) : VC P F N base (.block id x) s Q := by
  intro n G a w hs hb
  refine wpIn_block (wpIn_mono (h n G a w hs hb) ?_)
  rintro e a' w' ⟨e', s', G', rfl, hq, hs', he, hb', hd⟩
  cases e' with
  | normal => exact ⟨.normal, s', G', rfl, hq, hs', he, hb', hd⟩
  | exit j =>
    simp only [blockK] at hq
    by_cases hj : j = id
    · subst hj
      simp only [Nat.beq_refl] at hq
      simp only [Ex.to, Exit.inBlock, if_true]
      exact ⟨.normal, s', G', rfl, hq, hs', he, hb', hd⟩
    · have : Nat.beq j id = false := by
        cases hx : Nat.beq j id with
        | false => rfl
        | true => exact absurd (Nat.eq_of_beq_eq_true hx) hj
      simp only [this] at hq
      simp only [Ex.to, Exit.inBlock, hj, if_false]
      exact ⟨.exit j, s', G', rfl, hq, hs', he, hb', hd⟩
  | goto l => exact ⟨.goto l, s', G', rfl, hq, hs', he, hb', hd⟩
  | ret => exact ⟨.ret, s', G', rfl, hq, hs', he, hb', hd⟩
theorem vc_region (hT : TabOk P T) (hF : FW F) {base id : Nat} {ops : Array Oper} {s : St} {Q : Ex → St → Prop} (h : runOps P T N ops.toList ops.toList s (Q .normal)) : VC P F N base (.region id ops false) s Q := by
  intro n G a w hs hb
  refine wpIn_region ?_
  have := runOps_ok (n := n) hT hF (rest := ops.toList) (all := ops.toList) (k := 0) (base := base) (Q := Post N base G w a.defers Q) (fun i => by simp) h hs hb (fun s' a' w' G' q1 q2 q3 q4 q5 => ⟨.normal, s', G', rfl, q1, q2, q3, q4, Dfr.of_eq q5⟩)
  rw [List.range_eq_range']
  simpa using this
/-- One state tells less than another. -/
def Wk (base N : Nat) (s s' : St) : Prop := ∀ G a w, Sim G N s a w → base ≤ s.nx → ∃ G', Sim G' N s' a w ∧ Evo base G w G' w ∧ base ≤ s'.nx
theorem Wk.refl (base N : Nat) (s : St) : Wk base N s s := fun G a w hs hb => ⟨G, hs, Evo.refl _ _ _, hb⟩
theorem vc_weak {base : Nat} {c : Code} {s s' : St} {Q : Ex → St → Prop} (hw : Wk base N s s') (h : VC P F N base c s' Q) : VC P F N base c s Q := by
  intro n G a w hs hb
  obtain ⟨G', hs', he, hb'⟩ := hw G a w hs hb
  exact wpIn_mono (h n G' a w hs' hb') (fun e2 a2 w2 hp => hp.evo he (Dfr.refl _ _ _ _))
/-- A LOOP: a family of states, a measure. -/
theorem vc_loop {base : Nat} {c : Code} {s : St} {Q : Ex → St → Prop} {S : Type} (st : S → St) (μ : S → Nat) (i0 : S) (h0 : Wk base N s (st i0))
    (h : ∀ i, VC P F N base c (st i) (thenK (fun s' => ∃ j, Wk base N s' (st j) ∧ μ j < μ i) Q)) : VC P F N base (.loop c) s Q := by
  intro n G a w hs hb b k cs hro hfn hroom
  have key : ∀ m i (a1 : Act) (w1 : World) (G1 : Gh), μ i = m → Sim G1 N (st i) a1 w1 → Evo base G w G1 w1 → base ≤ (st i).nx → Dfr w G1 w1 a.defers a1.defers →
      ∃ e a' w', Post N base G w a.defers Q e a' w' ∧ ArrivesIn (Machine.fenced P F) P (lone (b.atR a1 (.code c :: .inLoop c :: k)) cs w1) b k cs e a' w' := by
    intro m
    induction m using Nat.strongRecOn with
    | _ m ih =>
      intro i a1 w1 G1 hm hs1 he1 hb1 hd1
      obtain ⟨e, a2, w2, ⟨e', s2, G2, rfl, hq, hs2, he2, hb2, hd2⟩, harr⟩ := h i n G1 a1 w1 hs1 hb1 b (.inLoop c :: k) cs hro hfn hroom
      cases e' with
      | normal =>
        obtain ⟨j, hw, hlt⟩ := hq
        obtain ⟨G3, hs3, he3, hb3⟩ := hw G2 a2 w2 hs2 hb2
        obtain ⟨e, a', w', hp, harr2⟩ := ih (μ j) (hm ▸ hlt) j a2 w2 G3 rfl hs3 ((he1.trans he2).trans he3) hb3 ((hd1.trans he2 he1.size hd2).evo he3)
        exact ⟨e, a', w', hp, .of_steps (StepsIn.trans harr (.one (fenced_calm hfn hroom rfl) stepR_inLoop)) harr2⟩
      | exit id => exact ⟨.exit id, a2, w2, ⟨.exit id, s2, G2, rfl, hq, hs2, he1.trans he2, hb2, hd1.trans he2 he1.size hd2⟩, .pass (x := .inLoop c) rfl (fun _ _ => .inl (by simp)) harr⟩
      | goto l => exact ⟨.goto l, a2, w2, ⟨.goto l, s2, G2, rfl, hq, hs2, he1.trans he2, hb2, hd1.trans he2 he1.size hd2⟩, .pass (x := .inLoop c) rfl (fun _ _ => .inl (by simp)) harr⟩
      | ret => exact ⟨.ret, a2, w2, ⟨.ret, s2, G2, rfl, hq, hs2, he1.trans he2, hb2, hd1.trans he2 he1.size hd2⟩, .pass (x := .inLoop c) rfl (fun _ _ => .inl (by simp)) harr⟩
  obtain ⟨G0, hs0, he0, hb0⟩ := h0 G a w hs hb
  obtain ⟨e, a', w', hp, harr⟩ := key _ i0 a w G0 rfl hs0 he0 hb0 (Dfr.refl _ _ _ _)
  exact ⟨e, a', w', hp, .of_steps (.one (fenced_calm hfn hroom rfl) stepR_loop) harr⟩
end sound
end Go.Proofs.Ytcfkendgjinmiaa
