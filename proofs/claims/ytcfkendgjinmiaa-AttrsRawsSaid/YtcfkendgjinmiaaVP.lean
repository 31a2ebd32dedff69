/- Regions that draw their order. -/
import Derived.Test.YtcfkendgjinmiaaVK
import Derived.OrdersIn
set_option linter.unusedVariables false
set_option linter.unusedSimpArgs false
namespace Go.Proofs.Ytcfkendgjinmiaa
open Go.RowKit

/-- A call that leaves what is owned as it is. -/
def PureV (P : Program) (f : FuncId) (args : List V) (v : V) (h : Heap) (nx : Nat) : Prop :=
  (∃ fn, P.funcs[f]? = some fn ∧ fn.body.isSome = true ∧ fn.name ≠ "runtime.NumGoroutine") ∧
  ∀ (G : Gh) (w : World) (us : List Value), HR G h nx w → vrs G w args us →
    Calls P f us.toArray w fun e w' => ∃ u G', e = .returned u ∧ vr G' w' v u ∧ HR G' h nx w' ∧ EvoA G w G' w' ∧ G'.ι = G.ι
theorem PureV.call {P : Program} {f : FuncId} {args : List V} {v : V} {h : Heap} {nx : Nat} {K : V → Heap → Nat → Prop} (hp : PureV P f args v h nx) (hK : K v h nx) : CallV P f args h nx K :=
  ⟨hp.1, fun G w us hr hv => (hp.2 G w us hr hv).mono fun e w' ⟨u, G', h1, h2, h3, h4, _⟩ => ⟨u, v, h, nx, G', h1, hK, h2, h3, h4 nx, Nat.le_refl _⟩⟩

structure FP where
  rd : List Nat
  up : List Nat
  hi : Nat
instance : Inhabited FP := ⟨[], [], 0⟩
def rdsOf (all : List Oper) (o : Oper) : List Nat := otmps o.op ++ gtmps all o

def dput (N : Nat) (s : St) (d : Option Nat) (v : V) (upd rd : Heap) (nx : Nat) (K : FP → St → Prop) : Prop :=
  appendH upd s.h fun h => putK' N s d v h nx fun s1 => K ⟨rd.map Prod.fst, upd.map Prod.fst, s1.nx⟩ s1
def dcallK (P : Program) (s : St) (f : V) (args : List V) (K : V → Heap → Prop) : Prop :=
  match f with
  | .fn (.func fid) first cap => ∃ v rd, (∀ h nx, (∀ b ob, (b, ob) ∈ rd → hget h b = ob) → PureV P fid (first ++ args ++ cap) v h nx) ∧ (∀ b ob, (b, ob) ∈ rd → hget s.h b = ob) ∧ K v rd
  | _ => False
/-- A length, where order is drawn: nothing is told of its bound. -/
def dlenK (T : Tab) (s : St) (g : Option Bool) (c : Call) (K : OK) : Prop :=
  match c.args.toList, c.argTypes.toList with
  | [x], [t] => argK g (ev s x) fun a => match (T t).k, a with
    | .slice _, .sl _ _ xs => K (.int .i64 xs.length) [] [] s.nx
    | .slice _, .osl _ _ _ n => K (.int .i64 n) [] [] s.nx
    | .slice _, .snil => K (.int .i64 0) [] [] s.nx
    | .str, .str b => K (.int .i64 b.size) [] [] s.nx
    | _, _ => False
  | _, _ => False
def dopK (P : Program) (T : Tab) (N : Nat) (all : List Oper) (o : Oper) (s : St) (K : FP → St → Prop) : Prop :=
  guardK all s o fun g s => skipK g (dput N s o.dst (.opt false .any) [] [] s.nx K) (
    (fun (ex : Prop) => match o.op with
      | .call c => match c.callee with
        | .value f => argK none (ev s f) fun f => evs none s c.args.toList fun vs => dcallK P s f vs fun v rd => dput N s o.dst v [] rd s.nx K
        | .builtin .len => dlenK T s none c fun val rd upd nx => dput N s o.dst val upd rd nx K
        | _ => ex
      | _ => ex) (exec T s none o fun val rd upd nx => dput N s o.dst val upd rd nx K))
def drawK (P : Program) (T : Tab) (N : Nat) (all : List Oper) : List Oper → St → List FP → (List FP → St → Prop) → Prop
  | [], s, fps, K => K fps s
  | o :: r, s, fps, K => dopK P T N all o s fun fp s' => drawK P T N all r s' (fps ++ [fp]) K

section
variable {P : Program} {T : Tab} {F : Fence} {N : Nat}

/-- What an operation does, in whatever state that agrees on what it looks at. -/
def StepOk (P : Program) (F : Fence) (N : Nat) (all : List Oper) (o : Oper) (s : St) (val : V) (rd upd : Heap) (nx' : Nat) : Prop :=
  s.nx ≤ nx' ∧ ∀ (n : Nat) (G : Gh) (a : Act) (w : World) (s' : St) (Q : Exit → Act → World → Prop) (next : Act → World → Prop), Sim G N s' a w → (∀ i ∈ rdsOf all o, s'.get i = s.get i) →
    (∀ b ob, (b, ob) ∈ rd → hget s'.h b = ob) → (∀ b, s.nx ≤ b → b < nx' → G.ι b = none) →
    (∀ a' w' G', a'.tmps.size = N → (∀ i, vr G' w' (if o.dst = some i then val else s'.get i) (a'.tmps.getD i undef)) → HR G' (upd ++ s'.h) (max s'.nx nx') w' →
      (∀ b, (b < s.nx ∨ nx' ≤ b) → G'.ι b = G.ι b) → EvoA G w G' w' → a'.defers = a.defers → next a' w') → Goes F n P all o a w next Q
structure Step (P : Program) (F : Fence) (N : Nat) (all : List Oper) (o : Oper) (s s1 : St) (fp : FP) : Prop where
  ex : ∃ val rd upd, fp.rd = rd.map Prod.fst ∧ fp.up = upd.map Prod.fst ∧ fp.hi = s1.nx ∧ (∀ i, s1.get i = if o.dst = some i then val else s.get i) ∧ (∀ b, hget s1.h b = hget (upd ++ s.h) b) ∧
    (∀ b ob, (b, ob) ∈ rd → hget s.h b = ob ∨ (ob = none ∧ s.nx ≤ b)) ∧ StepOk P F N all o s val rd upd s1.nx

theorem dput_out {s : St} {d : Option Nat} {v : V} {upd rd : Heap} {nx : Nat} {K : FP → St → Prop} (h : dput N s d v upd rd nx K) :
    ∃ s1, K ⟨rd.map Prod.fst, upd.map Prod.fst, s1.nx⟩ s1 ∧ s1.nx = nx ∧ s1.h = upd ++ s.h ∧ (∀ i, s1.get i = if d = some i then v else s.get i) ∧ ∀ d', d = some d' → d' < N := by
  unfold dput at h
  have h := appendH_out h
  obtain ⟨t, h0, n0⟩ := s
  unfold putK' at h
  simp only [forceV_eq, forceN_eq] at h
  cases d with
  | none => exact ⟨⟨t, upd ++ h0, nx⟩, h, rfl, rfl, fun i => by simp [St.get], by simp⟩
  | some d' =>
    cases hlt : Nat.blt d' N with
    | false => simp only [hlt] at h
    | true =>
      simp only [hlt] at h
      refine ⟨⟨(d', v) :: t, upd ++ h0, nx⟩, h, rfl, rfl, fun i => ?_, fun d'' e => by cases e; simpa [Nat.blt_eq] using hlt⟩
      rw [get_put t h0 _ n0 nx]
      simp
theorem put_vr {G : Gh} {w : World} {a : Act} {d : Option Nat} {u : Value} {v : V} {g : Nat → V} (hN : a.tmps.size = N) (hd : ∀ d', d = some d' → d' < N) (hv : vr G w v u) (hg : ∀ i, vr G w (g i) (a.tmps.getD i undef)) :
    (a.put d u).tmps.size = N ∧ ∀ i, vr G w (if d = some i then v else g i) ((a.put d u).tmps.getD i undef) := by
  cases d with
  | none => exact ⟨hN, fun i => by simpa [Act.put] using hg i⟩
  | some d' =>
    refine ⟨by simp [Act.put, hN], fun i => ?_⟩
    rw [put_getD (by rw [hN]; exact hd d' rfl)]
    by_cases e : d' = i
    · subst e; simpa using hv
    · simpa [e] using hg i

theorem ex_dlen (hT : TabOk P T) {s : St} {g : Option Bool} {o : Oper} {K : OK} {c : Call} (ho : o.op = .call c) (hc : c.callee = .builtin .len) (h : dlenK T s g c K) : ExOk P s g o K := by
  unfold dlenK at h
  split at h
  · rename_i x t hx ht
    obtain ⟨v, h', hv⟩ := argK_out h; clear h; have h := h'; clear h'
    have hxm : x ∈ o.op.operands := by rw [ho]; simp only [Op.operands, Call.operands, hc]; have : x ∈ c.args.toList := by simp [hx]
                                       simpa using this
    have hargs : c.args = #[x] := by apply Array.ext'; simp [hx]
    have htys : c.argTypes = #[t] := by apply Array.ext'; simp [ht]
    have run : ∀ (a : Act) (w : World), (execOp a.eval o).run P w = ((Builtin.len_ #[t] o.type #[a.eval x]).run P w).andThen fun v w => .ok (.value v) w := by
      intro a w
      simp [execOp, ho, resolve, hc, hargs, htys, invoke, builtin]
    split at h
    · rename_i e fr sz xs hk
      obtain ⟨_, _, d, _, _, _, _, _, h6, h7⟩ := hT.at (t := t) (by rw [hk]; simp)
      rw [hk, DescOk] at h7
      subst h7
      refine .of_pure (rd := []) h fun hg G N a w s' hs ha _ => ?_
      have hx := hv hg G w _ (ev_vr hs x (otm o hxm ha))
      generalize hux : a.eval x = ux at hx
      cases hx with
      | sl _ _ _ A cap us hcap hm hA hrow hc hval => exact ⟨_, by simp [run, hux, Builtin.len_, run_underlying h6, goInt], .int _ _⟩
    · rename_i e b sz row n hk
      obtain ⟨_, _, d, _, _, _, _, _, h6, h7⟩ := hT.at (t := t) (by rw [hk]; simp)
      rw [hk, DescOk] at h7
      subst h7
      refine .of_pure (rd := []) h fun hg G N a w s' hs ha _ => ?_
      have hx := hv hg G w _ (ev_vr hs x (otm o hxm ha))
      obtain ⟨A, cap, hux⟩ : ∃ A cap, a.eval x = .slice A n cap := by
        generalize a.eval x = ux at hx
        cases hx <;> exact ⟨_, _, rfl⟩
      exact ⟨_, by simp [run, hux, Builtin.len_, run_underlying h6, goInt], .int _ _⟩
    · rename_i e hk
      obtain ⟨_, _, d, _, _, _, _, _, h6, h7⟩ := hT.at (t := t) (by rw [hk]; simp)
      rw [hk, DescOk] at h7
      subst h7
      refine .of_pure (rd := []) h fun hg G N a w s' hs ha _ => ?_
      have hx := hv hg G w _ (ev_vr hs x (otm o hxm ha))
      generalize hux : a.eval x = ux at hx
      cases hx with
      | snil A => exact ⟨_, by simp [run, hux, Builtin.len_, run_underlying h6, goInt], .int _ _⟩
    · rename_i b hk
      obtain ⟨_, _, d, _, _, _, _, _, h6, h7⟩ := hT.at (t := t) (by rw [hk]; simp)
      rw [hk, DescOk] at h7
      subst h7
      refine .of_pure (rd := []) h fun hg G N a w s' hs ha _ => ?_
      have hux := VR.str_iff.1 (hv hg G w _ (ev_vr hs x (otm o hxm ha)))
      exact ⟨_, by simp [run, hux, Builtin.len_, run_underlying h6, goInt], .int _ _⟩
    · exact h.elim
  · exact h.elim


theorem hget_append : ∀ (u h : Heap) (b : Nat), hget (u ++ h) b = if b ∈ u.map Prod.fst then hget u b else hget h b
  | [], h, b => by simp
  | (i, ob) :: r, h, b => by
    rw [List.cons_append, hget_cons, hget_append r h b, hget_cons]
    by_cases e : i = b
    · subst e; simp
    · have e' : ¬ b = i := fun h => e h.symm
      simp only [e, if_false, List.map_cons, List.mem_cons, e', false_or]

theorem dopK_out (hT : TabOk P T) (hF : FW F) {all : List Oper} {o : Oper} {s : St} {K : FP → St → Prop} (h : dopK P T N all o s K) :
    ∃ fp s1, K fp s1 ∧ Step P F N all o s s1 fp := by
  unfold dopK at h
  obtain ⟨g, s2, h', hse1, hse2, hse3, hgn, hw⟩ := guardK_out (N := N) h; clear h; have h := h'; clear h'
  suffices hsuff : ∃ fp s1, K fp s1 ∧ Step P F N all o s2 s1 fp by
    obtain ⟨fp, s1, hK, ⟨val, rd, upd, q1, q2, q3, q4, q5, q6, q7⟩⟩ := hsuff
    exact ⟨fp, s1, hK, ⟨val, rd, upd, q1, q2, q3, fun i => by rw [q4, hse1], fun b => by rw [q5, hse2], fun b ob hm => by rw [← hse2, ← hse3]; exact q6 b ob hm, by rw [← hse3]; exact q7.1,
      fun n G a w s' Q next hs ha hr hn hnext => q7.2 n G a w s' Q next hs (fun i hi => by rw [hse1]; exact ha i hi) hr (by rw [hse3]; exact hn) (fun a' w' G' z1 z2 z3 z4 => hnext a' w' G' z1 z2 z3 (by rw [← hse3]; exact z4))⟩⟩
  replace hw : ∀ (G : Gh) (a : Act) (w : World) (s' : St), Sim G N s' a w → (∀ i ∈ gtmps all o, s'.get i = s2.get i) → (g = none → Region.wanted o (yielded all.toArray a.tmps) = true) ∧ ∀ b, g = some b → Region.wanted o (yielded all.toArray a.tmps) = b := fun G a w s' hs hh => hw G a w s' hs (fun i hi => by rw [← hse1]; exact hh i hi)
  clear hse1 hse2 hse3
  clear s
  obtain ⟨s, rfl⟩ : ∃ s', s' = s2 := ⟨s2, rfl⟩
  have defs : ∀ (a : Act) u, (a.put o.dst u).defers = a.defers := by intro a u; cases o.dst <;> rfl
  unfold skipK at h
  split at h
  · obtain ⟨s1, hK, e1, e2, e3, e4⟩ := dput_out h
    refine ⟨_, s1, hK, ⟨_, [], [], rfl, rfl, rfl, e3, fun b => by rw [e2], by simp, by omega, ?_⟩⟩
    intro n G a w s' Q next hs ha hr hn hnext
    have hgt : ∀ i ∈ gtmps all o, s'.get i = s.get i := fun i hi => ha i (by simp [rdsOf, hi])
    unfold Goes
    rw [if_neg (by rw [(hw G a w s' hs hgt).2 false rfl]; simp)]
    refine ⟨fun f _ => hF.fn f, ?_⟩
    obtain ⟨p1, p2⟩ := put_vr (G := G) (w := w) (a := a) (d := o.dst) (u := undef) (v := .opt false .any) (g := s'.get) hs.size e4 (.opt _ _ _ (fun h => by cases h) (fun _ => rfl)) hs.tmp
    exact hnext (a.put o.dst undef) w G p1 p2 (by simpa using hs.hr.more (Nat.le_max_left _ _)) (fun _ _ => rfl) (EvoA.refl _ _) (defs a undef)
  rename_i hne
  have hwt : ∀ (G : Gh) (a : Act) (w : World) (s' : St), Sim G N s' a w → (∀ i ∈ rdsOf all o, s'.get i = s.get i) → Region.wanted o (yielded all.toArray a.tmps) = true := by
    intro G a w s' hs ha
    have hgt : ∀ i ∈ gtmps all o, s'.get i = s.get i := fun i hi => ha i (by simp [rdsOf, hi])
    rcases g with _ | gb
    · exact (hw G a w s' hs hgt).1 rfl
    · cases gb with
      | true => exact (hw G a w s' hs hgt).2 true rfl
      | false => exact absurd rfl hne
  clear hne hw hgn
  have plain : (ExOk P s none o fun val rd upd nx => dput N s o.dst val upd rd nx K) → (∀ c, o.op ≠ .defer c) → ∃ fp s1, K fp s1 ∧ Step P F N all o s s1 fp := by
    rintro ⟨val, rd, upd, nx', hK, hrd, hop, _⟩ hnd
    obtain ⟨s1, hK2, e1, e2, e3, e4⟩ := dput_out hK
    subst e1
    refine ⟨_, s1, hK2, ⟨_, rd, upd, rfl, rfl, rfl, e3, fun b => by rw [e2], hrd, (hop (.inl rfl)).1, ?_⟩⟩
    intro n G a w s' Q next hs ha hr hn hnext
    have hot : ∀ i, i ∈ otmps o.op → s'.get i = s.get i := fun i hi => ha i (by simp [rdsOf, hi])
    unfold Goes
    rw [if_pos (hwt G a w s' hs ha)]
    obtain ⟨hle, hop⟩ := hop (.inl rfl)
    obtain ⟨u, w', G', hy, hv, hrr, hid, he⟩ := hop G N a w s' hs hot hr hn
    refine ⟨fun f _ => hF.fn f, ?_⟩
    rw [Oper.semAt_eq _ _ _ hnd]
    obtain ⟨p1, p2⟩ := put_vr (a := a) (d := o.dst) (g := s'.get) hs.size e4 hv (fun i => he.vr (hs.tmp i))
    have hfin := hnext (a.put o.dst u) w' G' p1 p2 hrr hid he (defs a u)
    rcases hy with hy | ⟨hy, rfl⟩
    · rw [hy]; exact hfin
    · rw [hy]; exact hfin
  have hex : (exec T s none o fun val rd upd nx => dput N s o.dst val upd rd nx K) → (∀ c, o.op = .call c → c.callee ≠ .builtin .len) → ∃ fp s1, K fp s1 ∧ Step P F N all o s s1 fp := by
    intro h hl
    exact plain (exec_ok' hT hl h) (exec_not_defer h)
  split at h
  · rename_i c ho
    split at h
    · rename_i f hcal
      obtain ⟨fv, h', hfv⟩ := argK_out h; clear h; have h := h'; clear h'
      obtain ⟨vs, h', hlen, hvs⟩ := evs_out h; clear h; have h := h'; clear h'
      have ham : ∀ x ∈ c.args.toList, x ∈ o.op.operands := by
        intro x hx
        have hx' := Array.mem_toList_iff.1 hx
        rw [ho]; simp [Op.operands, Call.operands, hcal, hx']
      have hfm : f ∈ o.op.operands := by rw [ho]; simp [Op.operands, Call.operands, hcal]
      unfold dcallK at h
      split at h
      · rename_i fid first cap
        obtain ⟨v, rd, hpure, hrd, h⟩ := h
        have hnd : ∀ c', o.op ≠ .defer c' := by rw [ho]; simp
        obtain ⟨s1, hK, e1, e2, e3, e4⟩ := dput_out h
        refine ⟨_, s1, hK, ⟨_, rd, [], rfl, rfl, rfl, e3, fun b => by rw [e2], fun b ob hm => .inl (hrd b ob hm), by omega, ?_⟩⟩
        intro n G a w s' Q next hs ha hr hn hnext
        have hot : ∀ i, i ∈ otmps o.op → s'.get i = s.get i := fun i hi => ha i (by simp [rdsOf, hi])
        unfold Goes
        rw [if_pos (hwt G a w s' hs ha)]
        have hp : PureV P fid (first ++ vs ++ cap) v s'.h s'.nx := hpure s'.h s'.nx hr
        refine ⟨fun f _ => hF.fn f, ?_⟩
        rw [Oper.semAt_eq _ _ _ hnd]
        have hfv := hfv (.inl rfl) G w _ (ev_vr hs f (otm o hfm hot))
        have hvs := hvs (.inl rfl) G N a w s' hs (fun x hx i hi => otm o (ham x hx) hot i hi)
        generalize hfu : a.eval f = fu at hfv
        cases hfv with
        | fn _ _ _ us ws hf1 hc1 h1 h2 =>
          have hargs : vrs G w (first ++ vs ++ cap) (us ++ c.args.toList.map a.eval ++ ws) := by
            refine (vrs.append ⟨hf1, h1⟩ ⟨by rw [hlen]; simp, fun j v u q1 q2 => ?_⟩).append ⟨hc1, h2⟩
            rw [List.getElem?_map] at q2
            obtain ⟨x, hx, rfl⟩ := Option.map_eq_some_iff.1 q2
            exact hvs j v x q1 hx
          have e : us.toArray ++ c.args.map a.eval ++ ws.toArray = (us ++ c.args.toList.map a.eval ++ ws).toArray := by apply Array.ext'; simp
          have hrun : (execOp a.eval o).run P w = .ok (.enter fid (us ++ c.args.toList.map a.eval ++ ws).toArray) w := by
            have := call_run (hp.call (K := fun _ _ _ => True) trivial) (us ++ c.args.toList.map a.eval ++ ws) w
            simp only [execOp, ho, Sem.run_bind, resolve, hcal, hfu, Deferred.ofValue, Sem.run_pure, Result.andThen_ok, invoke]
            rw [e, this]
          rw [hrun]
          refine ⟨fun hd => by rw [hF.depth] at hd; simp at hd, hF.call ((hp.2 G w _ hs.hr hargs).mono ?_)⟩
          rintro e w' ⟨u, G', rfl, hv, hrr, he, hι⟩
          obtain ⟨p1, p2⟩ := put_vr (a := a) (d := o.dst) (g := s'.get) hs.size e4 hv (fun i => he.vr (hs.tmp i))
          exact hnext (a.put o.dst u) w' G' p1 p2 (by simpa using hrr.more (Nat.le_max_left _ _)) (fun b _ => by rw [hι]) he (defs a u)
      · exact h.elim
    · rename_i hcal
      exact plain (ex_dlen hT ho hcal h) (by rw [ho]; simp)
    · rename_i h1 h2
      exact hex h (fun c' e hl => by rw [ho] at e; cases e; exact h2 hl)
  · rename_i hno
    exact hex h (fun c' e => absurd e (hno c'))
end
end Go.Proofs.Ytcfkendgjinmiaa
