/- Joined: VL, VM, VN, VO, VW, VT, VX, VY, VZ, VZ1, VZ2, VZ3, VZ5, VZ6, VZ7, VZ8, VZ9, VZA, VZB, VZC, VZD. -/
import Derived.Test.YtfaglgoanmcifaaGreatK2
import Derived.AtR
import Derived.Test.YtfaglgoanmcifaaGreatK1
import Derived.DeepKeys4
import Derived.RowKit
import Derived.ChangeSame
import Derived.WideKeyArgs
import Derived.JoinedOf
import Derived.KernelRfl
import Derived.Lib.Overlaps
import Derived.Sort.Grow
import Derived.Deep.Draws
set_option linter.unusedVariables false
set_option linter.unusedSimpArgs false
namespace Go.Proofs.YtfaglgoanmcifaaGreat
open Go.RowKit
def rngPost (t : List (Nat × V)) (b : Nat) (Q : Ex → St → Prop) (h : Heap) (nx : Nat) : Prop :=
  match hget h b with
  | some (.loop _ _ _ _ _ st pend) => match st with
    | .busy => False
    | _ => match pend with
      | none => Q .normal ⟨t, (b, none) :: h, nx⟩
      | some .ret => Q .ret ⟨t, (b, none) :: h, nx⟩
      | some (.exit id) => Q (.exit id) ⟨t, (b, none) :: h, nx⟩
      | some (.goto l) => Q (.goto l) ⟨t, (b, none) :: h, nx⟩
      | _ => False
  | _ => False
def scopeK (Q : Ex → St → Prop) : Ex → St → Prop
  | .goto _, _ => False
  | e, s => Q e s
def rangeK (P : Program) (N : Nat) (f : V) (ps : List Nat) (asg body : Code) (s : St) (Q : Ex → St → Prop) : Prop :=
  match f, s with
  | .fn (.func fid) first cap, ⟨t, h, nx⟩ => match P.funcs[fid]?.map (·.body.isSome) with
    | some true => CallV P fid (first ++ [.yld nx] ++ cap) ((nx, some (.loop N t ps asg body .ready none)) :: h) (nx + 1) fun v h' nx' => rngPost t nx Q h' nx'
    | _ => False
  | _, _ => False
def allAfter : List Oper → Bool
  | [] => true
  | o :: r => match o.after.toList with
    | [] => false
    | _ :: _ => allAfter r
def yldAt (t : List (Nat × V)) (j : Nat) : List Oper → Bool
  | [] => false
  | o :: r => match o.dst with
    | some d => match Nat.beq d j with
      | true => match o.op with
        | .move (.tmp i) => match look t i with
          | .yld _ => true
          | _ => false
        | _ => false
      | false => yldAt t j r
    | none => yldAt t j r
def cutOf (T : Tab) (t : List (Nat × V)) (all : List Oper) : List Oper → Nat → Option Nat
  | [], _ => none
  | o :: r, k => match o.op with
    | .call c => match c.callee with
      | .value (.tmp j) => match ptrArg T c.argTypes.toList || (o.type == 0 || yldAt t j all) with
        | true => match allAfter r with
          | true => some k
          | false => cutOf T t all r (k + 1)
        | false => cutOf T t all r (k + 1)
      | _ => cutOf T t all r (k + 1)
    | _ => cutOf T t all r (k + 1)
def takeN {α : Type} : Nat → List α → List α
  | 0, _ => []
  | _ + 1, [] => []
  | n + 1, x :: r => x :: takeN n r
theorem takeN_eq {α : Type} : ∀ (n : Nat) (l : List α), takeN n l = l.take n
  | 0, _ => by simp [takeN]
  | _ + 1, [] => rfl
  | n + 1, x :: r => by simp [takeN, takeN_eq n r]
def dropN {α : Type} : Nat → List α → List α
  | 0, l => l
  | _ + 1, [] => []
  | n + 1, _ :: r => dropN n r
theorem dropN_eq {α : Type} : ∀ (n : Nat) (l : List α), dropN n l = l.drop n
  | 0, _ => rfl
  | _ + 1, [] => rfl
  | n + 1, x :: r => by simp [dropN, dropN_eq n r]
theorem cutOf_le {T : Tab} {t : List (Nat × V)} {all : List Oper} : ∀ {l : List Oper} {k m : Nat}, cutOf T t all l k = some m → m ≤ k + l.length
  | [], k, m, h => by simp [cutOf] at h
  | o :: r, k, m, h => by
    unfold cutOf at h
    have key : cutOf T t all r (k + 1) = some m → m ≤ k + (o :: r).length := fun h => by have := cutOf_le h; simp; omega
    split at h
    · split at h
      · split at h
        · split at h
          · cases h; simp
          · exact key h
        · exact key h
      · exact key h
    · exact key h
def vcg (P : Program) (T : Tab) (N base : Nat) (rd : Bool) : Code → St → (Ex → St → Prop) → Prop
  | .skip, s, Q => Q .normal s
  | .label _, s, Q => Q .normal s
  | .seq a b, s, Q => vcg P T N base rd a s (thenK (fun s' => vcg P T N base rd b s' Q) Q)
  | .cond c a b, s, Q => match ev s c with
    | .bool b' => match b' with
      | true => vcg P T N base rd a s Q
      | false => vcg P T N base rd b s Q
    | .ubool => vcg P T N base rd a s Q ∧ vcg P T N base rd b s Q
    | _ => False
  | .block id a, s, Q => vcg P T N base rd a s (blockK id Q)
  | .scope a, s, Q => vcg P T N base rd a s (scopeK Q)
  | .exit id, s, Q => Q (.exit id) s
  | .goto id, s, Q => Q (.goto id) s
  | .ret, s, Q => Q .ret s
  | .region id ops draw, s, Q => match draw with
    | false => runOps P T N ops.toList ops.toList s (Q .normal)
    | true => match cutOf T s.t ops.toList ops.toList 0 with
      | none => drawK P T N ops.toList ops.toList s [] fun fps s' => drawOk ops.toList fps = true ∧ Q .normal s'
      | some m => drawK P T N ops.toList (takeN m ops.toList) s [] fun fps s' => (drawOkN ops.toList m fps && tailOk ops.toList m) = true ∧ runOps P T N ops.toList (dropN m ops.toList) s' (Q .normal)
  | .loop a, s, Q => ∀ F, FW F → (rd = false → F.round = none) → VC P F N base (.loop a) s Q
  | .rangeFunc g ps asg body, s, Q => match rd with
    | true => False
    | false => rangeK P N (ev s g) ps.toList asg body s Q
  | c, s, Q => ∀ F, FW F → (rd = false → F.round = none) → VC P F N base c s Q
section
variable {P : Program} {T : Tab} {N : Nat}
theorem stepR_scope {b : Frame} {a : Act} {k : List Item} {cs : List Frame} {w : World} {c : Code} : step P (lone (b.atR a (.code (.scope c) :: k)) cs w) = .next (lone (b.atR a (.code c :: .inScope c :: k)) cs w) :=
  step_lone_go (by simp [stepG, stepG.exec, Frame.atR])
theorem stepR_inScope {b : Frame} {a : Act} {k : List Item} {cs : List Frame} {w : World} {c : Code} : step P (lone (b.atR a (.inScope c :: k)) cs w) = .next (lone (b.atR a k) cs w) :=
  step_lone_go (by simp [stepG, stepG.exec, Frame.atR])
theorem vc_scope {F : Fence} {base : Nat} {c : Code} {s : St} {Q : Ex → St → Prop} (h : VC P F N base c s (scopeK Q)) : VC P F N base (.scope c) s Q := by
  intro n G a w hs hb b k cs hro hbf hr
  have h0 : (lone (b.atR a (.code (.scope c) :: k)) cs w).fenced P F := fenced_calm hbf hr rfl
  obtain ⟨e, a₁, w₁, ⟨e', s', G', rfl, hq, hs', he, hb', hd⟩, harr⟩ := h n G a w hs hb b (.inScope c :: k) cs hro hbf hr
  cases e' with
  | normal => exact ⟨.normal, a₁, w₁, ⟨.normal, s', G', rfl, hq, hs', he, hb', hd⟩, .head h0 stepR_scope (StepsIn.trans harr (.one (fenced_calm hbf hr rfl) stepR_inScope))⟩
  | exit id =>
    have hx : exitTo id (.inScope c :: k) = exitTo id k := by simp [exitTo]
    exact ⟨.exit id, a₁, w₁, ⟨.exit id, s', G', rfl, hq, hs', he, hb', hd⟩, fun k' hk => .head h0 stepR_scope (harr.1 k' (by rw [hx]; exact hk)),
      fun hr' hk => let ⟨k₁, h1, h2⟩ := harr.2 hr' (by rw [hx]; exact hk); ⟨k₁, h1, .head h0 stepR_scope h2⟩⟩
  | goto l => exact hq.elim
  | ret => exact ⟨.ret, a₁, w₁, ⟨.ret, s', G', rfl, hq, hs', he, hb', hd⟩, .of_steps (.one h0 stepR_scope) harr⟩
theorem HR.allocU {G : Gh} {hp : Heap} {n : Nat} {w : World} (h : HR G hp n w) (o : Obj) : HR G hp n (w.alloc o) ∧ EvoA G w G (w.alloc o) := by
  have he : EvoA G w G (w.alloc o) := fun base => ⟨rfl, rfl, rfl, by simp, rfl, fun _ hc => hc, fun c' hc => Below.heap_alloc _ _ _ (h.amb_lt _ hc), fun _ _ hm => csz_alloc hm, fun _ _ _ hc => hc,
    fun c' hc _ => Below.heap_alloc _ _ _ hc, fun _ hc _ => .inl hc, fun b' c' hc hlt => ⟨b', hc⟩⟩
  exact ⟨⟨fun c hc => by have := h.amb_lt c hc; simp; omega, by have := h.B_le; simp; omega, h.dom, fun b blk hb => (h.own b blk hb).keep he (fun c hc => Below.heap_alloc _ _ _ (h.lt b c hc)) (fun hn => hn), h.inj, h.apart, fun b c hc => by have := h.lt b c hc; simp; omega, h.hdom, h.gl.evo (he 0)⟩, he⟩
theorem vc_range {F : Fence} (hF : FW F) (hro : F.round = none) {base : Nat} {g : Operand} {ps : Array Tmp} {asg body : Code} {s : St} {Q : Ex → St → Prop} (h : rangeK P N (ev s g) ps.toList asg body s Q) : VC P F N base (.rangeFunc g ps asg body) s Q := by
  intro n G a w hs hb
  have hg := ev_vr hs g (fun _ _ => rfl)
  unfold rangeK at h
  split at h
  · rename_i fid first cap t hp nx hf
    split at h
    case h_2 => exact h.elim
    rename_i hbd
    rw [hf] at hg
    refine wpIn_rangeFunc fun fn _ => ?_
    obtain ⟨hr1, he1⟩ := hs.hr.allocU (.deferred (some []))
    have hi : G.ι nx = none := hs.hr.dom nx (Nat.le_refl _)
    have hok : BlkOk (G.with nx (some (w.alloc (.deferred (some []))).heap.size)) ((w.alloc (.deferred (some []))).alloc (.loop { state := .ready, pending := none, fn, tmps := a.tmps, params := ps, assign := asg, body, defers := w.heap.size })) nx (.loop N t ps.toList asg body .ready none) := by
      refine ⟨_, _, Gh.with_self _ _ _, World.alloc_heap_new _ _, rfl, rfl, rfl, rfl, rfl, hs.size, fun i => ?_⟩
      exact (EvoA.alloc hr1 _ nx hi).vr (he1.vr (hs.tmp i))
    have hr2 := HR.alloc hr1 _ nx hi _ hok
    have he2 := EvoA.alloc hr1 (.loop { state := .ready, pending := none, fn, tmps := a.tmps, params := ps, assign := asg, body, defers := w.heap.size }) nx hi
    have hmax : max nx (nx + 1) = nx + 1 := by omega
    rw [hmax] at hr2
    generalize hfu : a.eval g = fu at hg
    cases hg with
    | fn _ _ _ us ws hf1 hc1 h1 h2 =>
      have hl : (w.alloc (.deferred (some []))).heap.size = w.heap.size + 1 := by simp
      have hargs : vrs (G.with nx (some (w.alloc (.deferred (some []))).heap.size)) ((w.alloc (.deferred (some []))).alloc (.loop { state := .ready, pending := none, fn, tmps := a.tmps, params := ps, assign := asg, body, defers := w.heap.size }))
          (first ++ [.yld nx] ++ cap) (us ++ [Value.func (.yield (w.heap.size + 1)) #[] #[]] ++ ws) := by
        refine (vrs.append (he2.vrs (he1.vrs ⟨hf1, h1⟩)) ⟨rfl, fun j v u q1 q2 => ?_⟩).append (he2.vrs (he1.vrs ⟨hc1, h2⟩))
        cases j with
        | zero => simp at q1 q2; subst q1; subst q2; exact .yld _ _ (by rw [Gh.with_self, hl])
        | succ j => simp at q1
      rcases h.2 _ _ _ hr2 hargs with ⟨hbd', hcs⟩ | ⟨⟨fn0, z1, z2⟩, _⟩
      rotate_left
      · rw [z1] at hbd
        simp only [Option.map_some, Option.some.injEq] at hbd
        rw [z2] at hbd; cases hbd
      have hcr := call_run hbd' (us ++ [Value.func (.yield (w.heap.size + 1)) #[] #[]] ++ ws) ((w.alloc (.deferred (some []))).alloc (.loop { state := .ready, pending := none, fn, tmps := a.tmps, params := ps, assign := asg, body, defers := w.heap.size }))
      refine ⟨_, _, _, { target := .fn (.func fid) ws.toArray, args := (us ++ [Value.func (.yield (w.heap.size + 1)) #[] #[]]).toArray }, ((w.alloc (.deferred (some []))).alloc (.loop { state := .ready, pending := none, fn, tmps := a.tmps, params := ps, assign := asg, body, defers := w.heap.size })), _, _, _, by rw [hro]; exact run_enterLoop_outer fn a.tmps ps asg body, ?_, fun _ _ => hF.fn _, ?_, fun hd => by rw [hF.depth] at hd; simp at hd, hF.call (hcs.mono ?_)⟩
      · show (Deferred.ofValue (a.eval g) ((#[Operand.const (.func (.yield (w.heap.size + 1)) #[] #[])]).map a.eval)).run P _ = _
        rw [hfu]
        simp [Deferred.ofValue, Sem.run_pure, Act.eval]
      · have e : (us ++ [Value.func (.yield (w.heap.size + 1)) #[] #[]]).toArray ++ ws.toArray = (us ++ [Value.func (.yield (w.heap.size + 1)) #[] #[]] ++ ws).toArray := by apply Array.ext'; simp
        simp only [invoke]
        rw [e]
        exact hcr
      · rintro e w3 ⟨u, v, h', nx', G3, rfl, hpost, hv, hr3, E, hle⟩
        unfold rngPost at hpost
        split at hpost
        case h_2 => exact hpost.elim
        rename_i N' t' ps' asg' body' st pend hb3
        obtain ⟨c, r, q1, q2, q3, q4, _, _, _, _, _, hto⟩ := hr3.loopTo hb3
        have hlid := E.ids nx _ (by omega) (Gh.with_self _ _ _)
        rw [hlid, hl] at q1
        obtain rfl : w.heap.size + 1 = c := Option.some.inj q1
        have hst : r.state ≠ .busy := by
          rw [q3]
          intro e
          subst e
          exact hpost
        obtain ⟨z1, z2⟩ := hto .exhausted pend
        have e4 : ({ r with state := .exhausted } : Loop) = { r with state := .exhausted, pending := pend } := by rw [← q4]
        have hend := run_endLoop (P := P) q2 hst
        rw [e4, q4] at hend
        have hr4 : HR G3 ((nx, none) :: h') nx' (w3.putObj (w.heap.size + 1) (.loop { r with state := .exhausted, pending := pend })) := by
          refine (z1.kill nx).congr (fun b => ?_) (Nat.le_refl _)
          rw [hget_cons, hget_cons, hget_cons]
          split <;> rfl
        have hE0 : Evo nx G w G3 (w3.putObj (w.heap.size + 1) (.loop { r with state := .exhausted, pending := pend })) := (((he1 nx).trans (he2 nx)).trans (E.less (Nat.le_succ _))).trans (z2 nx)
        have hD : Dfr w G3 (w3.putObj (w.heap.size + 1) (.loop { r with state := .exhausted, pending := pend })) a.defers ([{ target := .collected w.heap.size, args := #[] }] ++ a.defers) := by
          have hD0 : Dfr w (G.with nx (some (w.alloc (.deferred (some []))).heap.size)) ((w.alloc (.deferred (some []))).alloc (.loop { state := .ready, pending := none, fn, tmps := a.tmps, params := ps, assign := asg, body, defers := w.heap.size })) a.defers ([{ target := .collected w.heap.size, args := #[] }] ++ a.defers) := by
            refine ⟨[w.heap.size], rfl, fun r hr => ?_, by simp⟩
            obtain rfl : r = w.heap.size := by simpa using hr
            refine ⟨Nat.le_refl _, ?_, fun b hb => ?_, fun ha => ?_⟩
            · rw [Below.heap_alloc _ _ _ (by simp)]
              exact World.alloc_heap_new _ _
            · by_cases e : b = nx
              · subst e; rw [Gh.with_self, hl] at hb; simp at hb
              · rw [Gh.with_other _ e] at hb
                have := hs.hr.lt b _ hb
                omega
            · have := hs.hr.amb_lt _ ha
              omega
          exact (hD0.evo E).evo (z2 0)
        have hdm : ∀ b, nx ≤ b → G.ι b = none := hs.hr.dom
        have hfin : ∀ (e' : Ex), Q e' ⟨t, (nx, none) :: h', nx'⟩ → Post N base G w a.defers Q e'.to { a with defers := [{ target := .collected w.heap.size, args := #[] }] ++ a.defers } (w3.putObj (w.heap.size + 1) (.loop { r with state := .exhausted, pending := pend })) :=
          fun e' hq => ⟨e', _, G3, rfl, hq, ⟨hs.size, fun i => hE0.vr hdm (hs.tmp i), hr4⟩, hE0.less hb, by have : base ≤ nx := hb; simp only; omega, hD⟩
        refine ⟨pend, _, hend, ?_⟩
        split at hpost
        · exact hpost.elim
        · split at hpost
          · exact hfin .normal hpost
          · exact wpIn_ret (hfin .ret hpost)
          · exact wpIn_exit (hfin (.exit _) hpost)
          · exact wpIn_goto (hfin (.goto _) hpost)
          · exact hpost.elim
  · exact h.elim
theorem vcg_ok (hT : TabOk P T) (hm : P.follows .mixedOrders = true) {F : Fence} (hF : FW F) {rd : Bool} (hrd : rd = false → F.round = none) {base : Nat} : ∀ {c : Code} {s : St} {Q : Ex → St → Prop}, vcg P T N base rd c s Q → VC P F N base c s Q
  | .skip, s, Q, h => vc_skip h
  | .label _, s, Q, h => fun n G a w hs hb => wpIn_label ⟨.normal, s, G, rfl, h, hs, Evo.refl _ _ _, hb, Dfr.refl _ _ _ _⟩
  | .seq a b, s, Q, h => vc_seq ((vcg_ok (c := a) (Q := thenK (fun s' => vcg P T N base rd b s' Q) Q) hT hm hF hrd h).mono fun e s' hq => by
      cases e with
      | normal => exact vcg_ok (c := b) hT hm hF hrd hq
      | exit id => exact hq
      | goto id => exact hq
      | ret => exact hq)
  | .cond c a b, s, Q, h => by
    unfold vcg at h
    split at h
    · rename_i b' hc
      exact vc_cond hc (fun e => by subst e; exact vcg_ok hT hm hF hrd h) (fun e => by subst e; exact vcg_ok hT hm hF hrd h)
    · rename_i hc
      exact vc_ucond hc (vcg_ok hT hm hF hrd h.1) (vcg_ok hT hm hF hrd h.2)
    · exact h.elim
  | .block id a, s, Q, h => vc_block (vcg_ok hT hm hF hrd h)
  | .scope a, s, Q, h => vc_scope (vcg_ok hT hm hF hrd h)
  | .exit id, s, Q, h => vc_exit h
  | .goto id, s, Q, h => vc_goto h
  | .ret, s, Q, h => vc_ret h
  | .region id ops false, s, Q, h => vc_region hT hF h
  | .region id ops true, s, Q, h => by
    unfold vcg at h
    split at h
    · rename_i hd; cases hd
    split at h
    · exact vc_draw hT hm hF h
    · rename_i m hc
      rw [takeN_eq, dropN_eq] at h
      exact vc_draw_cut hT hm hF (by have := cutOf_le hc; omega) h
  | .loop a, s, Q, h => h F hF hrd
  | .rangeFunc g ps asg body, s, Q, h => by
    cases rd with
    | true => exact h.elim
    | false => exact vc_range hF (hrd rfl) h
  | .refuse .., s, Q, h => h F hF hrd
theorem vcg_loop (hT : TabOk P T) (hm : P.follows .mixedOrders = true) {rd : Bool} {base : Nat} {c : Code} {s : St} {Q : Ex → St → Prop} {S : Type} (st : S → St) (μ : S → Nat) (i0 : S) (h0 : Wk base N s (st i0))
    (h : ∀ i, vcg P T N base rd c (st i) (thenK (fun s' => ∃ j, Wk base N s' (st j) ∧ μ j < μ i) Q)) : ∀ F, FW F → (rd = false → F.round = none) → VC P F N base (.loop c) s Q :=
  fun F hF hrd => vc_loop st μ i0 h0 fun i => vcg_ok hT hm hF hrd (h i)
theorem roundV_of (hT : TabOk P T) (hm : P.follows .mixedOrders = true) {b nx : Nat} {t : List (Nat × V)} {ps : List Nat} {asg body : Code} {args : List V} {h : Heap} {K : V → Heap → Nat → Prop}
    (h1 : args.length = ps.length) (h2 : ∀ p ∈ ps, p < N) (h3 : b < nx)
    (hv : vcg P T N nx true asg ⟨zipPs ps args t, h, nx⟩ (fun e s1 => match e with
      | .normal => hget s1.h b = some (.loop N t ps asg body .ready none) ∧ vcg P T N nx true body ⟨s1.t, (b, some (.loop N t ps asg body .busy none)) :: s1.h, s1.nx⟩ (fun e2 s2 => hget s2.h b = some (.loop N t ps asg body .busy none) ∧
          match e2 with
          | .normal => K (.bool true) ((b, some (.loop N t ps asg body .ready none)) :: s2.h) s2.nx
          | e2 => K (.bool false) ((b, some (.loop N t ps asg body .done (some e2.code))) :: s2.h) s2.nx)
      | _ => False)) : RoundV P N b t ps asg body args h nx K :=
  ⟨h1, h2, h3, fun F hF => (vcg_ok hT hm hF (by simp) hv).mono fun e s1 hq => by
    cases e with
    | normal => exact ⟨hq.1, vcg_ok hT hm hF (by simp) hq.2⟩
    | exit id => exact hq
    | goto id => exact hq
    | ret => exact hq⟩
def res1 (T : Tab) (s : St) (r : ResultVar) (K : V → Prop) : Prop :=
  match r with
  | .tmp t => K (s.get t)
  | .cell a t => match s.get a with
    | .ptr b c => match hget s.h b with
      | some (.var fr ty cells) => dropK c cells fun r => partK (T t) r K
      | _ => False
    | _ => False
def resL (T : Tab) (s : St) : List ResultVar → (List V → Prop) → Prop
  | [], K => K []
  | r :: rs, K => res1 T s r fun v => resL T s rs fun vs => K (v :: vs)
def resK (T : Tab) (s : St) (rs : List ResultVar) (K : V → Prop) : Prop :=
  resL T s rs fun vs => match vs with
    | [v] => K v
    | vs => K (.tup vs)
def zipT : List V → Nat → List (Nat × V)
  | [], _ => []
  | v :: r, i => (i, v) :: zipT r (i + 1)
theorem zipT_get : ∀ (vs : List V) (k i : Nat), look (zipT vs k) i = if k ≤ i ∧ i < k + vs.length then vs.getD (i - k) .any else .any
  | [], k, i => by simp [zipT, look]
  | v :: r, k, i => by
    have := get_put (zipT r (k + 1)) [] [] 0 0 k v i
    simp only [St.get] at this
    rw [zipT, this, zipT_get r (k + 1) i]
    by_cases h1 : k = i
    · subst h1; simp
    · rw [if_neg h1]
      by_cases h2 : k + 1 ≤ i ∧ i < k + 1 + r.length
      · rw [if_pos h2, if_pos (by simp; omega), show i - k = (i - (k + 1)) + 1 by omega]; rfl
      · rw [if_neg h2, if_neg (by simp; omega)]
def Ends (base : Nat) (s : St) (v : V) (v' : V) (h' : Heap) (nx' : Nat) : Prop :=
  ∀ (G : Gh) (w : World) (u : Value), HR G s.h s.nx w → base ≤ s.nx → vr G w v u → ∃ G', HR G' h' nx' w ∧ vr G' w v' u ∧ Evo base G w G' w ∧ base ≤ nx'
theorem res1_out (hT : TabOk P T) {s : St} {r : ResultVar} {K : V → Prop} (h : res1 T s r K) : ∃ v, K v ∧ ∀ (G : Gh) (a : Act) (w : World), Sim G N s a w →
    ∃ u, (match r with | .tmp t => (pure (a.tmps.getD t undef) : Sem Value) | .cell x t => do loadVar t (← asAddr (a.tmps.getD x undef))).run P w = .ok u w ∧ vr G w v u := by
  unfold res1 at h
  split at h
  · rename_i t
    exact ⟨_, h, fun G a w hs => ⟨_, rfl, hs.tmp t⟩⟩
  · rename_i x t
    split at h
    · rename_i b c hx
      split at h
      · rename_i fr ty cells hb
        obtain ⟨hl, h⟩ := dropK_out h
        obtain ⟨val, hK, hp⟩ := partK_out hT h
        refine ⟨val, hK, fun G a w hs => ?_⟩
        have hv := hs.tmp x
        rw [hx] at hv
        generalize hux : a.tmps.getD x undef = ux at hv
        cases hv with
        | ptr _ _ c' hc =>
          have hown : Holds G w b fr true ty cells := hs.hr.own b (.var fr ty cells) hb
          obtain ⟨u, hu, hvr⟩ := hp G w ⟨c', c, none⟩ (by simpa using (hown.reads hc).drop c)
          exact ⟨u, by simp [hux, asAddr, hu], hvr⟩
      · exact h.elim
    · exact h.elim
theorem resL_out (hT : TabOk P T) {s : St} : ∀ {rs : List ResultVar} {K : List V → Prop}, resL T s rs K → ∃ vs, K vs ∧ ∀ (G : Gh) (a : Act) (w : World), Sim G N s a w →
    ∃ us, (rs.mapM fun (r : ResultVar) => (match r with | .tmp t => (pure (a.tmps.getD t undef) : Sem Value) | .cell x t => do loadVar t (← asAddr (a.tmps.getD x undef)))).run P w = .ok us w ∧ vrs G w vs us
  | [], K, h => ⟨[], h, fun G a w hs => ⟨[], rfl, vrs.nil⟩⟩
  | r :: rs, K, h => by
    obtain ⟨v, h', hv⟩ := res1_out (N := N) hT h; clear h; have h := h'; clear h'
    obtain ⟨vs, hK, hvs⟩ := resL_out hT h
    refine ⟨v :: vs, hK, fun G a w hs => ?_⟩
    obtain ⟨u, hu, hvr⟩ := hv G a w hs
    obtain ⟨us, hus, hvrs⟩ := hvs G a w hs
    refine ⟨u :: us, ?_, by simp [hvrs.1], fun j v' u' h1 h2 => ?_⟩
    · rw [List.mapM_cons]
      simp only [Sem.run_bind, hu, Result.andThen_ok, hus, Sem.run_pure]
    · cases j with
      | zero => simp at h1 h2; subst h1; subst h2; exact hvr
      | succ j => exact hvrs.2 j v' u' (by simpa using h1) (by simpa using h2)
structure Shut (ms : List Nat) (w w' : World) : Prop where
  os : w'.os = w.os
  tape : w'.tape = w.tape
  output : w'.output = w.output
  size : w'.heap.size = w.heap.size
  heap : ∀ c, c ∉ ms → w'.heap[c]? = w.heap[c]?
  dead : ∀ c m, csz w c = some m → csz w' c = some m
theorem Sim.shut {G : Gh} {s : St} {a : Act} {w w' : World} {ms : List Nat} (hs : Sim G N s a w) (h : Shut ms w w') (hm : ∀ r ∈ ms, (∀ b, G.ι b ≠ some r) ∧ ¬ G.amb r) : Sim G N s a w' := by
  have him : ∀ fr a u, imm G w fr a u → imm G w' fr a u := fun fr a u hi => ⟨(rd_of_block (h.heap _ (fun hc => (hm _ hc).2 hi.2.1))).trans hi.1, hi.2.1, fun hf => by rw [frozen_of_block (h.heap _ (fun hc => (hm _ hc).2 hi.2.1))]; exact hi.2.2.1 hf, hi.2.2.2⟩
  have hv : ∀ {v : V} {u : Value}, vr G w v u → vr G w' v u := fun hv => VR.mono (fun _ _ h => h) h.dead him hv
  have hh : ∀ {b fr ex ty vs}, Holds G w b fr ex ty vs → Holds G w' b fr ex ty vs := by
    rintro b fr ex ty vs ⟨c, cs, h1, h2, h3, h4, h5, h6, h7⟩
    exact ⟨c, cs, h1, (h.heap c (fun hc => (hm c hc).1 b h1)).trans h2, h3, h4, h5, fun j v hj => let ⟨u, hu, h1, hr⟩ := h6 j v hj; ⟨u, hu, h1, hv hr⟩, h7⟩
  refine ⟨hs.size, fun i => hv (hs.tmp i), ⟨fun c hc => by rw [h.size]; exact hs.hr.amb_lt c hc, by rw [h.size]; exact hs.hr.B_le, hs.hr.dom, fun b blk hb => ?_, hs.hr.inj, hs.hr.apart, fun b c hc => by rw [h.size]; exact hs.hr.lt b c hc, hs.hr.hdom, hs.hr.gl.to (fun _ h => h) (fun c hc => h.heap c (fun hm' => (hm c hm').2 hc))⟩⟩
  have := hs.hr.own b blk hb
  cases blk with
  | var fr ty cells => exact hh this
  | arr fr ex ty sz rows =>
    refine ⟨this.1, ?_⟩
    rcases this.2 with h1 | h1
    · exact .inl h1
    · exact .inr (hh h1)
  | loop N t ps asg body st pend =>
    obtain ⟨c, r, h1, h2, h3, h4, h5, h6, h7, h8, h9⟩ := this
    exact ⟨c, r, h1, (h.heap c (fun hc => (hm c hc).1 b h1)).trans h2, h3, h4, h5, h6, h7, h8, fun i => hv (h9 i)⟩
  | map es =>
    exact MapH.to this (fun c h1 => h1) (fun c h1 => h.heap c (fun hc => (hm c hc).1 b h1)) rfl fun j kv kv' h1 h2 => by
      obtain rfl := same_of h1 h2
      exact ⟨fun _ => hv, fun _ => hv⟩
  | iter cur rest =>
    exact IterH.to this (fun c h1 => h1) (fun c h1 => h.heap c (fun hc => (hm c hc).1 b h1)) him rfl (fun j kv kv' h1 h2 => by
      obtain rfl := same_of h1 h2
      exact ⟨fun _ => hv, fun _ => hv⟩) fun kv hkv => ⟨kv, hkv, fun _ => hv, fun _ => hv⟩
theorem leaves_marks {F : Fence} {n : Nat} {fn : Func} {tmps : Array Value} {R : Ending → World → Prop} : ∀ {ms : List Nat} {w : World}, (∀ r ∈ ms, w.heap[r]? = some (.deferred (some []))) → ms.Pairwise (· ≠ ·) →
    (∀ w', Shut ms w w' → ∃ v, (results fn tmps).run P w' = .ok v w' ∧ R (.returned v) w') → LeavesInM F n P fn tmps R (ms.map fun r => { target := .collected r, args := #[] }) .returning w
  | [], w, h1, h2, h => by
    obtain ⟨v, hv, hR⟩ := h w ⟨rfl, rfl, rfl, rfl, fun _ _ => rfl, fun _ _ h => h⟩
    exact ⟨v, hv, hR⟩
  | r :: ms, w, h1, h2, h => by
    have hr := h1 r (by simp)
    obtain ⟨p1, p2⟩ := List.pairwise_cons.1 h2
    refine ⟨by simp, .inl ⟨r, _, rfl, run_takeDeferred hr, leaves_marks (ms := ms) (fun q hq => ?_) p2 fun w' hw => ?_⟩⟩
    · rw [World.putObj_heap_other (Ne.symm (p1 q hq))]
      exact h1 q (by simp [hq])
    · refine h w' ⟨hw.os, hw.tape, hw.output, by rw [hw.size]; simp, fun c hc => ?_, fun c m hm => hw.dead c m ?_⟩
      · rw [hw.heap c (fun h => hc (by simp [h])), World.putObj_heap_other (fun e => hc (by simp [e]))]
      · unfold csz at hm ⊢
        by_cases e : c = r
        · subst e; rw [hr] at hm; cases hm
        · rw [World.putObj_heap_other e]; exact hm
theorem callV_of_vc (hT : TabOk P T) {f : FuncId} {fn : Func} {body : Code} (hf : P.funcs[f]? = some fn) (hb : fn.body = some body) (hn : fn.name ≠ "runtime.NumGoroutine") {args : List V} {h : Heap} {nx : Nat} {R : V → Heap → Nat → Prop}
    (hl : args.length ≤ fn.ntmps)
    (hv : VC P Fence.wide fn.ntmps nx body ⟨zipT args 0, h, nx⟩ (fun e s' => match e with
      | .normal | .ret => resK T s' fn.results.toList fun v => ∃ v' h' nx', Ends nx s' v v' h' nx' ∧ R v' h' nx'
      | _ => False)) : CallV P f args h nx R := by
  refine ⟨⟨fn, hf⟩, fun G w us hr hargs => .inl ⟨⟨fn, hf, by simp [hb], hn⟩, (callsIn_wide (n := 0)).1 (callsIn_of_wp_marks hf hb trivial ?_)⟩⟩
  have hsim : Sim G fn.ntmps ⟨zipT args 0, h, nx⟩ { tmps := us.toArray ++ Array.replicate (fn.ntmps - us.toArray.size) undef, defers := [] } w := by
    have hul : us.length = args.length := hargs.1.symm
    refine ⟨by simp; omega, fun i => ?_, hr⟩
    simp only [St.get]
    rw [zipT_get]
    split
    · rename_i hi
      have hi1 : i < args.length := by omega
      have hi2 : i < us.length := by omega
      have e1 : args.getD (i - 0) .any = args[i] := by simp [hi1]
      rw [e1]
      have e2 : (us.toArray ++ Array.replicate (fn.ntmps - us.toArray.size) undef).getD i undef = us[i] := by
        rw [Array.getD_eq_getD_getElem?, Array.getElem?_append_left (by simpa using hi2)]
        simp [hi2]
      rw [e2]
      exact hargs.2 i _ _ (List.getElem?_eq_getElem hi1) (List.getElem?_eq_getElem hi2)
    · exact .any _
  refine wpIn_mono (hv 0 G _ w hsim (Nat.le_refl _)) ?_
  rintro e a' w' ⟨e', s', G', rfl, hq, hs', he, hb', hd⟩
  obtain ⟨ms, hms, hmk, hpw⟩ := hd
  rw [List.append_nil] at hms
  have fin : resK T s' fn.results.toList (fun v => ∃ v' h' nx', Ends nx s' v v' h' nx' ∧ R v' h' nx') → ∀ w'', Shut ms w' w'' → ∃ v, (results fn a'.tmps).run P w'' = .ok v w'' ∧
      ∃ u v1 h' nx' G', Ending.returned v = .returned u ∧ R v1 h' nx' ∧ vr G' w'' v1 u ∧ HR G' h' nx' w'' ∧ Evo nx G w G' w'' ∧ nx ≤ nx' := by
    intro hq w'' hsh
    have hs' := hs'.shut hsh (fun r hr => (hmk r hr).2.2)
    have hmw : ∀ c, c < w.heap.size → c ∉ ms := fun c hc hm => by have := (hmk c hm).1; omega
    have he : Evo nx G w G' w'' := ⟨hsh.os.trans he.os, hsh.tape.trans he.tape, hsh.output.trans he.output, by rw [hsh.size]; exact he.size, he.B, he.amb, fun c hc => (hsh.heap c (hmw c (hr.amb_lt c hc))).trans (he.keep c hc),
      fun c m hm => hsh.dead c m (he.csz c m hm), he.ids, fun c hc hn => (hsh.heap c (hmw c hc)).trans (he.keepu c hc hn), he.ambn, he.idn⟩
    clear hmk
    obtain ⟨vs, hK, hvs⟩ := resL_out (N := fn.ntmps) hT hq
    obtain ⟨us, hus, hvrs⟩ := hvs G' a' w'' hs'
    have hres : (results fn a'.tmps).run P w'' = .ok (if h : us.toArray.size = 1 then us.toArray[0] else .tuple us.toArray) w'' := by
      unfold results
      rw [Array.mapM_eq_mapM_toList]
      simp only [Sem.run_bind, Sem.run_map]
      have e : (fn.results.toList.mapM fun (x : ResultVar) => (match x with | .tmp t => (pure (a'.tmps.getD t undef) : Sem Value) | .cell a t => do loadVar t (← asAddr (a'.tmps.getD a undef)))).run P w'' = .ok us w'' := hus
      erw [e]
      rfl
    have key : ∃ v, vr G' w'' v (if h : us.toArray.size = 1 then us.toArray[0] else .tuple us.toArray) ∧ ∃ v' h' nx', Ends nx s' v v' h' nx' ∧ R v' h' nx' := by
      have hl := hvrs.1
      split at hK
      · rename_i v
        have h1 : us.toArray.size = 1 := by simpa using hl.symm
        rw [dif_pos h1]
        have h1' : 0 < us.length := by simp at h1; omega
        exact ⟨v, by simpa using hvrs.2 0 v us[0] rfl (List.getElem?_eq_getElem h1'), hK⟩
      · rename_i hne
        have h1 : ¬ us.toArray.size = 1 := by
          intro h1
          have h1' : vs.length = 1 := by rw [hl]; simpa using h1
          obtain ⟨v, rfl⟩ := List.length_eq_one_iff.1 h1'
          exact hne v rfl
        rw [dif_neg h1]
        exact ⟨.tup vs, .tup vs us hvrs.1 hvrs.2, hK⟩
    obtain ⟨v, hvr, v', h', nx', hfin, hR⟩ := key
    obtain ⟨G2, q1, q2, q3, q4⟩ := hfin G' w'' _ hs'.hr hb' hvr
    exact ⟨_, hres, _, v', h', nx', G2, rfl, hR, q2, q1, he.trans q3, q4⟩
  cases e' with
  | normal => show LeavesInM _ _ _ _ _ _ a'.defers _ _; rw [hms]; exact leaves_marks (fun r hr => (hmk r hr).2.1) hpw (fin hq)
  | ret => show LeavesInM _ _ _ _ _ _ a'.defers _ _; rw [hms]; exact leaves_marks (fun r hr => (hmk r hr).2.1) hpw (fin hq)
  | exit id => exact hq.elim
  | goto id => exact hq.elim
theorem callV_of (hT : TabOk P T) (hm : P.follows .mixedOrders = true) {f : FuncId} {fn : Func} {body : Code} (hf : P.funcs[f]? = some fn) (hb : fn.body = some body) (hn : fn.name ≠ "runtime.NumGoroutine") {args : List V} {h : Heap} {nx : Nat} {R : V → Heap → Nat → Prop}
    (hl : args.length ≤ fn.ntmps)
    (hv : vcg P T fn.ntmps nx false body ⟨zipT args 0, h, nx⟩ (fun e s' => match e with
      | .normal | .ret => resK T s' fn.results.toList fun v => ∃ v' h' nx', Ends nx s' v v' h' nx' ∧ R v' h' nx'
      | _ => False)) : CallV P f args h nx R :=
  callV_of_vc hT hf hb hn hl (vcg_ok hT hm (.inl rfl) (fun _ => rfl) hv)
end
end Go.Proofs.YtfaglgoanmcifaaGreat
namespace Go.Proofs.YtfaglgoanmcifaaGreat
open Go.RowKit
def Gh.to (G : Gh) (ρ : Nat → Nat) (nx : Nat) (Z : List Nat) : Gh :=
  ⟨fun b => if b < nx then G.ι (ρ b) else none, fun c => G.amb c ∨ ∃ b, b ∈ Z ∧ G.ι b = some c, G.B⟩
def LeV (h : Heap) (nx : Nat) (ρ : Nat → Nat) (nx' : Nat) (Z : List Nat) (v v' : V) : Prop :=
  ∀ (G : Gh) (w : World) (u : Value), HR G h nx w → vr G w v u → vr (G.to ρ nx' Z) w v' u
def Free (v : V) : Prop := ∀ (ι ι' z : Nat → Option Nat) (im : Bool → Addr → Value → Prop) (u : Value), VR ι z im v u → VR ι' z im v u
def Fresh (v : V) : Prop := ∀ (ι z : Nat → Option Nat) (im im' : Bool → Addr → Value → Prop) (u : Value), (∀ a u, im true a u → im' true a u) → VR ι z im v u → VR ι z im' v u
def Less (v v' : V) : Prop := ∀ (ι z : Nat → Option Nat) (im : Bool → Addr → Value → Prop) (u : Value), (∀ a u, im true a u → im false a u) → VR ι z im v u → VR ι z im v' u
section free
theorem Free.int {k n} : Free (.int k n) := fun _ _ _ _ _ h => by cases h; exact .int _ _
theorem Free.bool {b} : Free (.bool b) := fun _ _ _ _ _ h => by cases h; exact .bool _
theorem Free.str {b} : Free (.str b) := fun _ _ _ _ _ h => by cases h; exact .str _
theorem Free.any : Free .any := fun _ _ _ _ _ h => .any _
theorem Free.snil : Free .snil := fun _ _ _ _ _ h => by cases h; exact .snil _
theorem Free.nilp : Free .nilp := fun _ _ _ _ _ h => by cases h; exact .nilp
theorem Free.nilf : Free .nilf := fun _ _ _ _ _ h => by cases h; exact .nilf
theorem Free.nili : Free .nili := fun _ _ _ _ _ h => by cases h; exact .nili
theorem Free.agg {cs : List V} (h : ∀ v ∈ cs, Free v) : Free (.agg cs) := fun _ _ _ _ _ hv => by
  cases hv with
  | agg _ us hl h1 => exact .agg _ us hl fun j v u hj hu => h v (List.mem_of_getElem? hj) _ _ _ _ _ (h1 j v u hj hu)
theorem Free.tup {cs : List V} (h : ∀ v ∈ cs, Free v) : Free (.tup cs) := fun _ _ _ _ _ hv => by
  cases hv with
  | tup _ us hl h1 => exact .tup _ us hl fun j v u hj hu => h v (List.mem_of_getElem? hj) _ _ _ _ _ (h1 j v u hj hu)
theorem Free.sl {fr sz} {xs : List (List V)} (h : ∀ x ∈ xs, ∀ v ∈ x, Free v) : Free (.sl fr sz xs) := fun _ _ _ _ _ hv => by
  cases hv with
  | sl _ _ _ A cap us hcap hm hA hrow hc hv =>
    exact .sl _ _ _ A cap us hcap hm hA hrow hc fun j v hj => by
      obtain ⟨x, hx, hvx⟩ := List.mem_flatten.1 (List.mem_of_getElem? hj)
      exact h x hx v hvx _ _ _ _ _ (hv j v hj)
theorem Free.iptr {fr} {cs : List V} (h : ∀ v ∈ cs, Free v) : Free (.iptr fr cs) := fun _ _ _ _ _ hv => by
  cases hv with
  | iptr _ _ ad us hs hc hv => exact .iptr _ _ ad us hs hc fun j v hj => h v (List.mem_of_getElem? hj) _ _ _ _ _ (hv j v hj)
theorem Free.fn {f} {fs cs : List V} (h1 : ∀ v ∈ fs, Free v) (h2 : ∀ v ∈ cs, Free v) : Free (.fn f fs cs) := fun _ _ _ _ _ hv => by
  cases hv with
  | fn _ _ _ us ws q1 q2 q3 q4 => exact .fn _ _ _ us ws q1 q2 (fun j v u hj hu => h1 v (List.mem_of_getElem? hj) _ _ _ _ _ (q3 j v u hj hu)) (fun j v u hj hu => h2 v (List.mem_of_getElem? hj) _ _ _ _ _ (q4 j v u hj hu))
theorem Free.ifc {t v} (h : Free v) : Free (.ifc t v) := fun _ _ _ _ _ hv => by
  cases hv with
  | ifc _ _ u h1 => exact .ifc _ _ u (h _ _ _ _ _ h1)
theorem Free.opt {c v} (h : Free v) : Free (.opt c v) := fun _ _ _ _ _ hv => by
  cases hv with
  | opt _ _ _ h1 h0 => exact .opt _ _ _ (fun hc => h _ _ _ _ _ (h1 hc)) h0
theorem Fresh.int {k n} : Fresh (.int k n) := fun _ _ _ _ _ _ h => by cases h; exact .int _ _
theorem Fresh.bool {b} : Fresh (.bool b) := fun _ _ _ _ _ _ h => by cases h; exact .bool _
theorem Fresh.str {b} : Fresh (.str b) := fun _ _ _ _ _ _ h => by cases h; exact .str _
theorem Fresh.snil : Fresh .snil := fun _ _ _ _ _ _ h => by cases h; exact .snil _
theorem Fresh.any : Fresh .any := fun _ _ _ _ _ _ h => .any _
theorem Fresh.nilp : Fresh .nilp := fun _ _ _ _ _ _ h => by cases h; exact .nilp
theorem Fresh.nili : Fresh .nili := fun _ _ _ _ _ _ h => by cases h; exact .nili
theorem Fresh.agg {cs : List V} (h : ∀ v ∈ cs, Fresh v) : Fresh (.agg cs) := fun _ _ _ _ _ hi hv => by
  cases hv with
  | agg _ us hl h1 => exact .agg _ us hl fun j v u hj hu => h v (List.mem_of_getElem? hj) _ _ _ _ _ hi (h1 j v u hj hu)
theorem Fresh.tup {cs : List V} (h : ∀ v ∈ cs, Fresh v) : Fresh (.tup cs) := fun _ _ _ _ _ hi hv => by
  cases hv with
  | tup _ us hl h1 => exact .tup _ us hl fun j v u hj hu => h v (List.mem_of_getElem? hj) _ _ _ _ _ hi (h1 j v u hj hu)
theorem Fresh.sl {sz} {xs : List (List V)} (h : ∀ x ∈ xs, ∀ v ∈ x, Fresh v) : Fresh (.sl true sz xs) := fun _ _ _ _ _ hi hv => by
  cases hv with
  | sl _ _ _ A cap us hcap hm hA hrow hc hv =>
    exact .sl _ _ _ A cap us hcap hm hA hrow (fun j v hj ad ha => hi _ _ (hc j v hj ad ha)) fun j v hj => by
      obtain ⟨x, hx, hvx⟩ := List.mem_flatten.1 (List.mem_of_getElem? hj)
      exact h x hx v hvx _ _ _ _ _ hi (hv j v hj)
theorem Less.refl (v : V) : Less v v := fun _ _ _ _ _ h => h
theorem Less.to_any (v : V) : Less v .any := fun _ _ _ _ _ h => .any _
theorem Less.agg {cs cs' : List V} (hl : cs.length = cs'.length) (h : ∀ (j : Nat) (v v' : V), cs[j]? = some v → cs'[j]? = some v' → Less v v') : Less (.agg cs) (.agg cs') := fun _ _ _ _ hi hv => by
  cases hv with
  | agg _ us hl' h1 =>
    exact .agg _ us (hl ▸ hl') fun j v' u hj hu => by
      have hlt : j < cs.length := by rw [hl]; exact (List.getElem?_eq_some_iff.1 hj).1
      exact h j _ v' (List.getElem?_eq_getElem hlt) hj _ _ _ _ hi (h1 j _ u (List.getElem?_eq_getElem hlt) hu)
theorem Less.agg2 {v v' : V} {cs cs' : List V} (h : Less v v') (hs : Less (.agg cs) (.agg cs')) : Less (.agg (v :: cs)) (.agg (v' :: cs')) := fun ι z im u hi hv => by
  cases hv with
  | agg _ us hl h1 =>
    cases us with
    | nil => simp at hl
    | cons u us =>
      have hv := h ι z im u hi (h1 0 v u rfl rfl)
      have hrest := hs ι z im (.agg us.toArray) hi (.agg cs us (by simpa using hl) fun j v u hj hu => h1 (j + 1) v u (by simpa using hj) (by simpa using hu))
      generalize hg : (Value.agg us.toArray) = g at hrest
      cases hrest with
      | agg _ us' hl' h2 =>
        have : us = us' := by simpa using hg
        subst this
        refine .agg _ (u :: us) (by simp [hl']) fun j v u' hj hu => ?_
        cases j with
        | zero => simp at hj hu; subst hj; subst hu; exact hv
        | succ j => exact h2 j v u' (by simpa using hj) (by simpa using hu)
theorem Less.sl {fr fr' sz} {xs xs' : List (List V)} (hf : fr' = true → fr = true) (hl : xs.map List.length = xs'.map List.length) (h : ∀ (j : Nat) (v v' : V), xs.flatten[j]? = some v → xs'.flatten[j]? = some v' → Less v v') : Less (.sl fr sz xs) (.sl fr' sz xs') := fun ι z im u hi hv => by
  have hlen : xs.length = xs'.length := by simpa using congrArg List.length hl
  have hfl : xs.flatten.length = xs'.flatten.length := by rw [List.length_flatten, List.length_flatten, hl]
  cases hv with
  | sl _ _ _ A cap us hcap hm hA hrow hc hv =>
    have hrow' : ∀ x, x ∈ xs' → x.length = sz := by
      intro x hx
      have : x.length ∈ xs'.map List.length := List.mem_map_of_mem hx
      rw [← hl] at this
      obtain ⟨y, hy, e⟩ := List.mem_map.1 this
      rw [← e]; exact hrow y hy
    have hat : ∀ (j : Nat) (v' : V), xs'.flatten[j]? = some v' → ∃ v, xs.flatten[j]? = some v := fun j v' hj => by
      have hlt : j < xs.flatten.length := by rw [hfl]; exact (List.getElem?_eq_some_iff.1 hj).1
      exact ⟨_, List.getElem?_eq_getElem hlt⟩
    have := VR.sl (ι := ι) (csz := z) (imm := im) fr' sz xs' A cap us (by omega) hm (fun hne => hA (by
        intro e; subst e; apply hne; exact List.eq_nil_of_length_eq_zero (by simpa using hlen.symm))) hrow' (fun j v' hj ad ha => by
        obtain ⟨v, hv⟩ := hat j v' hj
        have h1 := hc j v hv ad ha
        cases fr' with
        | true => rw [hf rfl] at h1; exact h1
        | false => cases fr with
          | false => exact h1
          | true => exact hi _ _ h1) (fun j v' hj => by
        obtain ⟨v, hv'⟩ := hat j v' hj
        exact h j v v' hv' hj _ _ _ _ hi (hv j v hv'))
    rw [← hlen] at this
    exact this
end free
section le
variable {h : Heap} {nx nx' : Nat} {ρ : Nat → Nat} {Z : List Nat}
theorem imm_to {G : Gh} {w : World} {fr : Bool} {a : Addr} {u : Value} (hi : imm G w fr a u) : imm (G.to ρ nx' Z) w fr a u := ⟨hi.1, .inl hi.2.1, hi.2.2⟩
theorem LeV.to_any {v : V} : LeV h nx ρ nx' Z v .any := fun _ _ _ _ _ => .any _
theorem LeV.free {v : V} (hf : Free v) : LeV h nx ρ nx' Z v v := fun G w u hr hv => hf _ _ _ _ _ (VR.mono (ι' := G.ι) (fun _ _ h => h) (fun _ _ h => h) (fun _ _ _ hi => imm_to hi) hv)
theorem LeV.less {v v1 v2 : V} (h1 : LeV h nx ρ nx' Z v v1) (h2 : Less v1 v2) : LeV h nx ρ nx' Z v v2 := fun G w u hr hv => h2 _ _ _ _ (fun _ _ hi => ⟨hi.1, hi.2.1, (fun h => by cases h), hi.2.2.2⟩) (h1 G w u hr hv)
theorem LeV.ptr {b b' col : Nat} (hb : ρ b' = b) (hn : b' < nx') : LeV h nx ρ nx' Z (.ptr b col) (.ptr b' col) := fun G w u hr hv => by
  cases hv with
  | ptr _ _ c hc => exact .ptr _ _ c (by simp only [Gh.to, hn, if_true, hb]; exact hc)
theorem LeV.eptr {b b' sz row col : Nat} (hb : ρ b' = b) (hn : b' < nx') : LeV h nx ρ nx' Z (.eptr b sz row col) (.eptr b' sz row col) := fun G w u hr hv => by
  cases hv with
  | eptr _ _ _ _ c hc => exact .eptr _ _ _ _ c (by simp only [Gh.to, hn, if_true, hb]; exact hc)
theorem LeV.yld {b b' : Nat} (hb : ρ b' = b) (hn : b' < nx') : LeV h nx ρ nx' Z (.yld b) (.yld b') := fun G w u hr hv => by
  cases hv with
  | yld _ c hc => exact .yld _ c (by simp only [Gh.to, hn, if_true, hb]; exact hc)
theorem LeV.osl {b b' sz row n : Nat} (hb : ρ b' = b) (hn : b' < nx') : LeV h nx ρ nx' Z (.osl b sz row n) (.osl b' sz row n) := fun G w u hr hv => by
  cases hv with
  | osl _ _ _ _ c cap m hc hz he h1 h2 => exact .osl _ _ _ _ c cap m (by simp only [Gh.to, hn, if_true, hb]; exact hc) hz he h1 h2
  | oslz _ _ _ A => exact .oslz _ _ _ A
theorem LeV.from {v v1 v2 : V} (h1 : Less v v1) (h2 : LeV h nx ρ nx' Z v1 v2) : LeV h nx ρ nx' Z v v2 := fun G w u hr hv => h2 G w u hr (h1 _ _ _ _ (fun _ _ hi => ⟨hi.1, hi.2.1, (fun h => by cases h), hi.2.2.2⟩) hv)
theorem Less.psl {b sz row n : Nat} : Less (.psl b sz row n) (.osl b sz row n) := fun _ _ _ _ _ hv => by
  cases hv with
  | psl _ _ _ _ c cap m hc hz he h1 h2 => exact .osl _ _ _ _ c cap m hc hz he h1 h2
theorem LeV.psl {b b' sz row n : Nat} (hb : ρ b' = b) (hn : b' < nx') : LeV h nx ρ nx' Z (.psl b sz row n) (.psl b' sz row n) := fun G w u hr hv => by
  cases hv with
  | psl _ _ _ _ c cap m hc hz he h1 h2 => exact .psl _ _ _ _ c cap m (by simp only [Gh.to, hn, if_true, hb]; exact hc) hz he h1 h2
theorem LeV.osl0 {b sz row : Nat} : LeV h nx ρ nx' Z .snil (.osl b sz row 0) := fun G w u hr hv => by
  cases hv with
  | snil A => exact .oslz _ _ _ A
theorem LeV.agg {cs cs' : List V} (hl : cs.length = cs'.length) (h1 : ∀ (j : Nat) (v v' : V), cs[j]? = some v → cs'[j]? = some v' → LeV h nx ρ nx' Z v v') : LeV h nx ρ nx' Z (.agg cs) (.agg cs') := fun G w u hr hv => by
  cases hv with
  | agg _ us hl' hv =>
    exact .agg _ us (hl ▸ hl') fun j v' u hj hu => by
      have hlt : j < cs.length := by rw [hl]; exact (List.getElem?_eq_some_iff.1 hj).1
      exact h1 j _ v' (List.getElem?_eq_getElem hlt) hj G w u hr (hv j _ u (List.getElem?_eq_getElem hlt) hu)
theorem LeV.tup {cs cs' : List V} (hl : cs.length = cs'.length) (h1 : ∀ (j : Nat) (v v' : V), cs[j]? = some v → cs'[j]? = some v' → LeV h nx ρ nx' Z v v') : LeV h nx ρ nx' Z (.tup cs) (.tup cs') := fun G w u hr hv => by
  cases hv with
  | tup _ us hl' hv =>
    exact .tup _ us (hl ▸ hl') fun j v' u hj hu => by
      have hlt : j < cs.length := by rw [hl]; exact (List.getElem?_eq_some_iff.1 hj).1
      exact h1 j _ v' (List.getElem?_eq_getElem hlt) hj G w u hr (hv j _ u (List.getElem?_eq_getElem hlt) hu)
def LeL (h : Heap) (nx : Nat) (ρ : Nat → Nat) (nx' : Nat) (Z : List Nat) : List V → List V → Prop
  | [], [] => True
  | v :: r, v' :: r' => LeV h nx ρ nx' Z v v' ∧ LeL h nx ρ nx' Z r r'
  | _, _ => False
theorem LeL.out : ∀ {cs cs' : List V}, LeL h nx ρ nx' Z cs cs' → cs.length = cs'.length ∧ ∀ (j : Nat) (v v' : V), cs[j]? = some v → cs'[j]? = some v' → LeV h nx ρ nx' Z v v'
  | [], [], _ => ⟨rfl, by simp⟩
  | v :: r, v' :: r', hh => by
    obtain ⟨h1, h2⟩ := LeL.out hh.2
    refine ⟨by simp [h1], fun j a b ha hb => ?_⟩
    cases j with
    | zero => simp at ha hb; subst ha; subst hb; exact hh.1
    | succ j => exact h2 j a b (by simpa using ha) (by simpa using hb)
  | [], _ :: _, hh => hh.elim
  | _ :: _, [], hh => hh.elim
theorem LeV.aggL {cs cs' : List V} (hl : LeL h nx ρ nx' Z cs cs') : LeV h nx ρ nx' Z (.agg cs) (.agg cs') := .agg hl.out.1 hl.out.2
theorem LeV.tupL {cs cs' : List V} (hl : LeL h nx ρ nx' Z cs cs') : LeV h nx ρ nx' Z (.tup cs) (.tup cs') := .tup hl.out.1 hl.out.2
theorem LeV.freeze {b sz row n : Nat} {fr ex : Bool} {ty : TypeId} {rows : List (List V)} (hz : b ∈ Z) (hb : hget h b = some (.arr fr ex ty sz rows)) (hn : row + n ≤ rows.length) (hf : ∀ x ∈ rows, ∀ v ∈ x, Free v) :
    LeV h nx ρ nx' Z (.osl b sz row n) (.sl fr sz ((rows.drop row).take n)) := fun G w u hr hv => by
  obtain ⟨hs, hown⟩ := hr.own b _ hb
  have hsub : ∀ x, x ∈ (rows.drop row).take n → x ∈ rows := fun x hx => List.mem_of_mem_drop (List.mem_of_mem_take hx)
  have hlen : ((rows.drop row).take n).length = n := by simp; omega
  cases hv with
  | oslz _ _ _ A => rw [show ((rows.drop row).take 0) = [] from List.take_zero]; exact .sl fr sz [] A 0 (fun _ => undef) (Nat.le_refl _) (Nat.zero_le _) (fun h => absurd rfl h) (by simp) (by simp) (by simp)
  | osl _ _ _ _ c cap m hc hz' he h1 h2 =>
    rcases hown with ⟨h0, _⟩ | ⟨c', cs, e1, hh, hle, hex, hfr, hcell, _⟩
    · rw [h0] at hc; cases hc
    rw [hc] at e1; cases e1
    have hfl := flatten_cells hs
    have hat : ∀ (j : Nat) (v : V), ((rows.drop row).take n).flatten[j]? = some v → rows.flatten[row * sz + j]? = some v := by
      intro j v hj
      have e : rows.flatten = (rows.take row).flatten ++ (((rows.drop row).take n).flatten ++ ((rows.drop row).drop n).flatten) := by
        rw [← List.flatten_append, List.take_append_drop, ← List.flatten_append, List.take_append_drop]
      have l : (rows.take row).flatten.length = row * sz := by rw [flatten_cells (fun x hx => hs x (List.mem_of_mem_take hx)), List.length_take, Nat.min_eq_left (by omega)]
      rw [e, List.getElem?_append_right (by omega), l, show row * sz + j - row * sz = j by omega, List.getElem?_append_left (List.getElem?_eq_some_iff.1 hj).1, hj]
    have hfree : ∀ (j : Nat) (v : V), ((rows.drop row).take n).flatten[j]? = some v → Free v := by
      intro j v hj
      obtain ⟨x, hx, hvx⟩ := List.mem_flatten.1 (List.mem_of_getElem? hj)
      exact hf x (hsub x hx) v hvx
    have := VR.sl (ι := (G.to ρ nx' Z).ι) (csz := csz w) (imm := imm (G.to ρ nx' Z) w) fr sz ((rows.drop row).take n) (some ⟨c, row * sz, none⟩) cap (fun j => cs[row * sz + j]?.getD undef) (by omega) h2
      (fun _ => ⟨_, rfl, rfl⟩) (fun x hx => hs x (hsub x hx)) (fun j v hj ad ha => by
        cases ha
        obtain ⟨u, hu, hone, _⟩ := hcell _ v (hat j v hj)
        refine ⟨by simp [rd, World.cell?, hh, hu], .inr ⟨b, hz, hc⟩, fun hf => ⟨hfr hf, by simp [World.frozen?, hh]⟩, by simp [hu, hone]⟩) (fun j v hj => by
        obtain ⟨u, hu, _, hv⟩ := hcell _ v (hat j v hj)
        simp only [hu, Option.getD_some]
        exact hfree j v hj _ _ _ _ _ (VR.mono (ι' := G.ι) (fun _ _ h => h) (fun _ _ h => h) (fun _ _ _ hi => imm_to hi) hv))
    rw [hlen] at this
    exact this
theorem LeV.freezeP {b col : Nat} {fr : Bool} {ty : TypeId} {cells : List V} (hz : b ∈ Z) (hb : hget h b = some (.var fr ty cells)) (hf : ∀ v ∈ cells, Free v) :
    LeV h nx ρ nx' Z (.ptr b col) (.iptr fr (cells.drop col)) := fun G w u hr hv => by
  have hown : Holds G w b fr true ty cells := hr.own b _ hb
  obtain ⟨c', cs, e1, hh, hle, hex, hfr, hcell, _⟩ := hown
  cases hv with
  | ptr _ _ c hc =>
    rw [hc] at e1
    obtain rfl : c = c' := Option.some.inj e1
    refine .iptr fr (cells.drop col) ⟨c, col, none⟩ (fun j => cs[col + j]?.getD undef) rfl (fun j v hj => ?_) (fun j v hj => ?_)
    · rw [List.getElem?_drop] at hj
      obtain ⟨u, hu, hone, _⟩ := hcell _ v hj
      exact ⟨by simp [rd, World.cell?, hh, hu], .inr ⟨b, hz, hc⟩, fun hf => ⟨hfr hf, by simp [World.frozen?, hh]⟩, by simp [hu, hone]⟩
    · rw [List.getElem?_drop] at hj
      obtain ⟨u, hu, _, hv⟩ := hcell _ v hj
      simp only [hu, Option.getD_some]
      exact hf v (List.mem_of_getElem? hj) _ _ _ _ _ (VR.mono (ι' := G.ι) (fun _ _ h => h) (fun _ _ h => h) (fun _ _ _ hi => imm_to hi) hv)
theorem look_cons (j : Nat) (v : V) (r : List (Nat × V)) (i : Nat) : look ((j, v) :: r) i = if j = i then v else look r i := get_put r [] [] 0 0 j v i
def leT (h : Heap) (nx : Nat) (t : List (Nat × V)) (ρ : Nat → Nat) (nx' : Nat) (Z : List Nat) : List (Nat × V) → Prop
  | [] => True
  | (i, v) :: r => LeV h nx ρ nx' Z (look t i) v ∧ leT h nx t ρ nx' Z r
theorem leT.out {t : List (Nat × V)} : ∀ {t' : List (Nat × V)}, leT h nx t ρ nx' Z t' → ∀ i, LeV h nx ρ nx' Z (look t i) (look t' i)
  | [], _, i => .to_any
  | (j, v) :: r, h, i => by
    rw [look_cons j v r i]
    split
    · rename_i e
      subst e
      exact h.1
    · exact leT.out h.2 i
def LeB (h : Heap) (nx : Nat) (ρ : Nat → Nat) (nx' : Nat) (Z : List Nat) (blk : Blk) : Blk → Prop
  | .var fr' ty' cells' => match blk with
    | .var fr ty cells => (fr' = true → fr = true) ∧ ty' = ty ∧ LeL h nx ρ nx' Z cells cells'
    | _ => False
  | .arr fr' ex' ty' sz' rows' => match blk with
    | .arr fr ex ty sz rows => (fr' = true → fr = true) ∧ (ex' = true → ex = true) ∧ ty' = ty ∧ sz' = sz ∧ rows.map List.length = rows'.map List.length ∧
        ∀ (j : Nat) (v v' : V), rows.flatten[j]? = some v → rows'.flatten[j]? = some v' → LeV h nx ρ nx' Z v v'
    | _ => False
  | .loop N' t' ps' asg' body' st' pend' => match blk with
    | .loop N t ps asg body st pend => N' = N ∧ ps' = ps ∧ asg' = asg ∧ body' = body ∧ st' = st ∧ pend' = pend ∧ leT h nx t ρ nx' Z t'
    | _ => False
  | .map es' => match blk with
    | .map es => es'.length = es.length ∧ ∀ (j : Nat) (kv kv' : V × V), es[j]? = some kv → es'[j]? = some kv' → LeV h nx ρ nx' Z kv.1 kv'.1 ∧ LeV h nx ρ nx' Z kv.2 kv'.2
    | _ => False
  | .iter cur' rest' => match blk with
    | .iter cur rest => rest'.length = rest.length ∧ (∀ (j : Nat) (kv kv' : V × V), rest[j]? = some kv → rest'[j]? = some kv' → LeV h nx ρ nx' Z kv.1 kv'.1 ∧ LeV h nx ρ nx' Z kv.2 kv'.2) ∧
        ∀ kv', cur' = some kv' → ∃ kv, cur = some kv ∧ LeV h nx ρ nx' Z kv.1 kv'.1 ∧ LeV h nx ρ nx' Z kv.2 kv'.2
    | _ => False
theorem LeB.arr {fr ex : Bool} {ty sz : Nat} {rows : List (List V)} (hf : ∀ x ∈ rows, ∀ v ∈ x, Free v) : LeB h nx ρ nx' Z (.arr fr ex ty sz rows) (.arr fr ex ty sz rows) :=
  ⟨id, id, rfl, rfl, rfl, fun j v v' h1 h2 => by
    rw [h1] at h2; cases h2
    obtain ⟨x, hx, hvx⟩ := List.mem_flatten.1 (List.mem_of_getElem? h1)
    exact .free (hf x hx v hvx)⟩
theorem Holds.to {G : Gh} {w : World} (hr : HR G h nx w) {b b' : Nat} (hb : ρ b' = b) (hn : b' < nx') {fr fr' ex ex' : Bool} {ty : TypeId} {vs vs' : List V} (hfr : fr' = true → fr = true) (hex : ex' = true → ex = true) (hl : vs.length = vs'.length)
    (hle : ∀ (j : Nat) (v v' : V), vs[j]? = some v → vs'[j]? = some v' → LeV h nx ρ nx' Z v v') (hh : Holds G w b fr ex ty vs) : Holds (G.to ρ nx' Z) w b' fr' ex' ty vs' := by
  obtain ⟨c, cs, h1, h2, h3, h4, h5, h6, h7⟩ := hh
  refine ⟨c, cs, by simp only [Gh.to, hn, if_true, hb]; exact h1, h2, by omega, fun he => by rw [← hl]; exact h4 (hex he), fun hf => h5 (hfr hf), fun j v' hj => ?_, h7⟩
  have hlt : j < vs.length := by rw [hl]; exact (List.getElem?_eq_some_iff.1 hj).1
  obtain ⟨u, hu, hone, hv⟩ := h6 j _ (List.getElem?_eq_getElem hlt)
  exact ⟨u, hu, hone, hle j _ v' (List.getElem?_eq_getElem hlt) hj G w u hr hv⟩
theorem LeB.ok {G : Gh} {w : World} (hr : HR G h nx w) {b b' : Nat} (hb : ρ b' = b) (hn : b' < nx') {blk blk' : Blk} (hle : LeB h nx ρ nx' Z blk blk') (hk : BlkOk G w b blk) : BlkOk (G.to ρ nx' Z) w b' blk' := by
  cases blk' with
  | var fr' ty' cells' =>
    cases blk with
    | arr => exact hle.elim
    | loop => exact hle.elim
    | map => exact hle.elim
    | iter => exact hle.elim
    | var fr ty cells =>
      obtain ⟨h1, rfl, h3⟩ := hle
      exact Holds.to hr hb hn h1 id h3.out.1 h3.out.2 hk
  | arr fr' ex' ty' sz' rows' =>
    cases blk with
    | var => exact hle.elim
    | loop => exact hle.elim
    | map => exact hle.elim
    | iter => exact hle.elim
    | arr fr ex ty sz rows =>
      obtain ⟨h1, h2, rfl, rfl, h5, h6⟩ := hle
      have hfl : rows.flatten.length = rows'.flatten.length := by rw [List.length_flatten, List.length_flatten, h5]
      refine ⟨fun x hx => ?_, ?_⟩
      · have : x.length ∈ rows'.map List.length := List.mem_map_of_mem hx
        rw [← h5] at this
        obtain ⟨y, hy, e⟩ := List.mem_map.1 this
        rw [← e]; exact hk.1 y hy
      · rcases hk.2 with ⟨q1, q2⟩ | q
        · refine .inl ⟨by simp only [Gh.to, hn, if_true, hb]; exact q1, ?_⟩
          subst q2
          have := congrArg List.length h5
          exact List.eq_nil_of_length_eq_zero (by simpa using this.symm)
        · exact .inr (Holds.to hr hb hn h1 h2 hfl h6 q)
  | loop N' t' ps' asg' body' st' pend' =>
    cases blk with
    | var => exact hle.elim
    | arr => exact hle.elim
    | map => exact hle.elim
    | iter => exact hle.elim
    | loop N t ps asg body st pend =>
      obtain ⟨rfl, rfl, rfl, rfl, rfl, rfl, ht⟩ := hle
      obtain ⟨c, r, h1, h2, h3, h4, h5, h6, h7, h8, h9⟩ := hk
      exact ⟨c, r, by simp only [Gh.to, hn, if_true, hb]; exact h1, h2, h3, h4, h5, h6, h7, h8, fun i => ht.out i G w _ hr (h9 i)⟩
  | map es' =>
    cases blk with
    | var => exact hle.elim
    | arr => exact hle.elim
    | loop => exact hle.elim
    | iter => exact hle.elim
    | map es =>
      exact MapH.to hk (fun c h1 => by simp only [Gh.to, hn, if_true, hb]; exact h1) (fun _ _ => rfl) hle.1 fun j kv kv' h1 h2 => ⟨fun u => (hle.2 j kv kv' h1 h2).1 G w u hr, fun u => (hle.2 j kv kv' h1 h2).2 G w u hr⟩
  | iter cur' rest' =>
    cases blk with
    | var => exact hle.elim
    | arr => exact hle.elim
    | loop => exact hle.elim
    | map => exact hle.elim
    | iter cur rest =>
      exact IterH.to hk (fun c h1 => by simp only [Gh.to, hn, if_true, hb]; exact h1) (fun _ _ => rfl) (fun _ _ _ hi => imm_to hi) hle.1 (fun j kv kv' h1 h2 => ⟨fun u => (hle.2.1 j kv kv' h1 h2).1 G w u hr, fun u => (hle.2.1 j kv kv' h1 h2).2 G w u hr⟩) fun kv' hkv' => by
        obtain ⟨kv, hkv, q1, q2⟩ := hle.2.2 kv' hkv'
        exact ⟨kv, hkv, fun u => q1 G w u hr, fun u => q2 G w u hr⟩
structure LeH (base : Nat) (h : Heap) (nx : Nat) (ρ : Nat → Nat) (nx' : Nat) (Z : List Nat) (h' : Heap) : Prop where
  blk : ∀ b blk', hget h' b = some blk' → b < nx' ∧ ((ρ b ∉ Z ∧ ∃ blk, hget h (ρ b) = some blk ∧ LeB h nx ρ nx' Z blk blk') ∨ (nx ≤ ρ b ∧ ∃ fr ex ty sz, blk' = .arr fr ex ty sz []))
  inj : ∀ b b', hget h' b ≠ none → hget h' b' ≠ none → ρ b = ρ b' → b = b'
  low : ∀ b, b < base → ρ b = b
  nx : base ≤ nx'
  froze : ∀ z, z ∈ Z → hget h z ≠ none
theorem LeH.ok {base : Nat} {h' : Heap} (hl : LeH base h nx ρ nx' Z h') {G : Gh} {w : World} (hr : HR G h nx w) : HR (G.to ρ nx' Z) h' nx' w ∧ Evo base G w (G.to ρ nx' Z) w := by
  have id' : ∀ b c, (G.to ρ nx' Z).ι b = some c → b < nx' ∧ G.ι (ρ b) = some c := by
    intro b c hc
    simp only [Gh.to] at hc
    split at hc
    · rename_i hb; exact ⟨hb, hc⟩
    · cases hc
  refine ⟨⟨fun c hc => ?_, hr.B_le, fun b hb => if_neg (by omega), fun b blk' hb => ?_, fun b b' k k' c h1 h2 h3 h4 => ?_, fun b k c hb hc => ?_, fun b c hc => hr.lt _ c (id' b c hc).2, fun b k hb => (hl.blk b k hb).1, hr.gl.to (fun _ h => .inl h) (fun _ _ => rfl)⟩, ?_⟩
  · rcases hc with hc | ⟨b, _, hb⟩
    · exact hr.amb_lt c hc
    · exact hr.lt b c hb
  · obtain ⟨hn, ⟨_, blk, hg, hle⟩ | ⟨hge, fr, ex, ty, sz, rfl⟩⟩ := hl.blk b blk' hb
    · exact hle.ok hr rfl hn (hr.own _ _ hg)
    · exact ⟨by simp, .inl ⟨by simp only [Gh.to, hn, if_true]; exact hr.dom _ hge, rfl⟩⟩
  · obtain ⟨_, ⟨_, q, hq, _⟩ | ⟨hge, _⟩⟩ := hl.blk b k h1
    case inr => have := (id' b c h3).2; rw [hr.dom _ hge] at this; cases this
    obtain ⟨_, ⟨_, q', hq', _⟩ | ⟨hge, _⟩⟩ := hl.blk b' k' h2
    case inr => have := (id' b' c h4).2; rw [hr.dom _ hge] at this; cases this
    exact hl.inj b b' (by rw [h1]; simp) (by rw [h2]; simp) (hr.inj _ _ q q' c hq hq' (id' b c h3).2 (id' b' c h4).2)
  · obtain ⟨_, ⟨hz, q, hq, _⟩ | ⟨hge, _⟩⟩ := hl.blk b k hb
    case inr => have := (id' b c hc).2; rw [hr.dom _ hge] at this; cases this
    rintro (ha | ⟨z, hz', hzc⟩)
    · exact hr.apart _ q c hq (id' b c hc).2 ha
    · cases hg : hget h z with
      | none => exact hl.froze z hz' hg
      | some q' => exact hz ((hr.inj _ _ q q' c hq hg (id' b c hc).2 hzc) ▸ hz')
  · exact ⟨rfl, rfl, rfl, Nat.le_refl _, rfl, fun _ hc => .inl hc, fun _ _ => rfl, fun _ _ hm => hm, fun b c hb hc => by
      simp only [Gh.to]
      rw [if_pos (Nat.lt_of_lt_of_le hb hl.nx), hl.low b hb]; exact hc, fun _ _ _ => rfl, fun c hc hlt => by
      rcases hc with hc | ⟨b, _, hb⟩
      · exact .inl hc
      · exact .inr ⟨b, hb⟩, fun b c hc _ => ⟨_, (id' b c hc).2⟩⟩
end le
theorem Wk.of {base N : Nat} {s : St} {t' : List (Nat × V)} {h' : Heap} {nx' : Nat} (ρ : Nat → Nat) (Z : List Nat) (ht : leT s.h s.nx s.t ρ nx' Z t') (hh : LeH base s.h s.nx ρ nx' Z h') : Wk base N s ⟨t', h', nx'⟩ := fun G a w hs hb => by
  obtain ⟨h1, h2⟩ := hh.ok hs.hr
  exact ⟨_, ⟨hs.size, fun i => ht.out i G w _ hs.hr (hs.tmp i), h1⟩, h2, hh.nx⟩
theorem Ends.of {base : Nat} {s : St} {v v' : V} {h' : Heap} {nx' : Nat} (ρ : Nat → Nat) (Z : List Nat) (hv : LeV s.h s.nx ρ nx' Z v v') (hh : LeH base s.h s.nx ρ nx' Z h') : Ends base s v v' h' nx' := fun G w u hr hb hvr => by
  obtain ⟨h1, h2⟩ := hh.ok hr
  exact ⟨_, h1, hv G w u hr hvr, h2, hh.nx⟩
end Go.Proofs.YtfaglgoanmcifaaGreat
namespace Go.Proofs.YtfaglgoanmcifaaGreat
open Go.RowKit
def PCon (P : Program) (f : FuncId) (args : List V) (v : V) : Prop := CallV P f args [] 0 (fun v' h' nx' => v' = v ∧ h' = [] ∧ nx' = 0)
theorem LeL.vrs {h : Heap} {nx nx' : Nat} {ρ : Nat → Nat} {Z : List Nat} {cs cs' : List V} (hl : LeL h nx ρ nx' Z cs cs') {G : Gh} {w : World} {us : List Value} (hr : HR G h nx w) (hv : vrs G w cs us) : vrs (G.to ρ nx' Z) w cs' us := by
  obtain ⟨h1, h2⟩ := hl.out
  refine ⟨h1.symm.trans hv.1, fun j v' u hj hu => ?_⟩
  have hlt : j < cs.length := by rw [h1]; exact (List.getElem?_eq_some_iff.1 hj).1
  exact h2 j _ v' (List.getElem?_eq_getElem hlt) hj G w u hr (hv.2 j _ u (List.getElem?_eq_getElem hlt) hu)
theorem pureV_pure {P : Program} {f : FuncId} {args args0 : List V} {v0 : V} {h : Heap} {nx : Nat} (hc : PCon P f args0 v0) (ha : LeL h nx id 0 [] args args0) : PureV P f args v0 h nx := by
  refine ⟨hc.1, fun G w us hr hv => ?_⟩
  have hl : LeH 0 h nx id 0 [] [] := ⟨fun b blk hb => by simp [hget] at hb, fun b b' hb => by simp [hget] at hb, fun b hb => by omega, Nat.le_refl _, by simp⟩
  obtain ⟨hr0, _⟩ := hl.ok hr
  refine (hc.2 _ w us hr0 (ha.vrs hr hv)).mono ?_
  rintro e w' ⟨u, v, h', nx', G1, rfl, ⟨rfl, rfl, rfl⟩, hv1, hr1, E, _⟩
  have hn0 : ∀ b, (G.to id 0 []).ι b = none := fun b => by simp [Gh.to]
  have hn1 : ∀ b, G1.ι b = none := fun b => hr1.dom b (Nat.zero_le _)
  have hB : G1.B = G.B := E.B
  have ham : ∀ c, G1.amb c → c < w.heap.size → G.amb c := by
    intro c hc hlt
    rcases E.ambn c hc hlt with (h1 | ⟨_, h1, _⟩) | ⟨b, h1⟩
    · exact h1
    · simp at h1
    · rw [hn0] at h1; cases h1
  have he : EvoA G w ⟨G.ι, G1.amb, G.B⟩ w' := fun base => ⟨E.os, E.tape, E.output, E.size, rfl, fun c hc => E.amb c (.inl hc), fun c hc => E.keep c (.inl hc), E.csz, fun _ _ _ hc => hc, fun c hc _ => E.keepu c hc (fun b => by rw [hn0]; simp),
    fun c hc hlt => .inl (ham c hc hlt), fun b c hc _ => ⟨b, hc⟩⟩
  refine ⟨u, ⟨G.ι, G1.amb, G.B⟩, rfl, ?_, ⟨hr1.amb_lt, Nat.le_trans hr.B_le E.size, hr.dom, fun b blk hb => ?_, hr.inj, fun b blk c hb hc ha => ?_, fun b c hc => Nat.lt_of_lt_of_le (hr.lt b c hc) E.size, hr.hdom, hr.gl.evo (he 0)⟩, he, rfl⟩
  · exact VR.mono (ι := G1.ι) (imm := imm G1 w') (fun b c hb => by rw [hn1] at hb; cases hb) (fun _ _ h => h) (fun fr a u hi => ⟨hi.1, hi.2.1, fun hf => by have := hi.2.2.1 hf; rw [hB] at this; exact this, hi.2.2.2⟩) hv1
  · exact (hr.own b blk hb).keep he (fun c hc => E.keepu c (hr.lt b c hc) (fun b => by rw [hn0]; simp)) (fun hn => hn)
  · exact hr.apart b blk c hb hc (ham c ha (hr.lt b c hc))
def Cold (v : V) : Prop := ∀ (ι z : Nat → Option Nat) (im im' : Bool → Addr → Value → Prop) (u : Value), (∀ a u, im false a u → im' false a u) → VR ι z im v u → VR ι z im' v u
theorem Cold.int {k n} : Cold (.int k n) := fun _ _ _ _ _ _ h => by cases h; exact .int _ _
theorem Cold.bool {b} : Cold (.bool b) := fun _ _ _ _ _ _ h => by cases h; exact .bool _
theorem Cold.str {b} : Cold (.str b) := fun _ _ _ _ _ _ h => by cases h; exact .str _
theorem Cold.snil : Cold .snil := fun _ _ _ _ _ _ h => by cases h; exact .snil _
theorem Cold.any : Cold .any := fun _ _ _ _ _ _ h => .any _
theorem Cold.nilp : Cold .nilp := fun _ _ _ _ _ _ h => by cases h; exact .nilp
theorem Cold.nili : Cold .nili := fun _ _ _ _ _ _ h => by cases h; exact .nili
theorem Cold.nilf : Cold .nilf := fun _ _ _ _ _ _ h => by cases h; exact .nilf
theorem Cold.agg {cs : List V} (h : ∀ v ∈ cs, Cold v) : Cold (.agg cs) := fun _ _ _ _ _ hi hv => by
  cases hv with
  | agg _ us hl h1 => exact .agg _ us hl fun j v u hj hu => h v (List.mem_of_getElem? hj) _ _ _ _ _ hi (h1 j v u hj hu)
theorem Cold.tup {cs : List V} (h : ∀ v ∈ cs, Cold v) : Cold (.tup cs) := fun _ _ _ _ _ hi hv => by
  cases hv with
  | tup _ us hl h1 => exact .tup _ us hl fun j v u hj hu => h v (List.mem_of_getElem? hj) _ _ _ _ _ hi (h1 j v u hj hu)
theorem Cold.fn {f} {fs cs : List V} (h1 : ∀ v ∈ fs, Cold v) (h2 : ∀ v ∈ cs, Cold v) : Cold (.fn f fs cs) := fun _ _ _ _ _ hi hv => by
  cases hv with
  | fn _ _ _ us ws q1 q2 q3 q4 => exact .fn _ _ _ us ws q1 q2 (fun j v u hj hu => h1 v (List.mem_of_getElem? hj) _ _ _ _ _ hi (q3 j v u hj hu)) (fun j v u hj hu => h2 v (List.mem_of_getElem? hj) _ _ _ _ _ hi (q4 j v u hj hu))
theorem Cold.sl {sz} {xs : List (List V)} (h : ∀ x ∈ xs, ∀ v ∈ x, Cold v) : Cold (.sl false sz xs) := fun _ _ _ _ _ hi hv => by
  cases hv with
  | sl _ _ _ A cap us hcap hm hA hrow hc hv =>
    exact .sl _ _ _ A cap us hcap hm hA hrow (fun j v hj ad ha => hi _ _ (hc j v hj ad ha)) fun j v hj => by
      obtain ⟨x, hx, hvx⟩ := List.mem_flatten.1 (List.mem_of_getElem? hj)
      exact h x hx v hvx _ _ _ _ _ hi (hv j v hj)
theorem Cold.iptr {cs : List V} (h : ∀ v ∈ cs, Cold v) : Cold (.iptr false cs) := fun _ _ _ _ _ hi hv => by
  cases hv with
  | iptr _ _ ad us hs hc hv =>
    exact .iptr _ _ ad us hs (fun j v hj => hi _ _ (hc j v hj)) fun j v hj => h v (List.mem_of_getElem? hj) _ _ _ _ _ hi (hv j v hj)
theorem pureV_lend {P : Program} {f : FuncId} {args args0 : List V} {v0 : V} {h : Heap} {nx : Nat} (Z : List Nat) (hc : PCon P f args0 v0) (ha : LeL h nx id 0 Z args args0) (hcold : ∀ v ∈ args0, Cold v) (hz : ∀ z ∈ Z, hget h z ≠ none)
    (hf : Fresh v0) : PureV P f args v0 h nx := by
  refine ⟨hc.1, fun G w us hr hv => ?_⟩
  have hl : LeH 0 h nx id 0 Z [] := ⟨fun b blk hb => by simp [hget] at hb, fun b b' hb => by simp [hget] at hb, fun b hb => by omega, Nat.le_refl _, hz⟩
  obtain ⟨hr0, _⟩ := hl.ok hr
  have hr0' : HR ⟨(G.to id 0 Z).ι, (G.to id 0 Z).amb, w.heap.size⟩ [] 0 w := ⟨hr0.amb_lt, Nat.le_refl _, hr0.dom, fun b blk hb => by simp [hget] at hb, fun b b' k k' c hb => by simp [hget] at hb, fun b k c hb => by simp [hget] at hb, hr0.lt, fun b k hb => by simp [hget] at hb, hr0.gl.to (fun _ h => h) (fun _ _ => rfl)⟩
  have hva : vrs ⟨(G.to id 0 Z).ι, (G.to id 0 Z).amb, w.heap.size⟩ w args0 us := by
    have := ha.vrs hr hv
    exact ⟨this.1, fun j v u hj hu => hcold v (List.mem_of_getElem? hj) _ _ _ _ _ (fun a u hi => ⟨hi.1, hi.2.1, (fun h => by cases h), hi.2.2.2⟩) (this.2 j v u hj hu)⟩
  refine (hc.2 _ w us hr0' hva).mono ?_
  rintro e w' ⟨u, v, h', nx', G1, rfl, ⟨rfl, rfl, rfl⟩, hv1, hr1, E, _⟩
  have hn0 : ∀ b, (G.to id 0 Z).ι b = none := fun b => by simp [Gh.to]
  have hn1 : ∀ b, G1.ι b = none := fun b => hr1.dom b (Nat.zero_le _)
  have hB : G1.B = w.heap.size := E.B
  have he : EvoA G w ⟨G.ι, fun c => G.amb c ∨ (G1.amb c ∧ w.heap.size ≤ c), G.B⟩ w' := fun base => ⟨E.os, E.tape, E.output, E.size, rfl, fun c hc => .inl hc, fun c hc => E.keep c (.inl hc), E.csz, fun _ _ _ hc => hc, fun c hc _ => E.keepu c hc (fun b => by simp [hn0]),
    fun c hc hlt => .inl (hc.resolve_right (fun h => by omega)), fun b c hc _ => ⟨b, hc⟩⟩
  refine ⟨u, ⟨G.ι, fun c => G.amb c ∨ (G1.amb c ∧ w.heap.size ≤ c), G.B⟩, rfl, ?_, ⟨fun c hc => ?_, Nat.le_trans hr.B_le E.size, hr.dom, fun b blk hb => ?_, hr.inj, fun b blk c hb hc ha => ?_, fun b c hc => Nat.lt_of_lt_of_le (hr.lt b c hc) E.size, hr.hdom, hr.gl.evo (he 0)⟩, he, rfl⟩
  · have h1 := hf _ _ _ (imm ⟨G.ι, fun c => G.amb c ∨ (G1.amb c ∧ w.heap.size ≤ c), G.B⟩ w') _ (fun a u hi => by
      have h3 := hi.2.2.1 rfl
      rw [hB] at h3
      exact ⟨hi.1, .inr ⟨hi.2.1, h3.1⟩, fun _ => ⟨Nat.le_trans hr.B_le h3.1, h3.2⟩, hi.2.2.2⟩) hv1
    exact VR.mono (ι := G1.ι) (fun b c hb => by rw [hn1] at hb; cases hb) (fun _ _ h => h) (fun _ _ _ h => h) h1
  · rcases hc with hc | hc
    · exact Nat.lt_of_lt_of_le (hr.amb_lt c hc) E.size
    · exact hr1.amb_lt c hc.1
  · exact (hr.own b blk hb).keep he (fun c hc => E.keepu c (hr.lt b c hc) (fun b => by simp [hn0])) (fun hn => hn)
  · have := hr.lt b c hc
    rcases ha with ha | ha
    · exact hr.apart b blk c hb hc ha
    · omega
theorem callV_pure {P : Program} {f : FuncId} {args args0 : List V} {v0 : V} {h : Heap} {nx : Nat} {K : V → Heap → Nat → Prop} (hc : PCon P f args0 v0) (ha : LeL h nx id 0 [] args args0) (hK : K v0 h nx) : CallV P f args h nx K := (pureV_pure hc ha).call hK
theorem callV_lend {P : Program} {f : FuncId} {args args0 : List V} {v0 : V} {h : Heap} {nx : Nat} {K : V → Heap → Nat → Prop} (Z : List Nat) (hc : PCon P f args0 v0) (ha : LeL h nx id 0 Z args args0) (hcold : ∀ v ∈ args0, Cold v) (hz : ∀ z ∈ Z, hget h z ≠ none)
    (hf : Fresh v0) (hK : K v0 h nx) : CallV P f args h nx K := (pureV_lend Z hc ha hcold hz hf).call hK
theorem callV_ptr {P : Program} {f : FuncId} {args args0 : List V} {R : V → List V → Prop} {h : Heap} {nx b : Nat} {fr : Bool} {ty : TypeId} {cells : List V} {K : V → Heap → Nat → Prop}
    (hc : CallV P f args0 [(0, some (.var fr ty cells))] 1 (fun v' h' nx' => ∃ cells', R v' cells' ∧ h' = [(0, some (.var fr ty cells'))] ∧ nx' = 1))
    (hb : hget h b = some (.var fr ty cells)) (hcells : ∀ v ∈ cells, Free v) (ha : LeL h nx (fun _ => b) 1 [] args args0)
    (hR : ∀ v' cells', R v' cells' → Free v' ∧ (∀ v ∈ cells', Free v) ∧ K v' ((b, some (.var fr ty cells')) :: h) nx) : CallV P f args h nx K := by
  refine ⟨hc.1, fun G w us hr hv => ?_⟩
  have hl : LeH 0 h nx (fun _ => b) 1 [] [(0, some (.var fr ty cells))] := ⟨fun b' blk hb' => by
      rw [hget_cons] at hb'
      split at hb'
      · rename_i e; subst e; cases hb'
        refine ⟨by omega, .inl ⟨by simp, _, hb, id, rfl, ?_⟩⟩
        clear hc hb hv ha hR hr
        induction cells with
        | nil => trivial
        | cons v r ih => exact ⟨.free (hcells v (by simp)), ih (fun v hv => hcells v (by simp [hv]))⟩
      · simp [hget] at hb', fun b1 b2 h1 h2 _ => by
      rw [hget_cons] at h1 h2
      split at h1
      · split at h2
        · omega
        · simp [hget] at h2
      · simp [hget] at h1, fun b hb => by omega, Nat.zero_le _, by simp⟩
  obtain ⟨hr0, _⟩ := hl.ok hr
  refine (hc.2 _ w us hr0 (ha.vrs hr hv)).mono ?_
  rintro e w' ⟨u, v, h', nx', G1, rfl, ⟨cells', hR', rfl, rfl⟩, hv1, hr1, E, _⟩
  obtain ⟨hfv, hfc, hK⟩ := hR _ _ hR'
  obtain ⟨c, cs, hbc, _⟩ : Holds G w b fr true ty cells := hr.own b _ hb
  have h00 : (G.to (fun _ => b) 1 []).ι 0 = some c := by simpa [Gh.to] using hbc
  have hι0 : ∀ i c', (G.to (fun _ => b) 1 []).ι i = some c' → c' = c := by
    intro i c' hi
    simp only [Gh.to] at hi
    split at hi
    · rw [hbc] at hi; cases hi; rfl
    · cases hi
  have h10 : G1.ι 0 = some c := E.ids 0 c (by omega) h00
  have hB : G1.B = G.B := E.B
  have ham : ∀ c', G1.amb c' → c' < w.heap.size → G.amb c' ∨ c' = c := by
    intro c' hc' hlt
    rcases E.ambn c' hc' hlt with (h1 | ⟨_, h1, _⟩) | ⟨i, h1⟩
    · exact .inl h1
    · simp at h1
    · exact .inr (hι0 i c' h1)
  have hapc : ¬ G1.amb c := hr1.apart 0 (.var fr ty cells') c (by simp [hget]) h10
  have he : EvoA G w ⟨G.ι, G1.amb, G.B⟩ w' := fun base => ⟨E.os, E.tape, E.output, E.size, rfl, fun c hc => E.amb c (.inl hc), fun c hc => E.keep c (.inl hc), E.csz, fun _ _ _ hc => hc, fun c' hc hn => E.keepu c' hc (fun i hi => hn b (by rw [hbc, hι0 i c' hi])),
    fun c' hc' hlt => by
      rcases ham c' hc' hlt with h1 | rfl
      · exact .inl h1
      · exact absurd hc' hapc, fun b c hc _ => ⟨b, hc⟩⟩
  have toG : ∀ {v : V} {u : Value}, Free v → vr G1 w' v u → vr ⟨G.ι, G1.amb, G.B⟩ w' v u := fun hf hv => by
    refine hf _ _ _ _ _ (VR.mono (fun _ _ h => h) (fun _ _ h => h) (fun fr a u hi => ⟨hi.1, hi.2.1, fun hf => by have := hi.2.2.1 hf; rw [hB] at this; exact this, hi.2.2.2⟩) hv)
  have hother : ∀ b' blk c', hget h b' = some blk → G.ι b' = some c' → b ≠ b' → c' ≠ c := by
    rintro b' blk c' h1 h2 h3 rfl
    exact h3 (hr.inj b b' _ _ _ hb h1 hbc h2)
  refine ⟨u, v, _, nx, ⟨G.ι, G1.amb, G.B⟩, rfl, hK, toG hfv hv1, ⟨hr1.amb_lt, Nat.le_trans hr.B_le E.size, hr.dom, fun b' blk hb' => ?_, fun b1 b2 k1 k2 c' h1 h2 h3 h4 => ?_, fun b' blk c' hb' hc' ha => ?_, fun b c hc => Nat.lt_of_lt_of_le (hr.lt b c hc) E.size, fun b' blk hb' => ?_, hr.gl.evo (he 0)⟩, he nx, Nat.le_refl _⟩
  · rw [hget_cons] at hb'
    split at hb'
    · rename_i e; subst e; cases hb'
      obtain ⟨c2, cs2, q1, q2, q3, q4, q5, q6, q7⟩ : Holds G1 w' 0 fr true ty cells' := hr1.own 0 (.var fr ty cells') (by simp [hget])
      rw [h10] at q1
      obtain rfl : c = c2 := Option.some.inj q1
      refine ⟨c, cs2, hbc, q2, q3, q4, fun hf => by have := q5 hf; rw [hB] at this; exact this, fun j v hj => ?_, q7⟩
      obtain ⟨u, hu, h1, hvr⟩ := q6 j v hj
      exact ⟨u, hu, h1, toG (hfc v (List.mem_of_getElem? hj)) hvr⟩
    · rename_i e
      exact (hr.own b' blk hb').keep he (fun c' hc' => E.keepu c' (hr.lt b' c' hc') (fun i hi => hother b' blk c' hb' hc' e (hι0 i c' hi))) (fun hn => hn)
  · have live : ∀ {b' k}, hget ((b, some (.var fr ty cells')) :: h) b' = some k → ∃ k', hget h b' = some k' := by
      intro b' k hk
      rw [hget_cons] at hk
      split at hk
      · rename_i e; subst e; exact ⟨_, hb⟩
      · exact ⟨k, hk⟩
    obtain ⟨_, q1⟩ := live h1
    obtain ⟨_, q2⟩ := live h2
    exact hr.inj b1 b2 _ _ c' q1 q2 h3 h4
  · rw [hget_cons] at hb'
    split at hb'
    · rename_i e; subst e
      rw [hbc] at hc'; cases hc'
      exact hapc ha
    · rename_i e
      rcases ham c' ha (hr.lt b' c' hc') with h1 | h1
      · exact hr.apart b' blk c' hb' hc' h1
      · exact hother b' blk c' hb' hc' e h1
  · rw [hget_cons] at hb'
    split at hb'
    · rename_i e; subst e; exact hr.hdom b _ hb
    · exact hr.hdom b' blk hb'
end Go.Proofs.YtfaglgoanmcifaaGreat
namespace Go.Proofs.YtfaglgoanmcifaaGreat
open Go.RowKit
theorem LeV.int_of {h nx ρ nx' Z} {k : IntKind} {n m : Int} (e : n = m) : LeV h nx ρ nx' Z (.int k n) (.int k m) := e ▸ .free .int
theorem LeV.bool_of {h nx ρ nx' Z} {n m : Bool} (e : n = m) : LeV h nx ρ nx' Z (.bool n) (.bool m) := e ▸ .free .bool
theorem LeV.eq_of {h nx ρ nx' Z} {v v' : V} (e : v = v') (hf : Free v') : LeV h nx ρ nx' Z v v' := by subst e; exact .free hf
theorem LeV.osl_of {h nx ρ nx' Z} {b b' sz row n n' : Nat} (hb : ρ b' = b) (hn : b' < nx') (e : n = n') : LeV h nx ρ nx' Z (.osl b sz row n) (.osl b' sz row n') := e ▸ .osl hb hn
theorem LeV.freeze_of {h nx ρ nx' Z} {b sz row n : Nat} {fr ex : Bool} {ty : TypeId} {rows ys : List (List V)} (hz : b ∈ Z) (hb : hget h b = some (.arr fr ex ty sz rows)) (hn : row + n ≤ rows.length) (hf : ∀ x ∈ rows, ∀ v ∈ x, Free v)
    (e : (rows.drop row).take n = ys) : LeV h nx ρ nx' Z (.osl b sz row n) (.sl fr sz ys) := e ▸ .freeze hz hb hn hf
theorem LeV.fresh_off {h nx ρ nx' Z} {v : V} {sz : Nat} {xs : List (List V)} (e : LeV h nx ρ nx' Z v (.sl true sz xs)) : LeV h nx ρ nx' Z v (.sl false sz xs) :=
  e.less (.sl (by simp) rfl fun j v v' h1 h2 => by rw [h1] at h2; cases h2; exact Less.refl _)
theorem LeH.nil {base : Nat} {h : Heap} {nx nx' : Nat} {ρ : Nat → Nat} {Z : List Nat} (hn : base ≤ nx') (hl : ∀ b, b < base → ρ b = b) (hz : ∀ z, z ∈ Z → hget h z ≠ none) : LeH base h nx ρ nx' Z [] :=
  ⟨fun b k hb => by simp [hget] at hb, fun b b' hb => by simp [hget] at hb, hl, hn, hz⟩
def leHL (h : Heap) (nx : Nat) (ρ : Nat → Nat) (nx' : Nat) (Z : List Nat) : Heap → Prop
  | [] => True
  | (b, some blk') :: r => (b < nx' ∧ ((ρ b ∉ Z ∧ ∃ blk, hget h (ρ b) = some blk ∧ LeB h nx ρ nx' Z blk blk') ∨ (nx ≤ ρ b ∧ ∃ fr ex ty sz, blk' = .arr fr ex ty sz []))) ∧ leHL h nx ρ nx' Z r
  | (_, none) :: r => leHL h nx ρ nx' Z r
theorem leHL.out {h : Heap} {nx nx' : Nat} {ρ : Nat → Nat} {Z : List Nat} : ∀ {h' : Heap}, leHL h nx ρ nx' Z h' → ∀ b blk', hget h' b = some blk' → b < nx' ∧ ((ρ b ∉ Z ∧ ∃ blk, hget h (ρ b) = some blk ∧ LeB h nx ρ nx' Z blk blk') ∨ (nx ≤ ρ b ∧ ∃ fr ex ty sz, blk' = .arr fr ex ty sz []))
  | [], _, b, k, hb => by simp [hget] at hb
  | (i, none) :: r, hh, b, k, hb => by
    rw [hget_cons] at hb
    split at hb
    · cases hb
    · exact leHL.out (h' := r) hh b k hb
  | (i, some blk) :: r, hh, b, k, hb => by
    rw [hget_cons] at hb
    split at hb
    · rename_i e; subst e; cases hb; exact hh.1
    · exact leHL.out hh.2 b k hb
theorem hget_mem : ∀ {h : Heap} {b : Nat}, hget h b ≠ none → b ∈ h.map Prod.fst
  | [], b, hb => by simp [hget] at hb
  | (i, ob) :: r, b, hb => by
    rw [hget_cons] at hb
    split at hb
    · rename_i e; subst e; simp
    · exact List.mem_cons_of_mem _ (hget_mem hb)
theorem LeH.of {base : Nat} {h h' : Heap} {nx nx' : Nat} {ρ : Nat → Nat} {Z : List Nat} (hb : leHL h nx ρ nx' Z h') (hi : ∀ b ∈ h'.map Prod.fst, ∀ b' ∈ h'.map Prod.fst, ρ b = ρ b' → b = b') (hl : ∀ b, b < base → ρ b = b) (hn : base ≤ nx') (hz : ∀ z ∈ Z, hget h z ≠ none) : LeH base h nx ρ nx' Z h' :=
  ⟨hb.out, fun b b' h1 h2 => hi b (hget_mem h1) b' (hget_mem h2), hl, hn, hz⟩
def renOf : List (Nat × Nat) → Nat → Nat
  | [], b => b
  | (i, j) :: r, b => match Nat.beq i b with | true => j | false => renOf r b
theorem Ends.pure {s : St} {v v' : V} (Z : List Nat) (hv : LeV s.h s.nx id 0 Z v v') (hz : ∀ z ∈ Z, hget s.h z ≠ none) : ∃ v1 h' nx', Ends 0 s v v1 h' nx' ∧ (v1 = v' ∧ h' = [] ∧ nx' = 0) :=
  ⟨v', [], 0, Ends.of id Z hv (LeH.nil (Nat.le_refl _) (fun b hb => by omega) hz), rfl, rfl, rfl⟩
def subT (t : List (Nat × V)) : List (Nat × V) → Prop
  | [] => True
  | (i, v) :: r => look t i = v ∧ subT t r
theorem subT.out {t : List (Nat × V)} : ∀ {t' : List (Nat × V)}, subT t t' → ∀ i, look t' i = .any ∨ look t' i = look t i
  | [], _, i => .inl rfl
  | (j, v) :: r, h, i => by
    rw [look_cons]
    split
    · rename_i e; subst e; exact .inr h.1.symm
    · exact subT.out h.2 i
theorem callV_loop {P : Program} {f : FuncId} {args : List V} {b N nx : Nat} {t : List (Nat × V)} {ps : List Nat} {asg body : Code} {st : LoopState} {pend : Option Code} {h : Heap} {R : V → Heap → Nat → Prop} (t' : List (Nat × V)) (ht : subT t t')
    (hc : ∀ asg' body', asg' = asg → body' = body → CallV P f args ((b, some (.loop N t' ps asg' body' st pend)) :: h) nx R) : CallV P f args ((b, some (.loop N t ps asg body st pend)) :: h) nx R := by
  have hc := hc asg body rfl rfl
  refine ⟨hc.1, fun G w us hr hv => hc.2 G w us ?_ hv⟩
  have live : ∀ {b' k}, hget ((b, some (.loop N t' ps asg body st pend)) :: h) b' = some k → ∃ k', hget ((b, some (.loop N t ps asg body st pend)) :: h) b' = some k' := by
    intro b' k hk
    rw [hget_cons] at hk ⊢
    split at hk
    · rename_i e; rw [if_pos e]; exact ⟨_, rfl⟩
    · rename_i e; rw [if_neg e]; exact ⟨k, hk⟩
  refine ⟨hr.amb_lt, hr.B_le, hr.dom, fun b' k hk => ?_, fun b1 b2 k1 k2 c h1 h2 => ?_, fun b' k c hk => ?_, hr.lt, fun b' k hk => ?_, hr.gl⟩
  · rw [hget_cons] at hk
    split at hk
    · rename_i e
      subst e
      cases hk
      obtain ⟨c, r, h1, h2, h3, h4, h5, h6, h7, h8, h9⟩ : BlkOk G w b (.loop N t ps asg body st pend) := hr.own b _ (by rw [hget_cons, if_pos rfl])
      refine ⟨c, r, h1, h2, h3, h4, h5, h6, h7, h8, fun i => ?_⟩
      rcases ht.out i with e | e
      · rw [e]; exact .any _
      · rw [e]; exact h9 i
    · rename_i e
      exact hr.own b' k (by rw [hget_cons, if_neg e]; exact hk)
  · obtain ⟨_, g1⟩ := live h1
    obtain ⟨_, g2⟩ := live h2
    exact hr.inj b1 b2 _ _ c g1 g2
  · obtain ⟨_, g1⟩ := live hk
    exact hr.apart b' _ c g1
  · obtain ⟨_, g1⟩ := live hk
    exact hr.hdom b' _ g1
theorem Ends.here {base : Nat} {s : St} {v : V} : Ends base s v v s.h s.nx := fun G w u hr hb hv => ⟨G, hr, hv, Evo.refl _ _ _, hb⟩
def encB (fr : Bool) (b : List UInt8) : V := .sl fr 1 (b.map fun x => [.int .u8 x.toNat])
def encW (fr : Bool) (l : List UInt32) : V := .sl fr 1 (l.map fun x => [.int .u32 x.toNat])
theorem rowsB_free (b : List UInt8) : ∀ x ∈ b.map (fun x => [V.int .u8 x.toNat]), ∀ v ∈ x, Free v := by
  intro x hx v hv
  obtain ⟨y, _, rfl⟩ := List.mem_map.1 hx
  simp at hv; subst hv; exact .int
theorem rowsW_free (b : List UInt32) : ∀ x ∈ b.map (fun x => [V.int .u32 x.toNat]), ∀ v ∈ x, Free v := by
  intro x hx v hv
  obtain ⟨y, _, rfl⟩ := List.mem_map.1 hx
  simp at hv; subst hv; exact .int
theorem encB_free (fr : Bool) (b : List UInt8) : Free (encB fr b) := .sl (rowsB_free b)
theorem encW_free (fr : Bool) (b : List UInt32) : Free (encW fr b) := .sl (rowsW_free b)
theorem encB_cold (b : List UInt8) : Cold (encB false b) := .sl (by
  intro x hx v hv
  obtain ⟨y, _, rfl⟩ := List.mem_map.1 hx
  simp at hv; subst hv; exact .int)
theorem encW_cold (b : List UInt32) : Cold (encW false b) := .sl (by
  intro x hx v hv
  obtain ⟨y, _, rfl⟩ := List.mem_map.1 hx
  simp at hv; subst hv; exact .int)
theorem encB_fresh (b : List UInt8) : Fresh (encB true b) := .sl (by
  intro x hx v hv
  obtain ⟨y, _, rfl⟩ := List.mem_map.1 hx
  simp at hv; subst hv; exact .int)
theorem encW_fresh (b : List UInt32) : Fresh (encW true b) := .sl (by
  intro x hx v hv
  obtain ⟨y, _, rfl⟩ := List.mem_map.1 hx
  simp at hv; subst hv; exact .int)
theorem wrap64 {n : Int} (h : 0 ≤ n) (h' : n < 9223372036854775808) : IntKind.i64.wrap n = n := by
  rw [show IntKind.i64.wrap n = (n + 9223372036854775808) % 18446744073709551616 - 9223372036854775808 by simp [IntKind.wrap, IntKind.bits, IntKind.signed]; split <;> omega]
  omega
theorem wrap64' (n : Int) : IntKind.i64.wrap n = (n + 9223372036854775808) % 18446744073709551616 - 9223372036854775808 := by simp [IntKind.wrap, IntKind.bits, IntKind.signed]; split <;> omega
theorem wrap8 (n : Int) : IntKind.u8.wrap n = n % 256 := by simp [IntKind.wrap, IntKind.bits, IntKind.signed]
theorem wrap32 (n : Int) : IntKind.u32.wrap n = n % 4294967296 := by simp [IntKind.wrap, IntKind.bits, IntKind.signed]
theorem wrapu64 (n : Int) : IntKind.u64.wrap n = n % 18446744073709551616 := by simp [IntKind.wrap, IntKind.bits, IntKind.signed]
end Go.Proofs.YtfaglgoanmcifaaGreat
namespace Go.Proofs.YtfaglgoanmcifaaGreat
open Go.RowKit
def OCon (P : Program) (f : FuncId) (args : List V) (fr ex : Bool) (ty : TypeId) (sz n : Nat) (rows : List (List V)) : Prop :=
  CallV P f args [] 0 (fun v h' nx' => v = .osl 0 sz 0 n ∧ h' = [(0, some (.arr fr ex ty sz rows))] ∧ nx' = 1)
theorem callV_own {P : Program} {f : FuncId} {args args0 : List V} {h : Heap} {nx n sz : Nat} {fr ex : Bool} {ty : TypeId} {rows : List (List V)} {K : V → Heap → Nat → Prop} (Z : List Nat) (hc : OCon P f args0 fr ex ty sz n rows)
    (ha : LeL h nx id 0 Z args args0) (hcold : ∀ v ∈ args0, Cold v) (hz : ∀ z ∈ Z, hget h z ≠ none) (hrows : ∀ x ∈ rows, ∀ v ∈ x, Free v ∧ Fresh v)
    (hK : K (.osl nx sz 0 n) ((nx, some (.arr fr ex ty sz rows)) :: h) (nx + 1)) : CallV P f args h nx K := by
  refine ⟨hc.1, fun G w us hr hv => ?_⟩
  have hl : LeH 0 h nx id 0 Z [] := ⟨fun b blk hb => by simp [hget] at hb, fun b b' hb => by simp [hget] at hb, fun b hb => by omega, Nat.le_refl _, hz⟩
  obtain ⟨hr0, _⟩ := hl.ok hr
  have hr0' : HR ⟨(G.to id 0 Z).ι, (G.to id 0 Z).amb, w.heap.size⟩ [] 0 w := ⟨hr0.amb_lt, Nat.le_refl _, hr0.dom, fun b blk hb => by simp [hget] at hb, fun b b' k k' c hb => by simp [hget] at hb, fun b k c hb => by simp [hget] at hb, hr0.lt, fun b k hb => by simp [hget] at hb, hr0.gl.to (fun _ h => h) (fun _ _ => rfl)⟩
  have hva : vrs ⟨(G.to id 0 Z).ι, (G.to id 0 Z).amb, w.heap.size⟩ w args0 us := by
    have := ha.vrs hr hv
    exact ⟨this.1, fun j v u hj hu => hcold v (List.mem_of_getElem? hj) _ _ _ _ _ (fun a u hi => ⟨hi.1, hi.2.1, (fun h => by cases h), hi.2.2.2⟩) (this.2 j v u hj hu)⟩
  refine (hc.2 _ w us hr0' hva).mono ?_
  rintro e w' ⟨u, v, h', nx', G1, rfl, ⟨rfl, rfl, rfl⟩, hv1, hr1, E, _⟩
  have hn0 : ∀ b, (G.to id 0 Z).ι b = none := fun b => by simp [Gh.to]
  have hB : G1.B = w.heap.size := E.B
  have hnew : ∀ b c, G1.ι b = some c → w.heap.size ≤ c := by
    intro b c hb
    rcases Nat.lt_or_ge c w.heap.size with h1 | h1
    · obtain ⟨b', hb'⟩ := E.idn b c hb h1
      rw [show (Gh.mk (G.to id 0 Z).ι (G.to id 0 Z).amb w.heap.size).ι b' = none from hn0 b'] at hb'; cases hb'
    · exact h1
  have hi : G.ι nx = none := hr.dom nx (Nat.le_refl _)
  let G' : Gh := ⟨fun b => if b = nx then G1.ι 0 else G.ι b, fun c => G.amb c ∨ (G1.amb c ∧ w.heap.size ≤ c), G.B⟩
  have hιn : G'.ι nx = G1.ι 0 := by simp [G']
  have hιo : ∀ b, b ≠ nx → G'.ι b = G.ι b := fun b hb => by simp [G', hb]
  have he : EvoA G w G' w' := fun base => ⟨E.os, E.tape, E.output, E.size, rfl, fun c hc => .inl hc, fun c hc => E.keep c (.inl hc), E.csz, fun b c _ hc => by
      by_cases e : b = nx
      · subst e; rw [hi] at hc; cases hc
      · rw [hιo b e]; exact hc, fun c hc _ => E.keepu c hc (fun b => by simp [hn0]),
    fun c hc hlt => .inl (hc.resolve_right (fun h => by omega)), fun b c hc hlt => by
      by_cases e : b = nx
      · subst e; rw [hιn] at hc; have := hnew 0 c hc; omega
      · rw [hιo b e] at hc; exact ⟨b, hc⟩⟩
  have toG : ∀ {v : V} {u : Value}, Free v ∧ Fresh v → vr G1 w' v u → vr G' w' v u := fun hf hv => by
    refine hf.1 _ _ _ _ _ (hf.2 _ _ _ (imm G' w') _ (fun a u hi => ?_) hv)
    have h3 := hi.2.2.1 rfl
    rw [hB] at h3
    exact ⟨hi.1, .inr ⟨hi.2.1, h3.1⟩, fun _ => ⟨Nat.le_trans hr.B_le h3.1, h3.2⟩, hi.2.2.2⟩
  refine ⟨u, _, _, nx + 1, G', rfl, hK, ?_, ⟨fun c hc => ?_, Nat.le_trans hr.B_le E.size, fun b hb => ?_, fun b blk hb => ?_, fun b1 b2 k1 k2 c h1 h2 h3 h4 => ?_, fun b blk c hb hc ha => ?_, fun b c hc => ?_, fun b blk hb => ?_, hr.gl.evo (he 0)⟩, he nx, Nat.le_succ _⟩
  · cases hv1 with
    | osl _ _ _ _ c cap m hc hz he h1 h2 =>
      exact .osl _ _ _ _ c cap m (by rw [hιn]; exact hc) hz he h1 h2
    | oslz _ _ _ A => exact .oslz _ _ _ A
  · rcases hc with hc | hc
    · exact Nat.lt_of_lt_of_le (hr.amb_lt c hc) E.size
    · exact hr1.amb_lt c hc.1
  · rw [hιo b (by omega)]; exact hr.dom b (by omega)
  · rw [hget_cons] at hb
    split at hb
    · rename_i e
      subst e; cases hb
      obtain ⟨q1, q2⟩ : BlkOk G1 w' 0 (.arr fr ex ty sz rows) := hr1.own 0 _ (by simp [hget])
      refine ⟨q1, ?_⟩
      rcases q2 with ⟨q2, q3⟩ | ⟨c, cs, e1, e2, e3, e4, e5, e6, e7⟩
      · exact .inl ⟨by rw [hιn]; exact q2, q3⟩
      · refine .inr ⟨c, cs, by rw [hιn]; exact e1, e2, e3, e4, fun hf => Nat.le_trans hr.B_le (hnew 0 c e1), fun j v hj => ?_, e7⟩
        obtain ⟨u, hu, h1, hvr⟩ := e6 j v hj
        obtain ⟨x, hx, hvx⟩ := List.mem_flatten.1 (List.mem_of_getElem? hj)
        exact ⟨u, hu, h1, toG (hrows x hx v hvx) hvr⟩
    · rename_i e
      exact (hr.own b blk hb).keep he (fun c hc => E.keepu c (hr.lt b c hc) (fun b => by simp [hn0])) (fun hn => by rw [hιo b (Ne.symm e)]; exact hn)
  · rw [hget_cons] at h1 h2
    by_cases e1 : b1 = nx <;> by_cases e2 : b2 = nx
    · omega
    · subst e1
      rw [hιn] at h3; rw [hιo b2 e2] at h4
      have := hnew 0 c h3
      have := hr.lt b2 c h4
      omega
    · subst e2
      rw [hιn] at h4; rw [hιo b1 e1] at h3
      have := hnew 0 c h4
      have := hr.lt b1 c h3
      omega
    · rw [if_neg (Ne.symm e1)] at h1; rw [if_neg (Ne.symm e2)] at h2
      rw [hιo b1 e1] at h3; rw [hιo b2 e2] at h4
      exact hr.inj b1 b2 k1 k2 c h1 h2 h3 h4
  · by_cases e : b = nx
    · subst e
      rw [hιn] at hc
      have hge := hnew 0 c hc
      rcases ha with ha | ha
      · have := hr.amb_lt c ha; omega
      · exact hr1.apart 0 (.arr fr ex ty sz rows) c (by simp [hget]) hc ha.1
    · rw [hιo b e] at hc
      rw [hget_cons, if_neg (Ne.symm e)] at hb
      have := hr.lt b c hc
      rcases ha with ha | ha
      · exact hr.apart b blk c hb hc ha
      · omega
  · by_cases e : b = nx
    · subst e; rw [hιn] at hc; exact hr1.lt 0 c hc
    · rw [hιo b e] at hc; exact Nat.lt_of_lt_of_le (hr.lt b c hc) E.size
  · rw [hget_cons] at hb
    split at hb
    · omega
    · have := hr.hdom b blk hb; omega
theorem Ends.own {s : St} {b sz n : Nat} {fr ex : Bool} {ty : TypeId} {rows : List (List V)} (hb : hget s.h b = some (.arr fr ex ty sz rows)) (hf : ∀ x ∈ rows, ∀ v ∈ x, Free v) {n' : Nat} {rows' : List (List V)} (hn : n = n') (hr : rows = rows') :
    ∃ v1 h' nx', Ends 0 s (.osl b sz 0 n) v1 h' nx' ∧ (v1 = .osl 0 sz 0 n' ∧ h' = [(0, some (.arr fr ex ty sz rows'))] ∧ nx' = 1) := by
  subst hn; subst hr
  exact ⟨.osl 0 sz 0 n, [(0, some (.arr fr ex ty sz rows))], 1, Ends.of (fun _ => b) [] (.osl rfl (by omega)) (LeH.of ⟨⟨by omega, .inl ⟨by simp, _, hb, .arr hf⟩⟩, trivial⟩ (by simp) (fun b hb => by omega) (by omega) (by simp)), rfl, rfl, rfl⟩
theorem callV_freeze {P : Program} {f : FuncId} {args args' : List V} {h h' : Heap} {nx : Nat} {K : V → Heap → Nat → Prop} (Z : List Nat) (hl : LeH nx h nx id nx Z h') (ha : LeL h nx id nx Z args args') (hc : CallV P f args' h' nx K) : CallV P f args h nx K :=
  ⟨hc.1, fun G w us hr hv => by
    obtain ⟨hr', he⟩ := hl.ok hr
    refine (hc.2 _ w us hr' (ha.vrs hr hv)).mono ?_
    rintro e w' ⟨u, v, h1, nx1, G1, rfl, hK, hv1, hr1, E, hle⟩
    exact ⟨u, v, h1, nx1, G1, rfl, hK, hv1, hr1, he.trans E, hle⟩⟩
end Go.Proofs.YtfaglgoanmcifaaGreat
namespace Go.Proofs.YtfaglgoanmcifaaGreat
def kOf : TypeDesc → TK
  | .int k => .int k
  | .bool => .bool
  | .string => .str
  | .slice e => .slice e
  | .pointer e => .ptr e
  | .struct fields => .struct (fields.toList.map fun f => (f.offset, f.type))
  | .array n e => .array n e
  | .func .. => .func
  | .interface .. => .iface
  | .map k e => .map k e
  | .tuple .. => .tuple
  | _ => .other
def tiOf (P : Program) (t : TypeId) : TI :=
  match P.info? t with
  | some i => match i.zero, P.underlying t with
    | some z, some d => match Nat.beq z.cells.toList.length i.size && (zAgg z == isAgg (kOf d)) with
      | true => ⟨kOf d, i.size, i.bytes, z.cells.toList, P.keyTypeAt 60 t && !P.eqGuardType P.depth t, P.keyTypeAt 60 t && P.tiled 60 t && P.keyType t && Nat.ble 60 (P.types.size + 1)⟩
      | false => default
    | _, _ => default
  | none => default
theorem kOf_ok (d : TypeDesc) : kOf d = .other ∨ DescOk (kOf d) d := by
  cases d <;> simp [kOf, DescOk]
theorem tiOf_ok (P : Program) (t : TypeId) : (∃ i z, P.info? t = some i ∧ i.size = (tiOf P t).size ∧ i.bytes = (tiOf P t).bytes ∧ i.zero = some z ∧ z.cells.toList = (tiOf P t).zero ∧ ∃ d, P.underlying t = some d ∧ DescOk (tiOf P t).k d ∧ (tiOf P t).zero.length = (tiOf P t).size ∧ zAgg z = isAgg (tiOf P t).k) ∨ (tiOf P t).k = .other := by
  unfold tiOf
  split
  · rename_i i hi
    split
    · rename_i z d hz hd
      split
      · rename_i hl
        rcases kOf_ok d with h | h
        · exact .inr h
        · simp only [Bool.and_eq_true, beq_iff_eq] at hl
          exact .inl ⟨i, z, hi, rfl, rfl, hz, rfl, d, hd, h, Nat.eq_of_beq_eq_true hl.1, hl.2⟩
      · exact .inr rfl
    · exact .inr rfl
  · exact .inr rfl
theorem tiOf_key (P : Program) (t : TypeId) (h : (tiOf P t).key = true) : P.keyTypeAt 60 t = true ∧ P.eqGuardType P.depth t = false := by
  unfold tiOf at h
  split at h
  · split at h
    · split at h
      · simpa using h
      · cases h
    · cases h
  · cases h
theorem tiOf_mkey (P : Program) (t : TypeId) (h : (tiOf P t).mkey = true) : P.keyTypeAt 60 t = true ∧ P.tiled 60 t = true ∧ P.keyType t = true ∧ 60 ≤ P.types.size + 1 := by
  unfold tiOf at h
  split at h
  · split at h
    · split at h
      · simp only [Bool.and_eq_true, Nat.ble_eq] at h
        exact ⟨h.1.1.1, h.1.1.2, h.1.2, h.2⟩
      · cases h
    · cases h
  · cases h
theorem nth_of_ge {α : Type} (d : α) : ∀ (l : List α) (i : Nat), l.length ≤ i → nth d l i = d
  | [], _, _ => rfl
  | x :: l, 0, h => by simp at h
  | x :: l, i + 1, h => by simp at h; exact nth_of_ge d l i h
theorem nth_of_lt {α : Type} (d : α) : ∀ (l : List α) (i : Nat) (h : i < l.length), nth d l i = l[i]
  | [], _, h => by simp at h
  | x :: l, 0, h => rfl
  | x :: l, i + 1, h => by simp at h; simpa [nth] using nth_of_lt d l i h
theorem tabOk_of (P : Program) (l : List TI) (n : Nat) (h : (List.range n).map (tiOf P) = l) : TabOk P (tabOf l) := by
  have hl : l.length = n := by rw [← h]; simp
  have hlt : ∀ t, t < n → tabOf l t = tiOf P t := fun t ht => by
    unfold tabOf
    rw [nth_of_lt _ _ _ (by omega)]
    simp [← h]
  have hge : ∀ t, n ≤ t → tabOf l t = default := fun t ht => by
    unfold tabOf
    rw [nth_of_ge _ _ _ (by omega)]
  refine ⟨fun t => ?_, fun t => ?_, fun t => ?_⟩ <;> rcases Nat.lt_or_ge t n with ht | ht
  · rw [hlt t ht]
    exact tiOf_ok P t
  · rw [hge t ht]
    exact .inr rfl
  · rw [hlt t ht]
    exact tiOf_key P t
  · rw [hge t ht]
    intro h
    cases h
  · rw [hlt t ht]
    exact tiOf_mkey P t
  · rw [hge t ht]
    intro h
    cases h
end Go.Proofs.YtfaglgoanmcifaaGreat
namespace Go.Proofs.YtfaglgoanmcifaaGreat
open Go.RowKit Go.ChangeShapes Go.WideShapes
def G0 (w : World) : Gh := ⟨fun _ => none, fun c => c < w.heap.size, w.heap.size⟩
theorem hr0 (w : World) (hgl : GlOk (G0 w) w) : HR (G0 w) [] 0 w :=
  ⟨fun c hc => hc, Nat.le_refl _, fun _ _ => rfl, fun b k hb => by simp [hget] at hb, fun b b' k k' c hb => by simp [hget] at hb, fun b k c hb => by simp [hget] at hb, fun b c hb => by simp [G0] at hb, fun b k hb => by simp [hget] at hb, hgl⟩
theorem kept0 {G' : Gh} {w w' : World} (h : Evo 0 (G0 w) w G' w') (may : MemPlace → Prop) : w.keptBut w' may := by
  refine ⟨h.os, h.output, fun i hi => ?_⟩
  rw [h.keep i hi]
  split
  · rename_i e1 e2; cases e1.symm.trans e2; exact ⟨rfl, rfl, rfl, fun _ _ => rfl⟩
  · rename_i e1 e2; cases e1.symm.trans e2; exact .inr ⟨rfl, rfl⟩
  · rfl
theorem same0 {G' : Gh} {w w' : World} (h : Evo 0 (G0 w) w G' w') {p : MemPlace} (hp : p.block < w.heap.size) : w.sameAt w' p := by
  cases p with
  | cell b off => exact World.cell?_of_block (h.keep b hp)
  | map b => exact h.keep b hp
section
variable {H : Type} {enc : TypeId × Value → H} {P : Program}
theorem post_same {f : Func} {s : ChangeSpec} {apart fresh handsOn again : Bool} {W W' : World} {args : Array Value} {v : Value} {ds gs : List (DataW H)} {before pa pv : List MemPlace}
    (hW : DataW.Whole enc P f.params.toList s.vars apart W args.toList ds gs before)
    (hres : ∀ (b : Nat) (sp : Nat → Bool) (hd : Bool), DataW.TrodAll enc P W' b sp hd f.resultTypes.toList (v.resultList f.resultTypes.size) (s.fn H (ds ++ gs)).results [])
    (hargs : ∀ sp : Nat → Bool, (∀ p ∈ before, sp p.block = true) → DataW.TrodAll enc P W' 0 sp true f.params.toList args.toList (s.fn H (ds ++ gs)).args pa)
    (hvars : ∀ sp : Nat → Bool, (∀ p ∈ before, sp p.block = true) → DataW.TrodVars enc P W' sp s.vars (s.fn H (ds ++ gs)).vars pv)
    (hps : before = pa ++ pv) (hk : W.keptBut W' (· ∈ before)) (hfz : ∀ b off, MemPlace.cell b off ∈ before → W'.frozen? ⟨b, off, none⟩ = W.frozen? ⟨b, off, none⟩)
    (hok : ∀ (j : Nat) (t : TypeId) (r : Value), f.resultTypes[j]? = some t → (v.resultList f.resultTypes.size)[j]? = some r → Value.okWide P W' .any 0 t r) :
    s.post enc P f apart fresh handsOn again W args v W' := by
  have hold : ∀ p ∈ before, (fun b => decide (b < W.heap.size)) p.block = true := fun p hp => by simpa using hW.lt p hp
  refine ⟨ds, gs, before, [], pa, pv, hW, hres _ _ _, hargs _ hold, hvars _ hold, World.keptBut_mono (fun p hp => ⟨hp, ?_⟩) hk, fun _ => ?_⟩
  · rw [hps, List.mem_append] at hp
    exact Or.inr hp
  · obtain ⟨_, _, _, _, _, hz, hn⟩ := hW
    refine ⟨hok, _, _, ([] ++ pa) ++ pv, ⟨[] ++ pa, pv, trodAll_append (hargs _ (fun _ _ => rfl)) (hres _ _ _), hvars _ (fun _ _ => rfl), rfl, ?_, ?_⟩, ?_⟩
    · intro b off hp
      have hb : MemPlace.cell b off ∈ before := by rw [hps]; simpa using hp
      rw [hfz b off hb]
      exact hz b off hb
    · intro ha
      have := hn ha
      rw [hps] at this
      simpa using this
    · intro p hp _
      rw [hps]
      simpa using hp
theorem trodAll_same {W W' : World} {sp : Nat → Bool} (hl : laidOutB P = true) : ∀ {ts : List TypeId} {vs : List Value} {ds : List (DataW H)} {p : List MemPlace}, (∀ t ∈ ts, P.readableRec t = true ∧ t < P.types.size) → DataW.TrodAll enc P W 0 (fun _ => true) true ts vs ds p →
    (∀ q ∈ p, W.sameAt W' q) → (∀ q ∈ p, sp q.block = true) → DataW.TrodAll enc P W' 0 sp true ts vs ds p
  | [], vs, ds, p, _, h, _, _ => by
    obtain ⟨rfl, rfl, rfl⟩ := trodAll_nil h
    exact trodAll_mk0
  | t :: ts, vs, ds, p, ht, h, h1, h2 => by
    obtain ⟨v, vs', d, ds', p', q', rfl, rfl, rfl, h3, h4⟩ := trodAll_cons h
    exact ⟨p', q', WideElems.Trod_stays hl (ht t (by simp)).1 (ht t (by simp)).2 h3 (fun q hq => h1 q (by simp [hq])) (fun q hq => h2 q (by simp [hq])), trodAll_same hl (fun t ht' => ht t (by simp [ht'])) h4 (fun q hq => h1 q (by simp [hq])) (fun q hq => h2 q (by simp [hq])), rfl⟩
theorem trodAll_len {W : World} {b : Nat} {sp : Nat → Bool} {hd : Bool} : ∀ {ts : List TypeId} {vs : List Value} {ds : List (DataW H)} {p : List MemPlace}, DataW.TrodAll enc P W b sp hd ts vs ds p → ds.length = ts.length
  | [], vs, ds, p, h => by
    obtain ⟨rfl, rfl, rfl⟩ := trodAll_nil h
    rfl
  | t :: ts, vs, ds, p, h => by
    obtain ⟨v, vs', d, ds', p', q', rfl, rfl, rfl, h3, h4⟩ := trodAll_cons h
    simp [trodAll_len h4]
end
def RepOk (P : Program) (t : TypeId) {α : Type} (cells : α → List V) : Prop :=
  ∀ {H : Type} (enc : TypeId × Value → H) (w : World) (sp : Nat → Bool) (fuel : Nat) (cs : List Value) (x : DataW H × List MemPlace), DataW.trod enc P w 0 sp true fuel t cs = some x →
    ∃ a, vrs (G0 w) w (cells a) cs ∧ ∀ u ∈ cs, u.oneCell' = true
def ArgOk (P : Program) (t : TypeId) {α : Type} (val : α → V) : Prop :=
  ∀ {H : Type} (enc : TypeId × Value → H) (W : World) (base : Nat) (v : Value) (d : DataW H) (p : List MemPlace), Value.okWide P W .any base t v → DataW.Trod enc P W 0 (fun _ => true) true t v d p → ∃ a, vr (G0 W) W (val a) v
def ArgsOk (P : Program) (ts : List TypeId) {α : Type} (vals : α → List V) : Prop :=
  ∀ {H : Type} (enc : TypeId × Value → H) (W : World) (base : Nat) (vs : List Value) (ds : List (DataW H)) (p : List MemPlace), (∀ (j : Nat) t v, ts[j]? = some t → vs[j]? = some v → Value.okWide P W .any base t v) →
    DataW.TrodAll enc P W 0 (fun _ => true) true ts vs ds p → ∃ a, vrs (G0 W) W (vals a) vs
theorem argsNil {P : Program} : ArgsOk P [] (fun _ : Unit => []) := fun enc W base vs ds p _ h => by
  obtain ⟨rfl, rfl, rfl⟩ := trodAll_nil h
  exact ⟨(), vrs.nil⟩
theorem vrs_cons {G : Gh} {w : World} {v : V} {vs : List V} {u : Value} {us : List Value} (h : vr G w v u) (h' : vrs G w vs us) : vrs G w (v :: vs) (u :: us) :=
  ⟨by simp [h'.1], fun j v' u' h1 h2 => by
    cases j with
    | zero => simp at h1 h2; subst h1; subst h2; exact h
    | succ j => exact h'.2 j v' u' (by simpa using h1) (by simpa using h2)⟩
theorem argsCons {P : Program} {t : TypeId} {ts : List TypeId} {α β : Type} {val : α → V} {vals : β → List V} (h : ArgOk P t val) (hs : ArgsOk P ts vals) : ArgsOk P (t :: ts) (fun x : α × β => val x.1 :: vals x.2) := fun enc W base vs ds p hok hp => by
  obtain ⟨v, vs', d, ds', p', q', rfl, rfl, rfl, h3, h4⟩ := trodAll_cons hp
  obtain ⟨a, ha⟩ := h enc W base v d p' (hok 0 t v rfl rfl) h3
  obtain ⟨b, hb⟩ := hs enc W base vs' ds' q' (fun j t v h1 h2 => hok (j + 1) t v (by simpa using h1) (by simpa using h2)) h4
  exact ⟨(a, b), vrs_cons ha hb⟩
theorem rep_bool {P : Program} {t : TypeId} (ht : P.underlying t = some .bool) : RepOk P t (fun b : Bool => [.bool b]) := fun enc w sp fuel cs x h => by
  obtain ⟨b, rfl, _⟩ := DataW.trod_bool ht h
  exact ⟨b, vrs_cons (.bool b) vrs.nil, by simp [Value.oneCell']⟩
theorem rep_int {P : Program} {t : TypeId} {k : IntKind} (ht : P.underlying t = some (.int k)) {α : Type} (val : α → Int) (hv : ∀ n, (Lit.int k n).wf = true → ∃ a, val a = n) : RepOk P t (fun a : α => [.int k (val a)]) := fun enc w sp fuel cs x h => by
  obtain ⟨n, rfl, _, hw⟩ := DataW.trod_int ht h
  obtain ⟨a, rfl⟩ := hv n hw
  exact ⟨a, vrs_cons (.int k _) vrs.nil, by simp [Value.oneCell']⟩
theorem rep_u8 {P : Program} {t : TypeId} (ht : P.underlying t = some (.int .u8)) : RepOk P t (fun b : UInt8 => [.int .u8 b.toNat]) :=
  rep_int ht (fun b : UInt8 => (b.toNat : Int)) fun n hw => by
    have hx : 0 ≤ n ∧ n ≤ 255 := by simpa [Lit.wf, IntKind.min, IntKind.max, IntKind.signed, IntKind.bits] using hw
    refine ⟨UInt8.ofNat n.toNat, ?_⟩
    rw [UInt8.toNat_ofNat']
    omega
theorem rep_u32 {P : Program} {t : TypeId} (ht : P.underlying t = some (.int .u32)) : RepOk P t (fun b : UInt32 => [.int .u32 b.toNat]) :=
  rep_int ht (fun b : UInt32 => (b.toNat : Int)) fun n hw => by
    have hx : 0 ≤ n ∧ n ≤ 4294967295 := by simpa [Lit.wf, IntKind.min, IntKind.max, IntKind.signed, IntKind.bits] using hw
    refine ⟨UInt32.ofNat n.toNat, ?_⟩
    rw [UInt32.toNat_ofNat']
    omega
theorem list_of {α : Type} {p : Nat → α → Prop} : ∀ {n : Nat}, (∀ i, i < n → ∃ a, p i a) → ∃ l : List α, l.length = n ∧ ∀ i a, l[i]? = some a → p i a
  | 0, _ => ⟨[], rfl, by simp⟩
  | n + 1, h => by
    obtain ⟨l, hl, hp⟩ := list_of (p := p) (n := n) (fun i hi => h i (by omega))
    obtain ⟨a, ha⟩ := h n (by omega)
    refine ⟨l ++ [a], by simp [hl], fun i x hx => ?_⟩
    by_cases hi : i < n
    · rw [List.getElem?_append_left (by omega)] at hx; exact hp i x hx
    · have hlt := (List.getElem?_eq_some_iff.1 hx).1
      have : i = n := by simp at hlt; omega
      subst this
      rw [List.getElem?_append_right (by omega), hl] at hx
      simp at hx; subst hx; exact ha
theorem rep_slice {P : Program} {t e : TypeId} {sz : Nat} (ht : P.underlying t = some (.slice e)) (hc : P.cellsOf e = sz) (hpos : 0 < sz) {α : Type} {cells : α → List V} (hl : ∀ a, (cells a).length = sz) (he : RepOk P e cells) :
    RepOk P t (fun l : List α => [.sl false sz (l.map cells)]) := fun enc w sp fuel cs x h => by
  rcases DataW.trod_slice ht h with ⟨rfl, _⟩ | ⟨ad, len, cap, elems, rest, n, _, rfl, _, hb, hlc, hcm, hlen, hel, _, _⟩
  · exact ⟨[], vrs_cons (.sl false sz [] none 0 (fun _ => undef) (Nat.le_refl _) (Nat.zero_le _) (fun h => absurd rfl h) (by simp) (by simp) (by simp)) vrs.nil, by simp [Value.oneCell']⟩
  rw [hc] at hel
  have each : ∀ i, i < len → ∃ a : α, ∃ cs, w.cells? 0 (ad.add (i * sz)) sz = some cs ∧ vrs (G0 w) w (cells a) cs ∧ ∀ u ∈ cs, u.oneCell' = true := by
    intro i hi
    have h1 := hel i hi
    rw [List.getElem?_eq_getElem (by omega), Option.bind_eq_some_iff] at h1
    obtain ⟨cs, h2, h3⟩ := h1
    obtain ⟨a, h4, h5⟩ := he enc w sp _ _ _ h3
    exact ⟨a, cs, h2, h4, h5⟩
  obtain ⟨l, hll, hp⟩ := list_of each
  have hrow : ∀ x, x ∈ l.map cells → x.length = sz := by
    intro x hx
    obtain ⟨a, _, rfl⟩ := List.mem_map.1 hx
    exact hl a
  have hfl := flatten_cells hrow
  rw [List.length_map] at hfl
  have hspot : l ≠ [] → ad.spot = none := by
    intro hne
    have h0 : 0 < l.length := List.length_pos_iff.2 hne
    obtain ⟨cs, h1, _⟩ := hp 0 _ (List.getElem?_eq_getElem h0)
    obtain ⟨_, h2, h3⟩ := World.cells?_some h1
    have h4 := h3 0 hpos
    have h5 : ((ad.add (0 * sz)).add 0) = ad := by simp [Addr.add]
    rw [h5, List.getElem?_eq_getElem (by omega)] at h4
    unfold World.cell? at h4
    split at h4
    · split at h4
      · cases h4
      · rename_i hs; simpa using hs
    · cases h4
  have key : ∀ (j : Nat) (v : V), (l.map cells).flatten[j]? = some v → ∃ u, w.cell? ⟨ad.block, ad.off + j, none⟩ = some u ∧ u.oneCell' = true ∧ vr (G0 w) w v u := by
    intro j v hv
    have hj : j < l.length * sz := by rw [← hfl]; exact (List.getElem?_eq_some_iff.1 hv).1
    have hi : j / sz < l.length := (Nat.div_lt_iff_lt_mul hpos).2 hj
    have hk : j % sz < sz := Nat.mod_lt _ hpos
    have hne : l ≠ [] := by intro e; subst e; simp at hi
    obtain ⟨cs, h1, h2, h3⟩ := hp (j / sz) _ (List.getElem?_eq_getElem hi)
    obtain ⟨_, h4, h5⟩ := World.cells?_some h1
    have hrw : (l.map cells)[j / sz]? = some (cells l[j / sz]) := by simp [hi]
    have hdm : (j / sz) * sz + j % sz = j := by rw [Nat.mul_comm]; exact Nat.div_add_mod j sz
    have hcl := hl l[j / sz]
    have hv2 := flatten_row hrow hrw (j % sz) (cells l[j / sz])[j % sz] (List.getElem?_eq_getElem (by omega))
    rw [hdm, hv] at hv2
    have hu := h5 (j % sz) hk
    rw [List.getElem?_eq_getElem (by omega)] at hu
    have hs := hspot hne
    have had : (ad.add (j / sz * sz)).add (j % sz) = ⟨ad.block, ad.off + j, none⟩ := by
      rw [add_none hs, add_none rfl]
      simp only [Addr.mk.injEq, and_true, true_and]
      omega
    rw [had] at hu
    refine ⟨cs[j % sz], hu, h3 _ (List.getElem_mem (by omega)), ?_⟩
    cases hv2
    exact h2.2 (j % sz) _ _ (List.getElem?_eq_getElem (by omega)) (List.getElem?_eq_getElem (by omega))
  refine ⟨l, vrs_cons ?_ vrs.nil, by simp [Value.oneCell']⟩
  have := VR.sl (ι := (G0 w).ι) (csz := csz w) (imm := imm (G0 w) w) false sz (l.map cells) (some ad) cap (fun j => (w.cell? ⟨ad.block, ad.off + j, none⟩).getD undef) (by simp [hll]; exact hlc) hcm (fun hne => ⟨ad, rfl, hspot (by intro e; subst e; exact hne rfl)⟩) hrow (fun j v hv ad' e => by
      cases e
      obtain ⟨u, h1, h2, h3⟩ := key j v hv
      refine ⟨by rw [h1]; exact h1, ?_, (fun h => by cases h), fun _ => by rw [h1]; exact h2⟩
      show ad.block < w.heap.size
      unfold World.cell? at h1
      split at h1
      · rename_i hb; exact (Array.getElem?_eq_some_iff.1 hb).1
      · cases h1) (fun j v hv => by
      obtain ⟨u, h1, h2, h3⟩ := key j v hv
      rw [h1]; exact h3)
  rwa [List.length_map, hll] at this
theorem field_of {H : Type} {enc : TypeId × Value → H} {P : Program} {w : World} {sp : Nat → Bool} {t : TypeId} {fs : Array Field} {fuel : Nat} {cs : List Value} {x : DataW H × List MemPlace} (ht : P.underlying t = some (.struct fs)) (h : DataW.trod enc P w 0 sp true fuel t cs = some x)
    {i : Nat} {f : Field} (hf : fs[i]? = some f) {α : Type} {cells : α → List V} (he : RepOk P f.type cells) : ∃ a, vrs (G0 w) w (cells a) ((cs.drop f.offset).take (P.cellsOf f.type)) ∧ ∀ u ∈ (cs.drop f.offset).take (P.cellsOf f.type), u.oneCell' = true := by
  obtain ⟨xs, n, rfl, _, _, hlen, hx⟩ := DataW.trod_struct ht h
  have hi := (Array.getElem?_eq_some_iff.1 hf).1
  have := hx i f hf
  rw [List.getElem?_eq_getElem (by omega)] at this
  exact he enc w sp _ _ _ this
theorem arg_struct {P : Program} {t : TypeId} {fs : Array Field} (ht : P.underlying t = some (.struct fs)) {α : Type} {cells : α → List V} (h : RepOk P t cells) : ArgOk P t (fun a => .agg (cells a)) := fun enc W base v d p hok hd => by
  obtain ⟨cs, rfl, _⟩ := okWide_struct ht hok
  obtain ⟨fuel, hf⟩ := hd
  obtain ⟨a, h1, _⟩ := h enc W _ fuel _ _ hf
  refine ⟨a, ?_⟩
  have := VR.agg (ι := (G0 W).ι) (csz := csz W) (imm := imm (G0 W) W) (cells a) cs.toList h1.1 h1.2
  simpa using this
theorem arg_one {P : Program} {t : TypeId} {α : Type} {val : α → V} (hone : ∀ W base v, Value.okWide P W .any base t v → v.cells = #[v]) (h : RepOk P t (fun a => [val a])) : ArgOk P t val := fun enc W base v d p hok hd => by
  obtain ⟨fuel, hf⟩ := hd
  rw [hone W base v hok] at hf
  obtain ⟨a, h1, _⟩ := h enc W _ fuel _ _ hf
  exact ⟨a, h1.2 0 _ _ rfl rfl⟩
theorem arg_int {P : Program} {t : TypeId} {k : IntKind} (ht : P.underlying t = some (.int k)) {α : Type} {val : α → V} (h : RepOk P t (fun a => [val a])) : ArgOk P t val :=
  arg_one (fun W base v hok => by obtain ⟨n, rfl⟩ := okWide_int ht hok; rfl) h
theorem law_of {H : Type} {enc : TypeId × Value → H} {P : Program} {f : FuncId} {fn : Func} {s : ChangeSpec} {apart fresh handsOn again : Bool} {ts : List TypeId} {tb : TypeId} (hts : fn.params.toList = ts) (hr : fn.resultTypes = #[tb]) (htb : P.underlying tb = some .bool)
    (hlaid : laidOutB P = true) (hread : ∀ t ∈ ts, P.readableRec t = true ∧ t < P.types.size) (hv : s.vars = []) (hspec : ∀ ds : List (DataW H), ds.length = ts.length → s.fn H ds = { results := [.lit (.bool true)], args := ds })
    {α : Type} {vals : α → List V} (hrep : ArgsOk P ts vals) (hc : ∀ a, PCon P f (vals a) (.bool true)) (hbody : (P.funcs[f]?.map (·.body.isSome)) = some true) {W : World} {base : Nat} {args : Array Value} {ds gs : List (DataW H)} {before : List MemPlace}
    (hval : ∀ (j : Nat) t v, fn.params[j]? = some t → args[j]? = some v → Value.okWide P W .any base t v) (hW : DataW.Whole enc P fn.params.toList s.vars apart W args.toList ds gs before) (hgl : GlOk (G0 W) W := by exact fun p hp => nomatch (show p ∈ ([] : List (Nat × (Obj → Prop))) from hp)) :
    Calls P f args W fun e W' => ∃ v, e = .returned v ∧ s.post enc P fn apart fresh handsOn again W args v W' := by
  have hW' := hW
  obtain ⟨p, q, hA0, hV, rfl, hfz, hnd⟩ := hW
  rw [hts] at hA0
  rw [hv] at hV
  obtain ⟨rfl, rfl⟩ := trodVars_none hV
  obtain ⟨a, ha⟩ := hrep enc W base args.toList ds p (fun j t v h1 h2 => hval j t v (by rw [← hts] at h1; simpa using h1) (by simpa using h2)) hA0
  have hcall := (hc a).2 (G0 W) W args.toList (hr0 W hgl) ha
  rw [Array.toArray_toList] at hcall
  replace hcall := hcall.calls hbody
  refine hcall.mono ?_
  rintro e W' ⟨u, v, h', nx', G', rfl, ⟨rfl, rfl, rfl⟩, hvu, hr', E, _⟩
  obtain rfl := VR.bool_iff.1 hvu
  have hlen := trodAll_len hA0
  have hlt := hW'.lt
  refine ⟨_, rfl, post_same (pa := p) (pv := []) hW' (fun b sp hd => ?_) (fun sp hsp => ?_) (fun sp hsp => ?_) rfl (kept0 E _) (fun b off hb => ?_) (ok_one hr rfl (okWide_bool_mk htb _))⟩
  · rw [List.append_nil, hspec ds hlen, hr]
    exact ⟨[], [], shut_bool htb true, trodAll_mk0, rfl⟩
  · rw [List.append_nil, hspec ds hlen, hts]
    exact trodAll_same hlaid hread hA0 (fun q hq => same0 E (hlt q (by simpa using hq))) (fun q hq => hsp q (by simpa using hq))
  · rw [List.append_nil, hspec ds hlen, hv]
    rfl
  · have := E.keep b (hlt _ hb)
    simp only [World.frozen?, this]
end Go.Proofs.YtfaglgoanmcifaaGreat
namespace Go.Proofs.YtfaglgoanmcifaaGreat
open Go.RowKit
theorem CallV.ends {P : Program} {f : FuncId} {args : List V} {h : Heap} {nx : Nat} {R R' : V → Heap → Nat → Prop} (hc : CallV P f args h nx R) (hr : ∀ v h' nx', R v h' nx' → ∃ v1 h1 nx1, Ends nx ⟨[], h', nx'⟩ v v1 h1 nx1 ∧ R' v1 h1 nx1) : CallV P f args h nx R' :=
  ⟨hc.1, fun G w us hh hv => (hc.2 G w us hh hv).mono fun e w' ⟨u, v, h', nx', G', h1, h2, h3, h4, h5, h6⟩ => by
    obtain ⟨v1, h1', nx1, he, hR⟩ := hr v h' nx' h2
    obtain ⟨G2, g1, g2, g3, g4⟩ := he G' w' u h4 h6 h3
    exact ⟨u, v1, h1', nx1, G2, h1, hR, g2, g1, h5.trans g3, g4⟩⟩
theorem PCon.of_own {P : Program} {f : FuncId} {args : List V} {fr ex : Bool} {ty : TypeId} {sz n : Nat} {rows : List (List V)} (hc : OCon P f args fr ex ty sz n rows) (hn : n ≤ rows.length) (hf : ∀ x ∈ rows, ∀ v ∈ x, Free v) : PCon P f args (.sl fr sz (rows.take n)) :=
  hc.ends fun v h' nx' ⟨e1, e2, e3⟩ => by
    subst e1 e2 e3
    exact Ends.pure (s := ⟨[], [(0, some (.arr fr ex ty sz rows))], 1⟩) [0] (LeV.freeze_of (by simp) rfl (by omega) hf (by simp)) (by intro z hz; simp at hz; subst hz; simp [hget])
theorem callV_open {P : Program} {f : FuncId} {args : List V} {h : Heap} {nx b : Nat} {fr ex : Bool} {ty : TypeId} {sz : Nat} {rows : List (List V)} {K : V → Heap → Nat → Prop} (hb : hget h b = some (.arr fr ex ty sz rows)) (hpos : 0 < sz) (hne : rows ≠ [])
    (i : Nat) {row n : Nat} (ha : args[i]? = some (.osl b sz row n)) (hn : 0 < n)
    (hc : ∀ k, CallV P f args ((b, some (.arr fr true ty sz (rows ++ List.replicate k (List.replicate sz .any)))) :: h) nx K) : CallV P f args h nx K := by
  refine ⟨(hc 0).1, fun G w us hr hv => ?_⟩
  obtain ⟨m, hm⟩ : ∃ m, ∀ c cs ty', G.ι b = some c → w.heap[c]? = some (.cells cs ty' (0, 0)) → cs.size = m * sz := by
    have hi : i < us.length := by rw [← hv.1]; exact (List.getElem?_eq_some_iff.1 ha).1
    have hx := hv.2 i _ us[i] ha (List.getElem?_eq_getElem hi)
    generalize us[i] = u at hx
    cases hx with
    | osl _ _ _ _ c cap m hc hz he h1 h2 =>
      refine ⟨row + cap, fun c' cs ty' hc' hh => ?_⟩
      rw [hc] at hc'; cases hc'
      have : csz w c = some cs.size := by unfold csz; rw [hh]
      rw [this] at hz
      cases hz
      exact he.symm
    | oslz => omega
  obtain ⟨hs, hown⟩ := hr.own b _ hb
  rcases hown with ⟨_, h0⟩ | ⟨c, cs, h1, h2, h3, h4, h5, h6, h7⟩
  · exact absurd h0 hne
  have hfl := flatten_cells hs
  have hsz := hm c cs ty h1 h2
  rw [hfl, hsz] at h3
  have hle : rows.length ≤ m := Nat.le_of_mul_le_mul_right h3 hpos
  refine (hc (m - rows.length)).2 G w us ⟨hr.amb_lt, hr.B_le, hr.dom, fun b' blk hb' => ?_, fun b1 b2 k1 k2 c' g1 g2 => ?_, fun b' k c' g1 => ?_, hr.lt, fun b' k g1 => ?_, hr.gl⟩ hv
  · rw [hget_cons] at hb'
    split at hb'
    · rename_i e
      subst e; cases hb'
      have hrow : ∀ x, x ∈ rows ++ List.replicate (m - rows.length) (List.replicate sz V.any) → x.length = sz := by
        intro x hx
        rcases List.mem_append.1 hx with hx | hx
        · exact hs x hx
        · rw [List.eq_of_mem_replicate hx, List.length_replicate]
      have hlen : (rows ++ List.replicate (m - rows.length) (List.replicate sz V.any)).flatten.length = cs.size := by
        rw [flatten_cells hrow, hsz, List.length_append, List.length_replicate]
        congr 1
        omega
      refine ⟨hrow, .inr ⟨c, cs, h1, h2, Nat.le_of_eq hlen, fun _ => hlen, h5, fun j v hj => ?_, h7⟩⟩
      rcases Nat.lt_or_ge j rows.flatten.length with hj1 | hj1
      · rw [List.flatten_append, List.getElem?_append_left hj1] at hj
        exact h6 j v hj
      · have hlt := (List.getElem?_eq_some_iff.1 hj).1
        rw [hlen] at hlt
        refine ⟨cs[j], Array.getElem?_eq_getElem hlt, h7 j _ (Array.getElem?_eq_getElem hlt), ?_⟩
        rw [List.flatten_append, List.getElem?_append_right hj1] at hj
        obtain ⟨x, hx, hvx⟩ := List.mem_flatten.1 (List.mem_of_getElem? hj)
        rw [List.eq_of_mem_replicate hx] at hvx
        rw [List.eq_of_mem_replicate hvx]
        exact .any _
    · exact hr.own b' blk hb'
  · have live : ∀ {b' k}, hget ((b, some (.arr fr true ty sz (rows ++ List.replicate (m - rows.length) (List.replicate sz .any)))) :: h) b' = some k → ∃ k', hget h b' = some k' := by
      intro b' k hk
      rw [hget_cons] at hk
      split at hk
      · rename_i e; subst e; exact ⟨_, hb⟩
      · exact ⟨k, hk⟩
    obtain ⟨_, q1⟩ := live g1
    obtain ⟨_, q2⟩ := live g2
    exact hr.inj b1 b2 _ _ c' q1 q2
  · rw [hget_cons] at g1
    split at g1
    · rename_i e; subst e; exact hr.apart b _ c' hb
    · exact hr.apart b' k c' g1
  · rw [hget_cons] at g1
    split at g1
    · rename_i e; subst e; exact hr.hdom b _ hb
    · exact hr.hdom b' k g1
def VCon (P : Program) (f : FuncId) (args : List V) (val : Nat → V) (blk : Blk) : Prop := CallV P f args [] 0 (fun v h' nx' => v = val 0 ∧ h' = [(0, some blk)] ∧ nx' = 1)
def Mov (val : Nat → V) : Prop := ∀ (ι ι' z : Nat → Option Nat) (im im' : Bool → Addr → Value → Prop) (b : Nat) (u : Value), ι' b = ι 0 → (∀ a u, im true a u → im' true a u) → VR ι z im (val 0) u → VR ι' z im' (val b) u
theorem Mov.const {v : V} (h1 : Free v) (h2 : Fresh v) : Mov (fun _ => v) := fun ι ι' z im im' b u _ hi hv => h1 _ _ _ _ _ (h2 _ _ _ _ _ hi hv)
theorem Mov.osl {sz row n : Nat} : Mov (fun b => .osl b sz row n) := fun ι ι' z im im' b u hb hi hv => by
  cases hv with
  | osl _ _ _ _ c cap m hc hz he h1 h2 => exact .osl _ _ _ _ c cap m (hb.trans hc) hz he h1 h2
  | oslz _ _ _ A => exact .oslz _ _ _ A
theorem Mov.agg {cs : List (Nat → V)} (h : ∀ c ∈ cs, Mov c) : Mov (fun b => .agg (cs.map (fun c => c b))) := fun ι ι' z im im' b u hb hi hv => by
  have hv : VR ι z im (.agg (cs.map fun c => c 0)) u := hv
  show VR ι' z im' (.agg (cs.map fun c => c b)) u
  cases hv with
  | agg _ us hl h1 =>
    refine .agg _ us (by simpa using hl) fun j v u hj hu => ?_
    rw [List.getElem?_map] at hj
    obtain ⟨c, hc, rfl⟩ := Option.map_eq_some_iff.1 hj
    exact h c (List.mem_of_getElem? hc) _ _ _ _ _ _ _ hb hi (h1 j (c 0) u (by rw [List.getElem?_map, hc]; rfl) hu)
theorem Mov.tup {cs : List (Nat → V)} (h : ∀ c ∈ cs, Mov c) : Mov (fun b => .tup (cs.map (fun c => c b))) := fun ι ι' z im im' b u hb hi hv => by
  have hv : VR ι z im (.tup (cs.map fun c => c 0)) u := hv
  show VR ι' z im' (.tup (cs.map fun c => c b)) u
  cases hv with
  | tup _ us hl h1 =>
    refine .tup _ us (by simpa using hl) fun j v u hj hu => ?_
    rw [List.getElem?_map] at hj
    obtain ⟨c, hc, rfl⟩ := Option.map_eq_some_iff.1 hj
    exact h c (List.mem_of_getElem? hc) _ _ _ _ _ _ _ hb hi (h1 j (c 0) u (by rw [List.getElem?_map, hc]; rfl) hu)
theorem callV_vown {P : Program} {f : FuncId} {args args0 : List V} {val : Nat → V} {h : Heap} {nx sz : Nat} {fr ex : Bool} {ty : TypeId} {rows : List (List V)} {K : V → Heap → Nat → Prop} (Z : List Nat) (hc : VCon P f args0 val (.arr fr ex ty sz rows))
    (ha : LeL h nx id 0 Z args args0) (hcold : ∀ v ∈ args0, Cold v) (hz : ∀ z ∈ Z, hget h z ≠ none) (hrows : ∀ x ∈ rows, ∀ v ∈ x, Free v ∧ Fresh v)
    (hmov : Mov val) (hK : K (val nx) ((nx, some (.arr fr ex ty sz rows)) :: h) (nx + 1)) : CallV P f args h nx K := by
  refine ⟨hc.1, fun G w us hr hv => ?_⟩
  have hl : LeH 0 h nx id 0 Z [] := ⟨fun b blk hb => by simp [hget] at hb, fun b b' hb => by simp [hget] at hb, fun b hb => by omega, Nat.le_refl _, hz⟩
  obtain ⟨hr0, _⟩ := hl.ok hr
  have hr0' : HR ⟨(G.to id 0 Z).ι, (G.to id 0 Z).amb, w.heap.size⟩ [] 0 w := ⟨hr0.amb_lt, Nat.le_refl _, hr0.dom, fun b blk hb => by simp [hget] at hb, fun b b' k k' c hb => by simp [hget] at hb, fun b k c hb => by simp [hget] at hb, hr0.lt, fun b k hb => by simp [hget] at hb, hr0.gl.to (fun _ h => h) (fun _ _ => rfl)⟩
  have hva : vrs ⟨(G.to id 0 Z).ι, (G.to id 0 Z).amb, w.heap.size⟩ w args0 us := by
    have := ha.vrs hr hv
    exact ⟨this.1, fun j v u hj hu => hcold v (List.mem_of_getElem? hj) _ _ _ _ _ (fun a u hi => ⟨hi.1, hi.2.1, (fun h => by cases h), hi.2.2.2⟩) (this.2 j v u hj hu)⟩
  refine (hc.2 _ w us hr0' hva).mono ?_
  rintro e w' ⟨u, v, h', nx', G1, rfl, ⟨rfl, rfl, rfl⟩, hv1, hr1, E, _⟩
  have hn0 : ∀ b, (G.to id 0 Z).ι b = none := fun b => by simp [Gh.to]
  have hB : G1.B = w.heap.size := E.B
  have hnew : ∀ b c, G1.ι b = some c → w.heap.size ≤ c := by
    intro b c hb
    rcases Nat.lt_or_ge c w.heap.size with h1 | h1
    · obtain ⟨b', hb'⟩ := E.idn b c hb h1
      rw [show (Gh.mk (G.to id 0 Z).ι (G.to id 0 Z).amb w.heap.size).ι b' = none from hn0 b'] at hb'; cases hb'
    · exact h1
  have hi : G.ι nx = none := hr.dom nx (Nat.le_refl _)
  let G' : Gh := ⟨fun b => if b = nx then G1.ι 0 else G.ι b, fun c => G.amb c ∨ (G1.amb c ∧ w.heap.size ≤ c), G.B⟩
  have hιn : G'.ι nx = G1.ι 0 := by simp [G']
  have hιo : ∀ b, b ≠ nx → G'.ι b = G.ι b := fun b hb => by simp [G', hb]
  have he : EvoA G w G' w' := fun base => ⟨E.os, E.tape, E.output, E.size, rfl, fun c hc => .inl hc, fun c hc => E.keep c (.inl hc), E.csz, fun b c _ hc => by
      by_cases e : b = nx
      · subst e; rw [hi] at hc; cases hc
      · rw [hιo b e]; exact hc, fun c hc _ => E.keepu c hc (fun b => by simp [hn0]),
    fun c hc hlt => .inl (hc.resolve_right (fun h => by omega)), fun b c hc hlt => by
      by_cases e : b = nx
      · subst e; rw [hιn] at hc; have := hnew 0 c hc; omega
      · rw [hιo b e] at hc; exact ⟨b, hc⟩⟩
  have toG : ∀ {v : V} {u : Value}, Free v ∧ Fresh v → vr G1 w' v u → vr G' w' v u := fun hf hv => by
    refine hf.1 _ _ _ _ _ (hf.2 _ _ _ (imm G' w') _ (fun a u hi => ?_) hv)
    have h3 := hi.2.2.1 rfl
    rw [hB] at h3
    exact ⟨hi.1, .inr ⟨hi.2.1, h3.1⟩, fun _ => ⟨Nat.le_trans hr.B_le h3.1, h3.2⟩, hi.2.2.2⟩
  refine ⟨u, _, _, nx + 1, G', rfl, hK, ?_, ⟨fun c hc => ?_, Nat.le_trans hr.B_le E.size, fun b hb => ?_, fun b blk hb => ?_, fun b1 b2 k1 k2 c h1 h2 h3 h4 => ?_, fun b blk c hb hc ha => ?_, fun b c hc => ?_, fun b blk hb => ?_, hr.gl.evo (he 0)⟩, he nx, Nat.le_succ _⟩
  · refine hmov _ _ _ _ _ nx u hιn (fun a u hi => ?_) hv1
    have h3 := hi.2.2.1 rfl
    rw [hB] at h3
    exact ⟨hi.1, .inr ⟨hi.2.1, h3.1⟩, fun _ => ⟨Nat.le_trans hr.B_le h3.1, h3.2⟩, hi.2.2.2⟩
  · rcases hc with hc | hc
    · exact Nat.lt_of_lt_of_le (hr.amb_lt c hc) E.size
    · exact hr1.amb_lt c hc.1
  · rw [hιo b (by omega)]; exact hr.dom b (by omega)
  · rw [hget_cons] at hb
    split at hb
    · rename_i e
      subst e; cases hb
      obtain ⟨q1, q2⟩ : BlkOk G1 w' 0 (.arr fr ex ty sz rows) := hr1.own 0 _ (by simp [hget])
      refine ⟨q1, ?_⟩
      rcases q2 with ⟨q2, q3⟩ | ⟨c, cs, e1, e2, e3, e4, e5, e6, e7⟩
      · exact .inl ⟨by rw [hιn]; exact q2, q3⟩
      · refine .inr ⟨c, cs, by rw [hιn]; exact e1, e2, e3, e4, fun hf => Nat.le_trans hr.B_le (hnew 0 c e1), fun j v hj => ?_, e7⟩
        obtain ⟨u, hu, h1, hvr⟩ := e6 j v hj
        obtain ⟨x, hx, hvx⟩ := List.mem_flatten.1 (List.mem_of_getElem? hj)
        exact ⟨u, hu, h1, toG (hrows x hx v hvx) hvr⟩
    · rename_i e
      exact (hr.own b blk hb).keep he (fun c hc => E.keepu c (hr.lt b c hc) (fun b => by simp [hn0])) (fun hn => by rw [hιo b (Ne.symm e)]; exact hn)
  · rw [hget_cons] at h1 h2
    by_cases e1 : b1 = nx <;> by_cases e2 : b2 = nx
    · omega
    · subst e1
      rw [hιn] at h3; rw [hιo b2 e2] at h4
      have := hnew 0 c h3
      have := hr.lt b2 c h4
      omega
    · subst e2
      rw [hιn] at h4; rw [hιo b1 e1] at h3
      have := hnew 0 c h4
      have := hr.lt b1 c h3
      omega
    · rw [if_neg (Ne.symm e1)] at h1; rw [if_neg (Ne.symm e2)] at h2
      rw [hιo b1 e1] at h3; rw [hιo b2 e2] at h4
      exact hr.inj b1 b2 k1 k2 c h1 h2 h3 h4
  · by_cases e : b = nx
    · subst e
      rw [hιn] at hc
      have hge := hnew 0 c hc
      rcases ha with ha | ha
      · have := hr.amb_lt c ha; omega
      · exact hr1.apart 0 (.arr fr ex ty sz rows) c (by simp [hget]) hc ha.1
    · rw [hιo b e] at hc
      rw [hget_cons, if_neg (Ne.symm e)] at hb
      have := hr.lt b c hc
      rcases ha with ha | ha
      · exact hr.apart b blk c hb hc ha
      · omega
  · by_cases e : b = nx
    · subst e; rw [hιn] at hc; exact hr1.lt 0 c hc
    · rw [hιo b e] at hc; exact Nat.lt_of_lt_of_le (hr.lt b c hc) E.size
  · rw [hget_cons] at hb
    split at hb
    · omega
    · have := hr.hdom b blk hb; omega
theorem callV_own0 {P : Program} {f : FuncId} {args args0 : List V} {h : Heap} {nx n sz : Nat} {fr ex : Bool} {ty : TypeId} {rows : List (List V)} {K : V → Heap → Nat → Prop} (hc : OCon P f args0 fr ex ty sz n rows)
    (ha : LeL h nx id 0 [] args args0) (hrows : ∀ x ∈ rows, ∀ v ∈ x, Free v)
    (hK : K (.osl nx sz 0 n) ((nx, some (.arr fr ex ty sz rows)) :: h) (nx + 1)) : CallV P f args h nx K := by
  refine ⟨hc.1, fun G w us hr hv => ?_⟩
  have hl : LeH 0 h nx id 0 [] [] := ⟨fun b blk hb => by simp [hget] at hb, fun b b' hb => by simp [hget] at hb, fun b hb => by omega, Nat.le_refl _, by simp⟩
  obtain ⟨hr0, _⟩ := hl.ok hr
  refine (hc.2 _ w us hr0 (ha.vrs hr hv)).mono ?_
  rintro e w' ⟨u, v, h', nx', G1, rfl, ⟨rfl, rfl, rfl⟩, hv1, hr1, E, _⟩
  have hn0 : ∀ b, (G.to id 0 []).ι b = none := fun b => by simp [Gh.to]
  have hB : G1.B = G.B := E.B
  have hnew : ∀ b c, G1.ι b = some c → w.heap.size ≤ c := by
    intro b c hb
    rcases Nat.lt_or_ge c w.heap.size with h1 | h1
    · obtain ⟨b', hb'⟩ := E.idn b c hb h1
      rw [hn0] at hb'; cases hb'
    · exact h1
  have ham : ∀ c, G1.amb c → c < w.heap.size → G.amb c := by
    intro c hc hlt
    rcases E.ambn c hc hlt with (h1 | ⟨_, h1, _⟩) | ⟨b, h1⟩
    · exact h1
    · simp at h1
    · rw [hn0] at h1; cases h1
  have hi : G.ι nx = none := hr.dom nx (Nat.le_refl _)
  let G' : Gh := ⟨fun b => if b = nx then G1.ι 0 else G.ι b, G1.amb, G.B⟩
  have hιn : G'.ι nx = G1.ι 0 := by simp [G']
  have hιo : ∀ b, b ≠ nx → G'.ι b = G.ι b := fun b hb => by simp [G', hb]
  have he : EvoA G w G' w' := fun base => ⟨E.os, E.tape, E.output, E.size, rfl, fun c hc => E.amb c (.inl hc), fun c hc => E.keep c (.inl hc), E.csz, fun b c _ hc => by
      by_cases e : b = nx
      · subst e; rw [hi] at hc; cases hc
      · rw [hιo b e]; exact hc, fun c hc _ => E.keepu c hc (fun b => by rw [hn0]; simp),
    fun c hc hlt => .inl (ham c hc hlt), fun b c hc hlt => by
      by_cases e : b = nx
      · subst e; rw [hιn] at hc; have := hnew 0 c hc; omega
      · rw [hιo b e] at hc; exact ⟨b, hc⟩⟩
  have toG : ∀ {v : V} {u : Value}, Free v → vr G1 w' v u → vr G' w' v u := fun hf hv =>
    hf _ _ _ _ _ (VR.mono (ι := G1.ι) (ι' := G1.ι) (imm := imm G1 w') (imm' := imm G' w') (fun _ _ h => h) (fun _ _ h => h) (fun fr a u hi => ⟨hi.1, hi.2.1, fun hf => by have := hi.2.2.1 hf; rw [hB] at this; exact this, hi.2.2.2⟩) hv)
  refine ⟨u, _, _, nx + 1, G', rfl, hK, ?_, ⟨hr1.amb_lt, Nat.le_trans hr.B_le E.size, fun b hb => ?_, fun b blk hb => ?_, fun b1 b2 k1 k2 c h1 h2 h3 h4 => ?_, fun b blk c hb hc ha => ?_, fun b c hc => ?_, fun b blk hb => ?_, hr.gl.evo (he 0)⟩, he nx, Nat.le_succ _⟩
  · cases hv1 with
    | osl _ _ _ _ c cap m hc hz he h1 h2 => exact .osl _ _ _ _ c cap m (by rw [hιn]; exact hc) hz he h1 h2
    | oslz _ _ _ A => exact .oslz _ _ _ A
  · rw [hιo b (by omega)]; exact hr.dom b (by omega)
  · rw [hget_cons] at hb
    split at hb
    · rename_i e
      subst e; cases hb
      obtain ⟨q1, q2⟩ : BlkOk G1 w' 0 (.arr fr ex ty sz rows) := hr1.own 0 _ (by simp [hget])
      refine ⟨q1, ?_⟩
      rcases q2 with ⟨q2, q3⟩ | ⟨c, cs, e1, e2, e3, e4, e5, e6, e7⟩
      · exact .inl ⟨by rw [hιn]; exact q2, q3⟩
      · refine .inr ⟨c, cs, by rw [hιn]; exact e1, e2, e3, e4, fun hf => Nat.le_trans hr.B_le (hnew 0 c e1), fun j v hj => ?_, e7⟩
        obtain ⟨u, hu, h1, hvr⟩ := e6 j v hj
        obtain ⟨x, hx, hvx⟩ := List.mem_flatten.1 (List.mem_of_getElem? hj)
        exact ⟨u, hu, h1, toG (hrows x hx v hvx) hvr⟩
    · rename_i e
      exact (hr.own b blk hb).keep he (fun c hc => E.keepu c (hr.lt b c hc) (fun b => by rw [hn0]; simp)) (fun hn => by rw [hιo b (Ne.symm e)]; exact hn)
  · rw [hget_cons] at h1 h2
    by_cases e1 : b1 = nx <;> by_cases e2 : b2 = nx
    · omega
    · subst e1
      rw [hιn] at h3; rw [hιo b2 e2] at h4
      have := hnew 0 c h3
      have := hr.lt b2 c h4
      omega
    · subst e2
      rw [hιn] at h4; rw [hιo b1 e1] at h3
      have := hnew 0 c h4
      have := hr.lt b1 c h3
      omega
    · rw [if_neg (Ne.symm e1)] at h1; rw [if_neg (Ne.symm e2)] at h2
      rw [hιo b1 e1] at h3; rw [hιo b2 e2] at h4
      exact hr.inj b1 b2 k1 k2 c h1 h2 h3 h4
  · by_cases e : b = nx
    · subst e
      rw [hιn] at hc
      exact hr1.apart 0 (.arr fr ex ty sz rows) c (by simp [hget]) hc ha
    · rw [hιo b e] at hc
      rw [hget_cons, if_neg (Ne.symm e)] at hb
      exact hr.apart b blk c hb hc (ham c ha (hr.lt b c hc))
  · by_cases e : b = nx
    · subst e; rw [hιn] at hc; exact hr1.lt 0 c hc
    · rw [hιo b e] at hc; exact Nat.lt_of_lt_of_le (hr.lt b c hc) E.size
  · rw [hget_cons] at hb
    split at hb
    · omega
    · have := hr.hdom b blk hb; omega
end Go.Proofs.YtfaglgoanmcifaaGreat
namespace Go.Proofs.YtfaglgoanmcifaaGreat
open Go.RowKit
theorem overlaps_zero {P : Program} {T : Tab} (hT : TabOk P T) {t r e : TypeId} (hk : (T t).k = .slice e) (ht : (T e).k ≠ .other) (w : World) (A B : Option Addr) (la ca lb cb : Nat) (h : la = 0 ∨ lb = 0) :
    (Extern.SlicesOverlaps.overlaps #[t, t] #[r] #[.slice A la ca, .slice B lb cb]).run P w = .ok (.bool false) w := by
  obtain ⟨_, _, d, _, _, _, _, _, h6, h7⟩ := hT.at (t := t) (by rw [hk]; simp)
  rw [hk, DescOk] at h7
  subst h7
  have h0 : la = 0 ∨ lb = 0 ∨ (T e).size = 0 := by rcases h with h | h <;> simp [h]
  change Sem.run P (α := Value) (do
    let some t := (#[t, t] : Array TypeId)[0]? | stuck "slices.overlaps: no parameter types"
    let .slice elem ← underlying t | stuck "slices.overlaps: slice type expected"
    let size ← sizeOf elem
    match A, B with
    | some a, some b =>
      if la = 0 ∨ lb = 0 ∨ size = 0 then pure (Value.bool false)
      else if a.block != b.block && (← frozen a) && (← frozen b) then unsupported .addressObserved
      else do
        if a.block != b.block then do
          noView a; noView b
          if ← mayBeOne a b then return Value.bool ((← choose (.extern "sameAddr.stringBytes" 2)) == 1)
        pure (Value.bool (a.block == b.block && a.off < b.off + lb * size && b.off < a.off + la * size))
    | _, _ => pure (Value.bool false)) w = _
  rcases A with _ | a <;> rcases B with _ | b <;> simp [run_underlying h6, hT.sizeOf ht, h0]
theorem callV_overlaps {P : Program} {T : Tab} (hT : TabOk P T) {f : FuncId} {fn : Func} {t r e : TypeId} (hk : (T t).k = .slice e) (ht : (T e).k ≠ .other) (hpos : 0 < (T e).size) (hf : P.funcs[f]? = some fn) (hname : (fn.name == "runtime.NumGoroutine") = false) (hb : fn.body.isNone = true)
    (hn : Extern.findNext fn = none) (he : Extern.find fn = some (Extern.SlicesOverlaps.overlaps #[t, t] #[r])) {h : Heap} {nx b1 b2 r1 r2 n1 n2 : Nat} {fr1 ex1 fr2 ex2 : Bool} {ty1 ty2 s1 s2 : Nat} {rows1 rows2 : List (List V)} {K : V → Heap → Nat → Prop}
    (h1 : hget h b1 = some (.arr fr1 ex1 ty1 s1 rows1)) (h2 : hget h b2 = some (.arr fr2 ex2 ty2 s2 rows2)) (hne : b1 ≠ b2) (hK : K (.bool false) h nx) :
    CallV P f [.osl b1 (T e).size r1 n1, .osl b2 (T e).size r2 n2] h nx K := by
  refine ⟨⟨fn, hf⟩, fun G w us hr hv => .inr ⟨⟨fn, hf, by cases hbb : fn.body <;> simp [hbb] at hb ⊢⟩, .bool false, w, ?_, .bool false, .bool false, h, nx, G, rfl, hK, .bool _, hr, Evo.refl _ _ _, Nat.le_refl _⟩⟩
  obtain ⟨hl, hv⟩ := hv
  match us, hl with
  | [u1, u2], _ =>
    have v1 := hv 0 _ u1 rfl rfl
    have v2 := hv 1 _ u2 rfl rfl
    rw [run_callFunc_extern hf hname hb hn he]
    have key : (Extern.SlicesOverlaps.overlaps #[t, t] #[r] #[u1, u2]).run P w = .ok (.bool false) w := by
      cases v1 with
      | oslz _ _ _ A =>
        cases v2 with
        | oslz _ _ _ B => exact overlaps_zero hT hk ht w _ _ _ _ _ _ (.inl rfl)
        | osl _ _ _ _ c2 cap2 m2 hc2 hz2 he2 hn2 hm2 => exact overlaps_zero hT hk ht w _ _ _ _ _ _ (.inl rfl)
      | osl _ _ _ _ c1 cap1 m1 hc1 hz1 he1 hn1 hm1 =>
        cases v2 with
        | oslz _ _ _ B => exact overlaps_zero hT hk ht w _ _ _ _ _ _ (.inr rfl)
        | osl _ _ _ _ c2 cap2 m2 hc2 hz2 he2 hn2 hm2 =>
          by_cases h0 : n1 = 0 ∨ n2 = 0
          · exact overlaps_zero hT hk ht w _ _ _ _ _ _ h0
          obtain ⟨_, _, d, _, _, _, _, _, h6, h7⟩ := hT.at (t := t) (by rw [hk]; simp)
          rw [hk, DescOk] at h7
          subst h7
          have hcc : c1 ≠ c2 := by
            rintro rfl
            exact hne (hr.inj b1 b2 _ _ c1 h1 h2 hc1 hc2)
          obtain ⟨_, o1⟩ := hr.own b1 _ h1
          obtain ⟨_, o2⟩ := hr.own b2 _ h2
          rcases o1 with ⟨q, _⟩ | ⟨c1', cs1, q1, hh1, _⟩
          · rw [q] at hc1; cases hc1
          rw [hc1] at q1; cases q1
          rcases o2 with ⟨q, _⟩ | ⟨c2', cs2, q2, hh2, _⟩
          · rw [q] at hc2; cases hc2
          rw [hc2] at q2; cases q2
          have e2 : cs2.size = m2 := by
            have : csz w c2 = some cs2.size := by unfold csz; rw [hh2]
            rw [this] at hz2; exact Option.some.inj hz2
          have hkB : cs2.size ≠ 0 := by
            rw [e2, ← he2]
            have : 0 < (r2 + cap2) * (T e).size := Nat.mul_pos (by omega) hpos
            omega
          exact Lib.run_overlaps_apart w t r e h6 (T e).size (fun w => hT.sizeOf ht w) _ _ n1 cap1 n2 cap2 hcc ty1 ty2 cs1.size cs2.size (by simp [World.shape?, hh1]) (by simp [World.shape?, hh2]) hkB (by simp [World.frozen?, hh1]) (by simp [World.frozen?, hh1])
    rw [key]; rfl
end Go.Proofs.YtfaglgoanmcifaaGreat
namespace Go.Proofs.YtfaglgoanmcifaaGreat
open Go.RowKit
section
variable {h : Heap} {nx nx' : Nat} {ρ : Nat → Nat} {Z : List Nat}
def LeR (h : Heap) (nx : Nat) (ρ : Nat → Nat) (nx' : Nat) (Z : List Nat) : List (List V) → List (List V) → Prop
  | [], [] => True
  | x :: r, y :: r' => LeL h nx ρ nx' Z x y ∧ LeR h nx ρ nx' Z r r'
  | _, _ => False
theorem LeR.out : ∀ {xs ys : List (List V)}, LeR h nx ρ nx' Z xs ys → xs.map List.length = ys.map List.length ∧ ∀ (j : Nat) (v v' : V), xs.flatten[j]? = some v → ys.flatten[j]? = some v' → LeV h nx ρ nx' Z v v'
  | [], [], _ => ⟨rfl, by simp⟩
  | x :: r, y :: r', hh => by
    obtain ⟨h1, h2⟩ := LeR.out hh.2
    have hx := LeL.out hh.1
    refine ⟨by simp [h1, hx.1], fun j a b ha hb => ?_⟩
    rw [List.flatten_cons] at ha hb
    rcases Nat.lt_or_ge j x.length with hj | hj
    · rw [List.getElem?_append_left hj] at ha
      rw [List.getElem?_append_left (by omega)] at hb
      exact hx.2 j a b ha hb
    · rw [List.getElem?_append_right hj] at ha
      rw [List.getElem?_append_right (by omega), ← hx.1] at hb
      exact h2 _ a b ha hb
  | [], _ :: _, hh => hh.elim
  | _ :: _, [], hh => hh.elim
theorem LeL.freeV : ∀ {cells : List V}, (∀ v ∈ cells, Free v) → LeL h nx ρ nx' Z cells cells
  | [], _ => trivial
  | v :: r, hf => ⟨.free (hf v (by simp)), LeL.freeV (fun v hv => hf v (by simp [hv]))⟩
theorem LeR.free : ∀ {rows : List (List V)}, (∀ x ∈ rows, ∀ v ∈ x, Free v) → LeR h nx ρ nx' Z rows rows
  | [], _ => trivial
  | x :: r, hf => ⟨LeL.freeV (hf x (by simp)), LeR.free (fun y hy => hf y (by simp [hy]))⟩
theorem LeR.map {α : Type} {f g : α → List V} : ∀ {l : List α}, (∀ a ∈ l, LeL h nx ρ nx' Z (f a) (g a)) → LeR h nx ρ nx' Z (l.map f) (l.map g)
  | [], _ => trivial
  | x :: r, hf => ⟨hf x (by simp), LeR.map (fun y hy => hf y (by simp [hy]))⟩
theorem LeR.of_eq {xs ys zs : List (List V)} (e : xs = ys) (hr : LeR h nx ρ nx' Z ys zs) : LeR h nx ρ nx' Z xs zs := e ▸ hr
theorem LeV.freezeR {b sz row n : Nat} {fr ex : Bool} {ty : TypeId} {rows ys : List (List V)} (hz : b ∈ Z) (hb : hget h b = some (.arr fr ex ty sz rows)) (hn : row + n ≤ rows.length) (hle : LeR h nx ρ nx' Z ((rows.drop row).take n) ys) :
    LeV h nx ρ nx' Z (.osl b sz row n) (.sl fr sz ys) := fun G w u hr hv => by
  obtain ⟨hs, hown⟩ := hr.own b _ hb
  obtain ⟨hmap, hpt⟩ := hle.out
  have hsub : ∀ x, x ∈ (rows.drop row).take n → x ∈ rows := fun x hx => List.mem_of_mem_drop (List.mem_of_mem_take hx)
  have hlen0 : ((rows.drop row).take n).length = n := by simp; omega
  have hlen : ys.length = n := by
    have := congrArg List.length hmap
    rw [List.length_map, List.length_map] at this
    omega
  have hfl0 : ((rows.drop row).take n).flatten.length = ys.flatten.length := by rw [List.length_flatten, List.length_flatten, hmap]
  have hys : ∀ y, y ∈ ys → y.length = sz := by
    intro y hy
    have : y.length ∈ ys.map List.length := List.mem_map_of_mem hy
    rw [← hmap] at this
    obtain ⟨x, hx, e⟩ := List.mem_map.1 this
    rw [← e]; exact hs x (hsub x hx)
  cases hv with
  | oslz _ _ _ A =>
    obtain rfl : ys = [] := List.eq_nil_of_length_eq_zero hlen
    exact .sl fr sz [] A 0 (fun _ => undef) (Nat.le_refl _) (Nat.zero_le _) (fun h => absurd rfl h) (by simp) (by simp) (by simp)
  | osl _ _ _ _ c cap m hc hz' he h1 h2 =>
    rcases hown with ⟨h0, _⟩ | ⟨c', cs, e1, hh, hle', hex, hfr, hcell, _⟩
    · rw [h0] at hc; cases hc
    rw [hc] at e1; cases e1
    have hfl := flatten_cells hs
    have hat : ∀ (j : Nat) (v : V), ((rows.drop row).take n).flatten[j]? = some v → rows.flatten[row * sz + j]? = some v := by
      intro j v hj
      have e : rows.flatten = (rows.take row).flatten ++ (((rows.drop row).take n).flatten ++ ((rows.drop row).drop n).flatten) := by
        rw [← List.flatten_append, List.take_append_drop, ← List.flatten_append, List.take_append_drop]
      have l : (rows.take row).flatten.length = row * sz := by rw [flatten_cells (fun x hx => hs x (List.mem_of_mem_take hx)), List.length_take, Nat.min_eq_left (by omega)]
      rw [e, List.getElem?_append_right (by omega), l, show row * sz + j - row * sz = j by omega, List.getElem?_append_left (List.getElem?_eq_some_iff.1 hj).1, hj]
    have hold : ∀ (j : Nat) (v' : V), ys.flatten[j]? = some v' → ∃ v, ((rows.drop row).take n).flatten[j]? = some v := by
      intro j v' hj
      have hlt : j < ((rows.drop row).take n).flatten.length := by rw [hfl0]; exact (List.getElem?_eq_some_iff.1 hj).1
      exact ⟨_, List.getElem?_eq_getElem hlt⟩
    have := VR.sl (ι := (G.to ρ nx' Z).ι) (csz := csz w) (imm := imm (G.to ρ nx' Z) w) fr sz ys (some ⟨c, row * sz, none⟩) cap (fun j => cs[row * sz + j]?.getD undef) (by omega) h2
      (fun _ => ⟨_, rfl, rfl⟩) hys (fun j v' hj ad ha => by
        cases ha
        obtain ⟨v, hv⟩ := hold j v' hj
        obtain ⟨u, hu, hone, _⟩ := hcell _ v (hat j v hv)
        refine ⟨by simp [rd, World.cell?, hh, hu], .inr ⟨b, hz, hc⟩, fun hf => ⟨hfr hf, by simp [World.frozen?, hh]⟩, by simp [hu, hone]⟩) (fun j v' hj => by
        obtain ⟨v, hv0⟩ := hold j v' hj
        obtain ⟨u, hu, _, hv⟩ := hcell _ v (hat j v hv0)
        simp only [hu, Option.getD_some]
        exact hpt j v v' hv0 hj G w u hr hv)
    rw [hlen] at this
    exact this
theorem LeV.freezeE {b sz row n : Nat} {fr ex : Bool} {ty : TypeId} {rows ys : List (List V)} (hz : b ∈ Z) (hb : hget h b = some (.arr fr ex ty sz rows)) (hn : row + n ≤ rows.length) (e : (rows.drop row).take n = ys) (hf : ∀ x ∈ ys, ∀ v ∈ x, Free v) :
    LeV h nx ρ nx' Z (.osl b sz row n) (.sl fr sz ys) := .freezeR hz hb hn (.of_eq e (.free hf))
theorem LeR.eq {xs ys : List (List V)} (e : xs = ys) (hf : ∀ x ∈ xs, ∀ v ∈ x, Free v) : LeR h nx ρ nx' Z xs ys := by subst e; exact .free hf
theorem LeB.arrE {fr fr' ex ex' : Bool} {ty sz : Nat} {xs ys : List (List V)} (e : xs = ys) (hf : ∀ x ∈ xs, ∀ v ∈ x, Free v) (h1 : fr' = true → fr = true) (h2 : ex' = true → ex = true) : LeB h nx ρ nx' Z (.arr fr ex ty sz xs) (.arr fr' ex' ty sz ys) :=
  ⟨h1, h2, rfl, rfl, (LeR.eq (h := h) (nx := nx) (ρ := ρ) (nx' := nx') (Z := Z) e hf).out⟩
theorem LeV.sl_fr {fr : Bool} {v : V} {sz : Nat} {xs : List (List V)} (e : LeV h nx ρ nx' Z v (.sl true sz xs)) : LeV h nx ρ nx' Z v (.sl fr sz xs) := by
  cases fr with
  | true => exact e
  | false => exact .fresh_off e
end
end Go.Proofs.YtfaglgoanmcifaaGreat
namespace Go.Proofs.YtfaglgoanmcifaaGreat
open Go.RowKit
def sig (ρ : Nat → Nat) (n0 nx : Nat) (b : Nat) : Nat := if b < n0 then ρ b else nx + (b - n0)
def Ren (σ : Nat → Nat) (v v' : V) : Prop := ∀ (ι ι' z : Nat → Option Nat) (im : Bool → Addr → Value → Prop) (u : Value), (∀ b, ι' (σ b) = ι b) → VR ι z im v u → VR ι' z im v' u
section ren
variable {σ : Nat → Nat}
theorem Ren.free {v : V} (h : Free v) : Ren σ v v := fun ι ι' z im u _ hv => h _ _ _ _ _ hv
theorem Ren.ptr {b b' col : Nat} (h : σ b = b') : Ren σ (.ptr b col) (.ptr b' col) := fun ι ι' z im u hι hv => by
  subst h
  cases hv with
  | ptr _ _ c hc => exact .ptr _ _ c ((hι b).trans hc)
theorem Ren.osl {b b' sz row n : Nat} (h : σ b = b') : Ren σ (.osl b sz row n) (.osl b' sz row n) := fun ι ι' z im u hι hv => by
  subst h
  cases hv with
  | osl _ _ _ _ c cap m hc hz he h1 h2 => exact .osl _ _ _ _ c cap m ((hι b).trans hc) hz he h1 h2
  | oslz _ _ _ A => exact .oslz _ _ _ A
def RenL (σ : Nat → Nat) : List V → List V → Prop
  | [], [] => True
  | v :: r, v' :: r' => Ren σ v v' ∧ RenL σ r r'
  | _, _ => False
theorem RenL.out : ∀ {cs cs' : List V}, RenL σ cs cs' → cs.length = cs'.length ∧ ∀ (j : Nat) (v v' : V), cs[j]? = some v → cs'[j]? = some v' → Ren σ v v'
  | [], [], _ => ⟨rfl, by simp⟩
  | v :: r, v' :: r', hh => by
    obtain ⟨h1, h2⟩ := RenL.out hh.2
    refine ⟨by simp [h1], fun j a b ha hb => ?_⟩
    cases j with
    | zero => simp at ha hb; subst ha; subst hb; exact hh.1
    | succ j => exact h2 j a b (by simpa using ha) (by simpa using hb)
  | [], _ :: _, hh => hh.elim
  | _ :: _, [], hh => hh.elim
theorem RenL.free : ∀ {cs : List V}, (∀ v ∈ cs, Free v) → RenL σ cs cs
  | [], _ => trivial
  | v :: r, hf => ⟨.free (hf v (by simp)), RenL.free (fun v hv => hf v (by simp [hv]))⟩
theorem Ren.agg {cs cs' : List V} (h : RenL σ cs cs') : Ren σ (.agg cs) (.agg cs') := fun ι ι' z im u hι hv => by
  obtain ⟨hl, hp⟩ := h.out
  cases hv with
  | agg _ us hl' h1 =>
    refine .agg _ us (hl ▸ hl') fun j v' u hj hu => ?_
    have hlt : j < cs.length := by rw [hl]; exact (List.getElem?_eq_some_iff.1 hj).1
    exact hp j _ v' (List.getElem?_eq_getElem hlt) hj _ _ _ _ _ hι (h1 j _ u (List.getElem?_eq_getElem hlt) hu)
theorem Ren.tup {cs cs' : List V} (h : RenL σ cs cs') : Ren σ (.tup cs) (.tup cs') := fun ι ι' z im u hι hv => by
  obtain ⟨hl, hp⟩ := h.out
  cases hv with
  | tup _ us hl' h1 =>
    refine .tup _ us (hl ▸ hl') fun j v' u hj hu => ?_
    have hlt : j < cs.length := by rw [hl]; exact (List.getElem?_eq_some_iff.1 hj).1
    exact hp j _ v' (List.getElem?_eq_getElem hlt) hj _ _ _ _ _ hι (h1 j _ u (List.getElem?_eq_getElem hlt) hu)
def RenR (σ : Nat → Nat) : List (List V) → List (List V) → Prop
  | [], [] => True
  | x :: r, y :: r' => RenL σ x y ∧ RenR σ r r'
  | _, _ => False
theorem RenR.out : ∀ {xs ys : List (List V)}, RenR σ xs ys → xs.map List.length = ys.map List.length ∧ RenL σ xs.flatten ys.flatten
  | [], [], _ => ⟨rfl, trivial⟩
  | x :: r, y :: r', hh => by
    obtain ⟨h1, h2⟩ := RenR.out hh.2
    have app : ∀ {a a' b b' : List V}, RenL σ a a' → RenL σ b b' → RenL σ (a ++ b) (a' ++ b') := by
      intro a
      induction a with
      | nil => intro a' b b' ha hb; cases a' with
        | nil => exact hb
        | cons _ _ => exact ha.elim
      | cons x a ih => intro a' b b' ha hb; cases a' with
        | nil => exact ha.elim
        | cons y a' => exact ⟨ha.1, ih ha.2 hb⟩
    exact ⟨by simp [h1, (RenL.out hh.1).1], by rw [List.flatten_cons, List.flatten_cons]; exact app hh.1 h2⟩
  | [], _ :: _, hh => hh.elim
  | _ :: _, [], hh => hh.elim
theorem RenR.free : ∀ {rows : List (List V)}, (∀ x ∈ rows, ∀ v ∈ x, Free v) → RenR σ rows rows
  | [], _ => trivial
  | x :: r, hf => ⟨RenL.free (hf x (by simp)), RenR.free (fun y hy => hf y (by simp [hy]))⟩
def RenB (σ : Nat → Nat) (k : Blk) : Blk → Prop
  | .var fr' ty' cells' => match k with
    | .var fr ty cells => fr' = fr ∧ ty' = ty ∧ RenL σ cells cells'
    | _ => False
  | .arr fr' ex' ty' sz' rows' => match k with
    | .arr fr ex ty sz rows => fr' = fr ∧ ex' = ex ∧ ty' = ty ∧ sz' = sz ∧ RenR σ rows rows'
    | _ => False
  | .map es' => match k with
    | .map es => es' = es ∧ ∀ kv ∈ es, Free kv.1 ∧ Free kv.2
    | _ => False
  | _ => False
theorem RenB.arr {fr ex : Bool} {ty sz : Nat} {rows : List (List V)} (hf : ∀ x ∈ rows, ∀ v ∈ x, Free v) : RenB σ (.arr fr ex ty sz rows) (.arr fr ex ty sz rows) := ⟨rfl, rfl, rfl, rfl, .free hf⟩
theorem RenB.var {fr : Bool} {ty : Nat} {cells : List V} (hf : ∀ v ∈ cells, Free v) : RenB σ (.var fr ty cells) (.var fr ty cells) := ⟨rfl, rfl, .free hf⟩
theorem Holds.ren {G1 G' : Gh} {w : World} (hι : ∀ b, G'.ι (σ b) = G1.ι b) (him : ∀ fr a u, imm G1 w fr a u → imm G' w fr a u) (hB : G'.B = G1.B) {b : Nat} {fr ex : Bool} {ty : TypeId} {vs vs' : List V} (hr : RenL σ vs vs') (hh : Holds G1 w b fr ex ty vs) : Holds G' w (σ b) fr ex ty vs' := by
  obtain ⟨c, cs, h1, h2, h3, h4, h5, h6, h7⟩ := hh
  obtain ⟨hl, hp⟩ := hr.out
  refine ⟨c, cs, (hι b).trans h1, h2, by omega, fun he => by rw [← hl]; exact h4 he, fun hf => by rw [hB]; exact h5 hf, fun j v' hj => ?_, h7⟩
  have hlt : j < vs.length := by rw [hl]; exact (List.getElem?_eq_some_iff.1 hj).1
  obtain ⟨u, hu, hone, hv⟩ := h6 j _ (List.getElem?_eq_getElem hlt)
  exact ⟨u, hu, hone, hp j _ v' (List.getElem?_eq_getElem hlt) hj _ _ _ _ _ hι (VR.mono (fun _ _ h => h) (fun _ _ h => h) him hv)⟩
theorem RenB.ok {G1 G' : Gh} {w : World} (hι : ∀ b, G'.ι (σ b) = G1.ι b) (him : ∀ fr a u, imm G1 w fr a u → imm G' w fr a u) (hB : G'.B = G1.B) {b : Nat} {k k' : Blk} (hr : RenB σ k k') (hk : BlkOk G1 w b k) : BlkOk G' w (σ b) k' := by
  cases k' with
  | var fr' ty' cells' =>
    cases k with
    | arr => exact hr.elim
    | loop => exact hr.elim
    | map => exact hr.elim
    | iter => exact hr.elim
    | var fr ty cells =>
      obtain ⟨rfl, rfl, h3⟩ := hr
      exact Holds.ren hι him hB h3 hk
  | arr fr' ex' ty' sz' rows' =>
    cases k with
    | var => exact hr.elim
    | loop => exact hr.elim
    | map => exact hr.elim
    | iter => exact hr.elim
    | arr fr ex ty sz rows =>
      obtain ⟨rfl, rfl, rfl, rfl, h5⟩ := hr
      obtain ⟨hm, hfl⟩ := h5.out
      refine ⟨fun x hx => ?_, ?_⟩
      · have : x.length ∈ rows'.map List.length := List.mem_map_of_mem hx
        rw [← hm] at this
        obtain ⟨y, hy, e⟩ := List.mem_map.1 this
        rw [← e]; exact hk.1 y hy
      · rcases hk.2 with ⟨q1, q2⟩ | q
        · subst q2
          refine .inl ⟨(hι b).trans q1, List.eq_nil_of_length_eq_zero (by simpa using (congrArg List.length hm).symm)⟩
        · exact .inr (Holds.ren hι him hB hfl q)
  | loop => exact hr.elim
  | iter => exact hr.elim
  | map es' =>
    cases k with
    | var => exact hr.elim
    | arr => exact hr.elim
    | loop => exact hr.elim
    | iter => exact hr.elim
    | map es =>
      obtain ⟨rfl, hf⟩ := hr
      exact MapH.to hk (fun c h1 => (hι b).trans h1) (fun _ _ => rfl) rfl fun j kv kv' h1 h2 => by
        obtain rfl := same_of h1 h2
        obtain ⟨q1, q2⟩ := hf kv (List.mem_of_getElem? h1)
        exact ⟨fun u hv => q1 _ _ _ _ _ (VR.mono (ι' := G1.ι) (fun _ _ h => h) (fun _ _ h => h) him hv), fun u hv => q2 _ _ _ _ _ (VR.mono (ι' := G1.ι) (fun _ _ h => h) (fun _ _ h => h) him hv)⟩
end ren
def frH (ρ : Nat → Nat) (n0 nx nx' : Nat) (h h' : Heap) : Heap → Prop
  | [] => True
  | (b, some blk) :: r => ((∃ b1, sig ρ n0 nx b1 = b ∧ b1 < nx' ∧ ∃ k, hget h' b1 = some k ∧ RenB (sig ρ n0 nx) k blk) ∨ ((∀ b1, b1 < n0 → ρ b1 ≠ b) ∧ hget h b = some blk)) ∧ frH ρ n0 nx nx' h h' r
  | (_, none) :: r => frH ρ n0 nx nx' h h' r
theorem frH.out {ρ : Nat → Nat} {n0 nx nx' : Nat} {h h' : Heap} : ∀ {h2 : Heap}, frH ρ n0 nx nx' h h' h2 → ∀ b blk, hget h2 b = some blk → (∃ b1, sig ρ n0 nx b1 = b ∧ b1 < nx' ∧ ∃ k, hget h' b1 = some k ∧ RenB (sig ρ n0 nx) k blk) ∨ ((∀ b1, b1 < n0 → ρ b1 ≠ b) ∧ hget h b = some blk)
  | [], _, b, k, hb => by simp [hget] at hb
  | (i, none) :: r, hh, b, k, hb => by
    rw [hget_cons] at hb
    split at hb
    · cases hb
    · exact frH.out (h2 := r) hh b k hb
  | (i, some blk) :: r, hh, b, k, hb => by
    rw [hget_cons] at hb
    split at hb
    · rename_i e; subst e; cases hb; exact hh.1
    · exact frH.out hh.2 b k hb
theorem callV_frame {P : Program} {f : FuncId} {args args0 : List V} {h h0 : Heap} {nx n0 : Nat} {R K : V → Heap → Nat → Prop} (ρ : Nat → Nat) (hc : CallV P f args0 h0 n0 R)
    (ha : LeL h nx ρ n0 [] args args0) (hh : LeH 0 h nx ρ n0 [] h0) (hlive : ∀ b, b < n0 → hget h (ρ b) ≠ none) (hinj : ∀ b, b < n0 → ∀ b', b' < n0 → ρ b = ρ b' → b = b')
    (hK : ∀ v h' nx', R v h' nx' → n0 ≤ nx' → ∃ v2 h2, Ren (sig ρ n0 nx) v v2 ∧ frH ρ n0 nx nx' h h' h2 ∧ K v2 h2 (nx + (nx' - n0))) : CallV P f args h nx K := by
  refine ⟨hc.1, fun G w us hr hv => ?_⟩
  obtain ⟨hr0, _⟩ := hh.ok hr
  refine (hc.2 _ w us hr0 (ha.vrs hr hv)).mono ?_
  rintro e w' ⟨u, v, h', nx', G1, rfl, hR, hv1, hr1, E, hle⟩
  obtain ⟨v2, h2, hren, hfr, hK⟩ := hK v h' nx' hR hle
  classical
  have hto : ∀ b c, (G.to ρ n0 []).ι b = some c → b < n0 ∧ G.ι (ρ b) = some c := by
    intro b c hb
    simp only [Gh.to] at hb
    split at hb
    · rename_i hlt; exact ⟨hlt, hb⟩
    · cases hb
  have hlt0 : ∀ b, b < n0 → ρ b < nx := fun b hb => by
    cases hg : hget h (ρ b) with
    | none => exact absurd hg (hlive b hb)
    | some k => exact hr.hdom _ k hg
  -- the ids of the caller
  let pre : Nat → Option Nat := fun b => (List.range n0).find? (fun b1 => ρ b1 == b)
  have hpre : ∀ b b1, pre b = some b1 → b1 < n0 ∧ ρ b1 = b := by
    intro b b1 hp
    have h1 := List.mem_of_find?_eq_some hp
    have h3 := List.find?_some hp
    exact ⟨by simpa using h1, by simpa using h3⟩
  have hpre0 : ∀ b, pre b = none → ∀ b1, b1 < n0 → ρ b1 ≠ b := by
    intro b hp b1 hb1 e
    have := List.find?_eq_none.1 hp b1 (by simpa using hb1)
    simp [e] at this
  have hpre1 : ∀ b1, b1 < n0 → pre (ρ b1) = some b1 := by
    intro b1 hb1
    cases hp : pre (ρ b1) with
    | none => exact absurd rfl (hpre0 _ hp b1 hb1)
    | some b2 => rw [hinj b2 (hpre _ _ hp).1 b1 hb1 (hpre _ _ hp).2]
  have hpren : ∀ b, nx ≤ b → pre b = none := by
    intro b hb
    cases hp : pre b with
    | none => rfl
    | some b2 => have := hpre _ _ hp; have := hlt0 b2 this.1; omega
  let ι' : Nat → Option Nat := fun b => match pre b with
    | some b1 => G1.ι b1
    | none => if b < nx then G.ι b else if b - nx + n0 < nx' then G1.ι (b - nx + n0) else none
  let G' : Gh := ⟨ι', G1.amb, G.B⟩
  have hB : G1.B = G.B := E.B
  have hι : ∀ b, G'.ι (sig ρ n0 nx b) = G1.ι b := by
    intro b
    show (match pre (sig ρ n0 nx b) with | some b1 => G1.ι b1 | none => if sig ρ n0 nx b < nx then G.ι (sig ρ n0 nx b) else if sig ρ n0 nx b - nx + n0 < nx' then G1.ι (sig ρ n0 nx b - nx + n0) else none) = _
    rcases Nat.lt_or_ge b n0 with hlt | hge
    · have e : sig ρ n0 nx b = ρ b := by simp [sig, hlt]
      rw [e, hpre1 b hlt]
    · have e : sig ρ n0 nx b = nx + (b - n0) := by simp [sig, Nat.not_lt.2 hge]
      rw [e, hpren _ (by omega)]
      simp only
      rw [if_neg (by omega), show nx + (b - n0) - nx + n0 = b by omega]
      split
      · rfl
      · rename_i hge; exact (hr1.dom b (by omega)).symm
  have hιk : ∀ b, pre b = none → b < nx → G'.ι b = G.ι b := by
    intro b hp hb
    show (match pre b with | some b1 => G1.ι b1 | none => if b < nx then G.ι b else if b - nx + n0 < nx' then G1.ι (b - nx + n0) else none) = _
    rw [hp]
    simp [hb]
  have hιold : ∀ b c, G.ι b = some c → G'.ι b = some c := by
    intro b c hc
    have hb : b < nx := by
      rcases Nat.lt_or_ge b nx with h1 | h1
      · exact h1
      · rw [hr.dom b h1] at hc; cases hc
    cases hp : pre b with
    | none => rw [hιk b hp hb]; exact hc
    | some b1 =>
      obtain ⟨h1, h3⟩ := hpre b b1 hp
      show (match pre b with | some b1 => G1.ι b1 | none => if b < nx then G.ι b else if b - nx + n0 < nx' then G1.ι (b - nx + n0) else none) = _
      rw [hp]
      refine E.ids b1 c h1 ?_
      simp only [Gh.to, h1, if_true, h3]
      exact hc
  -- where an id of the caller's comes from
  have hfrom : ∀ b c, G'.ι b = some c → (∃ b1, sig ρ n0 nx b1 = b ∧ G1.ι b1 = some c) ∨ (pre b = none ∧ b < nx ∧ G.ι b = some c) := by
    intro b c hc
    cases hp : pre b with
    | some b1 =>
      obtain ⟨h1, h3⟩ := hpre b b1 hp
      refine .inl ⟨b1, by simp [sig, h1, h3], ?_⟩
      rw [← hι b1, show sig ρ n0 nx b1 = b by simp [sig, h1, h3]]
      exact hc
    | none =>
      rcases Nat.lt_or_ge b nx with hb | hb
      · exact .inr ⟨rfl, hb, by rw [← hιk b hp hb]; exact hc⟩
      · have e : sig ρ n0 nx (b - nx + n0) = b := by
          unfold sig
          rw [if_neg (by omega)]
          omega
        refine .inl ⟨b - nx + n0, e, ?_⟩
        rw [← hι, e]
        exact hc
  have hidn1 : ∀ b1 c, G1.ι b1 = some c → c < w.heap.size → ∃ b0, b0 < n0 ∧ G.ι (ρ b0) = some c := by
    intro b1 c hc hlt
    obtain ⟨b0, hb0⟩ := E.idn b1 c hc hlt
    exact ⟨b0, hto b0 c hb0⟩
  have ham : ∀ c, G1.amb c → c < w.heap.size → G.amb c ∨ ∃ b0, b0 < n0 ∧ G.ι (ρ b0) = some c := by
    intro c hc hlt
    rcases E.ambn c hc hlt with (h1 | ⟨_, h1, _⟩) | ⟨b, h1⟩
    · exact .inl h1
    · simp at h1
    · exact .inr ⟨b, hto b c h1⟩
  have he : EvoA G w G' w' := fun base => ⟨E.os, E.tape, E.output, E.size, rfl, fun c hc => E.amb c (.inl hc), fun c hc => E.keep c (.inl hc), E.csz, fun b c _ hc => hιold b c hc,
    fun c hc hn => E.keepu c hc (fun b hb => hn _ (hto b c hb).2),
    fun c hc hlt => (ham c hc hlt).imp_right (fun ⟨b0, _, h1⟩ => ⟨_, h1⟩), fun b c hc hlt => by
      rcases hfrom b c hc with ⟨b1, _, h3⟩ | ⟨_, _, h3⟩
      · obtain ⟨b0, _, h4⟩ := hidn1 b1 c h3 hlt; exact ⟨_, h4⟩
      · exact ⟨b, h3⟩⟩
  have him : ∀ fr a u, imm G1 w' fr a u → imm G' w' fr a u := fun fr a u hi => ⟨hi.1, hi.2.1, fun hf => by have := hi.2.2.1 hf; rw [hB] at this; exact this, hi.2.2.2⟩
  have hrest : ∀ b c, (∀ b1, b1 < n0 → ρ b1 ≠ b) → ∀ k, hget h b = some k → G.ι b = some c → ∀ b0, b0 < n0 → G.ι (ρ b0) ≠ some c := by
    intro b c hne k hk hc b0 hb0 h0
    cases hg : hget h (ρ b0) with
    | none => exact hlive b0 hb0 hg
    | some k' => exact hne b0 hb0 (hr.inj _ _ k' k c hg hk h0 hc)
  refine ⟨u, v2, h2, nx + (nx' - n0), G', rfl, hK, hren _ _ _ _ _ hι (VR.mono (fun _ _ h => h) (fun _ _ h => h) him hv1), ⟨hr1.amb_lt, Nat.le_trans hr.B_le E.size, fun b hb => ?_, fun b blk hb => ?_, fun b1 b2 k1 k2 c h1 h3 h4 h5 => ?_, fun b blk c hb hc hacc => ?_, fun b c hc => ?_, fun b blk hb => ?_, hr.gl.evo (he 0)⟩, he nx, by omega⟩
  · show (match pre b with | some b1 => G1.ι b1 | none => if b < nx then G.ι b else if b - nx + n0 < nx' then G1.ι (b - nx + n0) else none) = _
    rw [hpren b (by omega)]
    simp only
    rw [if_neg (by omega), if_neg (by omega)]
  · rcases hfr.out b blk hb with ⟨b1, rfl, _, k, hk, hrb⟩ | ⟨hne, hk⟩
    · exact hrb.ok hι him hB.symm (hr1.own b1 k hk)
    · refine (hr.own b blk hk).keep he (fun c hc => E.keepu c (hr.lt b c hc) (fun b1 hb1 => ?_)) (fun hn => ?_)
      · obtain ⟨q1, q2⟩ := hto b1 c hb1
        exact hrest b c hne blk hk hc b1 q1 q2
      · have hb' := hr.hdom b blk hk
        have hp : pre b = none := by
          cases hp : pre b with
          | none => rfl
          | some b1 => exact absurd (hpre b b1 hp).2 (hne b1 (hpre b b1 hp).1)
        rw [hιk b hp hb']; exact hn
  · rcases hfr.out b1 k1 h1 with ⟨a1, rfl, _, q1, hq1, _⟩ | ⟨hne1, hk1⟩ <;> rcases hfr.out b2 k2 h3 with ⟨a2, rfl, _, q2, hq2, _⟩ | ⟨hne2, hk2⟩
    · rw [hι] at h4 h5
      rw [hr1.inj a1 a2 q1 q2 c hq1 hq2 h4 h5]
    · rw [hι] at h4
      have hg := hfrom b2 c h5
      have hb2 := hr.hdom b2 k2 hk2
      rcases hg with ⟨a2, rfl, h6⟩ | ⟨_, _, h6⟩
      · exact congrArg _ (by
          have : a2 < n0 ∨ n0 ≤ a2 := Nat.lt_or_ge a2 n0
          rcases this with h7 | h7
          · exact absurd (by simp [sig, h7]) (hne2 a2 h7)
          · simp [sig, Nat.not_lt.2 h7] at hb2; omega)
      · obtain ⟨b0, hb0, h7⟩ := hidn1 a1 c h4 (hr.lt b2 c h6)
        exact absurd h7 (hrest b2 c hne2 k2 hk2 h6 b0 hb0)
    · rw [hι] at h5
      have hg := hfrom b1 c h4
      have hb2 := hr.hdom b1 k1 hk1
      rcases hg with ⟨a2', rfl, h6⟩ | ⟨_, _, h6⟩
      · exact congrArg _ (by
          have : a2' < n0 ∨ n0 ≤ a2' := Nat.lt_or_ge a2' n0
          rcases this with h7 | h7
          · exact absurd (by simp [sig, h7]) (hne1 a2' h7)
          · simp [sig, Nat.not_lt.2 h7] at hb2; omega)
      · obtain ⟨b0, hb0, h7⟩ := hidn1 a2 c h5 (hr.lt b1 c h6)
        exact absurd h7 (hrest b1 c hne1 k1 hk1 h6 b0 hb0)
    · have e1 : G.ι b1 = some c := by
        rcases hfrom b1 c h4 with ⟨a2, rfl, h6⟩ | ⟨_, _, h6⟩
        · have hb2 := hr.hdom _ k1 hk1
          rcases Nat.lt_or_ge a2 n0 with h7 | h7
          · exact absurd (by simp [sig, h7]) (hne1 a2 h7)
          · simp [sig, Nat.not_lt.2 h7] at hb2; omega
        · exact h6
      have e2 : G.ι b2 = some c := by
        rcases hfrom b2 c h5 with ⟨a2, rfl, h6⟩ | ⟨_, _, h6⟩
        · have hb2 := hr.hdom _ k2 hk2
          rcases Nat.lt_or_ge a2 n0 with h7 | h7
          · exact absurd (by simp [sig, h7]) (hne2 a2 h7)
          · simp [sig, Nat.not_lt.2 h7] at hb2; omega
        · exact h6
      exact hr.inj b1 b2 k1 k2 c hk1 hk2 e1 e2
  · rcases hfr.out b blk hb with ⟨b1, rfl, _, k, hk, _⟩ | ⟨hne, hk⟩
    · rw [hι] at hc
      exact hr1.apart b1 k c hk hc hacc
    · have e1 : G.ι b = some c := by
        rcases hfrom b c hc with ⟨a2, rfl, h6⟩ | ⟨_, _, h6⟩
        · have hb2 := hr.hdom _ blk hk
          rcases Nat.lt_or_ge a2 n0 with h7 | h7
          · exact absurd (by simp [sig, h7]) (hne a2 h7)
          · simp [sig, Nat.not_lt.2 h7] at hb2; omega
        · exact h6
      rcases ham c hacc (hr.lt b c e1) with h6 | ⟨b0, hb0, h6⟩
      · exact hr.apart b blk c hk e1 h6
      · exact hrest b c hne blk hk e1 b0 hb0 h6
  · rcases hfrom b c hc with ⟨b1, _, h6⟩ | ⟨_, _, h6⟩
    · exact hr1.lt b1 c h6
    · exact Nat.lt_of_lt_of_le (hr.lt b c h6) E.size
  · rcases hfr.out b blk hb with ⟨b1, rfl, hlt, k, hk, _⟩ | ⟨hne, hk⟩
    · unfold sig
      split
      · rename_i h7; have := hlt0 b1 h7; omega
      · omega
    · have := hr.hdom b blk hk; omega
end Go.Proofs.YtfaglgoanmcifaaGreat
namespace Go.Proofs.YtfaglgoanmcifaaGreat
open Go.RowKit
abbrev FreeI (v : V) : Prop := Nonempty (PLift (Free v))
abbrev FreeLI (l : List V) : Prop := Nonempty (PLift (∀ v ∈ l, Free v))
abbrev FreeRI (l : List (List V)) : Prop := Nonempty (PLift (∀ x ∈ l, ∀ v ∈ x, Free v))
instance {k n} : FreeI (.int k n) := ⟨⟨.int⟩⟩
instance {b} : FreeI (.bool b) := ⟨⟨.bool⟩⟩
instance {b} : FreeI (.str b) := ⟨⟨.str⟩⟩
instance : FreeI .any := ⟨⟨.any⟩⟩
instance : FreeI .snil := ⟨⟨.snil⟩⟩
instance : FreeI .nilp := ⟨⟨.nilp⟩⟩
instance : FreeI .nilf := ⟨⟨.nilf⟩⟩
instance : FreeI .nili := ⟨⟨.nili⟩⟩
instance {fr b} : FreeI (encB fr b) := ⟨⟨encB_free _ _⟩⟩
instance {fr b} : FreeI (encW fr b) := ⟨⟨encW_free _ _⟩⟩
instance {b : List UInt8} : FreeRI (b.map fun x => [V.int .u8 x.toNat]) := ⟨⟨rowsB_free b⟩⟩
instance {b : List UInt32} : FreeRI (b.map fun x => [V.int .u32 x.toNat]) := ⟨⟨rowsW_free b⟩⟩
instance : FreeRI [] := ⟨⟨by simp⟩⟩
instance : FreeLI [] := ⟨⟨by simp⟩⟩
instance {v l} [h : FreeI v] [hl : FreeLI l] : FreeLI (v :: l) := ⟨⟨fun w hw => by
  rcases List.mem_cons.1 hw with rfl | hw
  · exact h.elim fun p => p.down
  · exact hl.elim fun p => p.down w hw⟩⟩
instance {x r} [h : FreeLI x] [hl : FreeRI r] : FreeRI (x :: r) := ⟨⟨fun w hw => by
  rcases List.mem_cons.1 hw with rfl | hw
  · exact h.elim fun p => p.down
  · exact hl.elim fun p => p.down w hw⟩⟩
instance {l} [h : FreeLI l] : FreeI (.agg l) := ⟨⟨.agg (h.elim fun p => p.down)⟩⟩
instance {l} [h : FreeLI l] : FreeI (.tup l) := ⟨⟨.tup (h.elim fun p => p.down)⟩⟩
instance {fr l} [h : FreeLI l] : FreeI (.iptr fr l) := ⟨⟨.iptr (h.elim fun p => p.down)⟩⟩
instance {fr sz l} [h : FreeRI l] : FreeI (.sl fr sz l) := ⟨⟨.sl (h.elim fun p => p.down)⟩⟩
instance {f a b} [h : FreeLI a] [k : FreeLI b] : FreeI (.fn f a b) := ⟨⟨.fn (h.elim fun p => p.down) (k.elim fun p => p.down)⟩⟩
theorem FreeI.out {v : V} [h : FreeI v] : Free v := h.elim fun p => p.down
section
variable {h : Heap} {nx nx' : Nat} {ρ : Nat → Nat} {Z : List Nat}
theorem LeV.fr {v v' : V} [i : FreeI v'] (e : v = v') : LeV h nx ρ nx' Z v v' := by subst e; exact .free (i.elim fun p => p.down)
theorem LeV.A {v v' : V} (p : LeV h nx ρ nx' Z v v' := by first | exact .ptr rfl (by omega) | exact .osl_of rfl (by omega) rfl | exact .fr rfl | exact .yld rfl (by omega) | exact .eptr rfl (by omega) | exact .osl0 | exact .snil_sl | exact .to_any) : LeV h nx ρ nx' Z v v' := p
theorem LeL.fr {l l' : List V} [i : FreeLI l'] (e : l = l') : LeL h nx ρ nx' Z l l' := by subst e; exact .freeV (i.elim fun p => p.down)
theorem LeB.fr {f f' ex ex' : Bool} {ty sz : Nat} {r r' : List (List V)} [i : FreeRI r'] (e : r = r') (h1 : f' = true → f = true) (h2 : ex' = true → ex = true) : LeB h nx ρ nx' Z (.arr f ex ty sz r) (.arr f' ex' ty sz r') := by
  subst e; exact .arrE rfl (i.elim fun p => p.down) h1 h2
end
theorem Wk.all {base N : Nat} {s : St} {t' : List (Nat × V)} {h' : Heap} {nx' : Nat} (ρ : Nat → Nat) (Z : List Nat) (ht : leT s.h s.nx s.t ρ nx' Z t' ∧ leHL s.h s.nx ρ nx' Z h') (hi : ∀ b ∈ h'.map Prod.fst, ∀ b' ∈ h'.map Prod.fst, ρ b = ρ b' → b = b') (hl : ∀ b, b < base → ρ b = b) (hn : base ≤ nx') (hz : ∀ z, z ∈ Z → hget s.h z ≠ none) : Wk base N s ⟨t', h', nx'⟩ :=
  Wk.of ρ Z ht.1 (LeH.of ht.2 hi hl hn hz)
theorem Wk.i {base N : Nat} {s : St} {t' : List (Nat × V)} {h' : Heap} {nx' : Nat} (ht : leT s.h s.nx s.t id nx' [] t' ∧ leHL s.h s.nx id nx' [] h') (hn : base ≤ nx') : Wk base N s ⟨t', h', nx'⟩ :=
  Wk.all id [] ht (fun _ _ _ _ h => h) (fun _ _ => rfl) hn (by simp)
theorem Ends.all {base : Nat} {s : St} {v v' : V} {h' : Heap} {nx' : Nat} (ρ : Nat → Nat) (Z : List Nat) (ht : LeV s.h s.nx ρ nx' Z v v' ∧ leHL s.h s.nx ρ nx' Z h') (hi : ∀ b ∈ h'.map Prod.fst, ∀ b' ∈ h'.map Prod.fst, ρ b = ρ b' → b = b') (hl : ∀ b, b < base → ρ b = b) (hn : base ≤ nx') (hz : ∀ z, z ∈ Z → hget s.h z ≠ none) : Ends base s v v' h' nx' :=
  Ends.of ρ Z ht.1 (LeH.of ht.2 hi hl hn hz)
theorem LeH.i {base : Nat} {h h' : Heap} {nx nx' : Nat} {Z : List Nat} (hb : leHL h nx id nx' Z h') (hn : base ≤ nx') (hz : ∀ z, z ∈ Z → hget h z ≠ none) : LeH base h nx id nx' Z h' := LeH.of hb (fun _ _ _ _ h => h) (fun _ _ => rfl) hn hz
end Go.Proofs.YtfaglgoanmcifaaGreat
namespace Go.Proofs.YtfaglgoanmcifaaGreat
open Go.RowKit
structure Back (w0 w : World) : Prop where
  os : w.os = w0.os
  tape : w.tape = w0.tape
  output : w.output = w0.output
  size : w0.heap.size ≤ w.heap.size
  keep : ∀ c, c < w0.heap.size → w.heap[c]? = w0.heap[c]?
theorem Back.refl (w : World) : Back w w := ⟨rfl, rfl, rfl, Nat.le_refl _, fun _ _ => rfl⟩
theorem Back.trans {w0 w1 w2 : World} (h : Back w0 w1) (k : Back w1 w2) : Back w0 w2 :=
  ⟨k.os.trans h.os, k.tape.trans h.tape, k.output.trans h.output, Nat.le_trans h.size k.size, fun c hc => (k.keep c (Nat.lt_of_lt_of_le hc h.size)).trans (h.keep c hc)⟩
theorem Back.evo {G : Gh} {w0 w : World} (h : Back w0 w) (hlt : ∀ c, G.amb c → c < w0.heap.size) : EvoA G w0 G w := fun base =>
  ⟨h.os, h.tape, h.output, h.size, rfl, fun _ hc => hc, fun c hc => h.keep c (hlt c hc), fun c m hm => by
    have hc : c < w0.heap.size := by
      unfold csz at hm
      cases hg : w0.heap[c]? with
      | none => rw [hg] at hm; cases hm
      | some o => exact (Array.getElem?_eq_some_iff.1 hg).1
    unfold csz at hm ⊢
    rw [h.keep c hc]
    exact hm, fun _ _ _ hb => hb, fun c hc _ => h.keep c hc, fun c hc _ => .inl hc, fun b c hb _ => ⟨b, hb⟩⟩
end Go.Proofs.YtfaglgoanmcifaaGreat
namespace Go.Proofs.YtfaglgoanmcifaaGreat
open Go.RowKit
section
variable {P : Program} {T : Tab} {F : Fence} {N : Nat}
theorem runOps_then (hT : TabOk P T) (hF : FW F) {all : List Oper} {base n : Nat} {Q : Exit → Act → World → Prop} {tl : List Nat} : ∀ {rest : List Oper} {k : Nat} {s : St} {K : St → Prop}, (∀ i, i < rest.length → rest[i]? = all[k + i]?) → runOps P T N all rest s K →
    ∀ {G : Gh} {a : Act} {w : World}, Sim G N s a w → base ≤ s.nx →
      (∀ s' a' w' G', K s' → Sim G' N s' a' w' → Evo base G w G' w' → base ≤ s'.nx → a'.defers = a.defers → wpOpsIn F n P all.toArray Q tl a' w') → wpOpsIn F n P all.toArray Q (List.range' k rest.length ++ tl) a w
  | [], k, s, K, hk, h, G, a, w, hs, hb, hQ => hQ s a w G h hs (Evo.refl _ _ _) hb rfl
  | o :: r, k, s, K, hk, h, G, a, w, hs, hb, hQ => by
    have ho : all.toArray[k]? = some o := by have := hk 0 (by simp); simpa using this.symm
    have hg := opK_ok (n := n) hT hF (Q := Q) (next := wpOpsIn F n P all.toArray Q (List.range' (k + 1) r.length ++ tl)) h hs hb (fun s' a' w' G' hK hs' he hb' hd =>
      runOps_then hT hF (rest := r) (k := k + 1) (fun i hi => by have := hk (i + 1) (by simp; omega); simpa [Nat.add_assoc, Nat.add_comm 1 i] using this) hK hs' hb'
        (fun s2 a2 w2 G2 q1 q2 q3 q4 q5 => hQ s2 a2 w2 G2 q1 q2 (he.trans q3) q4 (q5.trans hd)))
    rw [List.length_cons, List.range'_succ, List.cons_append]
    unfold Goes at hg
    simp only [wpOpsIn, ho]
    exact hg
def Gok (G : Gh) : Prop := (∀ b c, G.ι b = some c → G.B ≤ c) ∧ ∀ p ∈ glob, p.1 < G.B
theorem gok_evo {base nx : Nat} {G G' : Gh} {h : Heap} {w w' : World} (he : Evo base G w G' w') (hr : HR G h nx w) (hk : Gok G) : Gok G' := ⟨fun b c hb => by
  rw [he.B]
  rcases Nat.lt_or_ge c w.heap.size with hlt | hge
  · obtain ⟨b', hb'⟩ := he.idn b c hb hlt
    exact hk.1 b' c hb'
  · exact Nat.le_trans hr.B_le hge, fun p hp => by rw [he.B]; exact hk.2 p hp⟩
def PostH (N B : Nat) (w : World) (D : List Deferred) (Q : Ex → St → Prop) (e : Exit) (a' : Act) (w' : World) : Prop :=
  ∃ e' s' G', e = e'.to ∧ Q e' s' ∧ Sim G' N s' a' w' ∧ Gok G' ∧ G'.B = B ∧ Below B w w' ∧ a'.defers = D
def VH (P : Program) (F : Fence) (N : Nat) (c : Code) (s : St) (Q : Ex → St → Prop) : Prop :=
  ∀ (n : Nat) (G : Gh) (a : Act) (w : World), Sim G N s a w → Gok G → c.wpIn F n P (PostH N G.B w a.defers Q) a w
theorem VH.mono {c : Code} {s : St} {Q Q' : Ex → St → Prop} (h : VH P F N c s Q) (hq : ∀ e s, Q e s → Q' e s) : VH P F N c s Q' :=
  fun n G a w hs hk => wpIn_mono (h n G a w hs hk) fun e a' w' ⟨e', s', G', h1, h2, h3⟩ => ⟨e', s', G', h1, hq _ _ h2, h3⟩
theorem Wk.h {base : Nat} {s s' : St} (hw : Wk base N s s') (hb : base ≤ s.nx) {G : Gh} {a : Act} {w : World} (hs : Sim G N s a w) (hk : Gok G) : ∃ G', Sim G' N s' a w ∧ Gok G' ∧ G'.B = G.B := by
  obtain ⟨G', hs', he, _⟩ := hw G a w hs hb
  exact ⟨G', hs', gok_evo he hs.hr hk, he.B⟩
end
end Go.Proofs.YtfaglgoanmcifaaGreat
namespace Go.Proofs.YtfaglgoanmcifaaGreat
open Go.RowKit
section
variable {P : Program} {T : Tab} {F : Fence} {N : Nat}
def Gh.all (w : World) : Gh := ⟨fun _ => none, fun c => c < w.heap.size, w.heap.size⟩
theorem GlOk.all {G : Gh} {h : Heap} {nx : Nat} {w : World} (hr : HR G h nx w) : GlOk (Gh.all w) w := fun p hp => ⟨hr.amb_lt _ (hr.gl p hp).1, (hr.gl p hp).2⟩
theorem HR.all {G : Gh} {h : Heap} {nx : Nat} {w : World} (hr : HR G h nx w) : HR (Gh.all w) [] 0 w :=
  ⟨fun _ h => h, Nat.le_refl _, fun _ _ => rfl, fun b blk h => by simp [hget] at h, fun b b' k k' c h => by simp [hget] at h, fun b k c h => by simp [hget] at h, (fun b c h => by cases h), fun b k h => by simp [hget] at h, GlOk.all hr⟩
theorem Gok.all {G : Gh} {h : Heap} {nx : Nat} {w : World} (hr : HR G h nx w) : Gok (Gh.all w) := ⟨(fun b c h => by cases h), fun p hp => hr.amb_lt _ (hr.gl p hp).1⟩
inductive Scalar : V → Prop
  | int {k n} : Scalar (.int k n)
  | bool {b} : Scalar (.bool b)
theorem Scalar.vr {v : V} (h : Scalar v) {G G' : Gh} {w w' : World} {u : Value} (hv : vr G w v u) : vr G' w' v u := by
  cases h <;> cases hv <;> constructor
def allF (w : World) (a : Act) : List (Nat × V) → Prop
  | [] => True
  | (i, v) :: r => vr (Gh.all w) w v (a.tmps.getD i undef) ∧ allF w a r
theorem allF.out {w : World} {a : Act} : ∀ {t : List (Nat × V)}, allF w a t → ∀ i, vr (Gh.all w) w (look t i) (a.tmps.getD i undef)
  | [], _, i => .any _
  | (j, v) :: r, h, i => by
    have e : look ((j, v) :: r) i = if j = i then v else look r i := by
      have := get_put r [] [] 0 0 j v i
      simpa [St.get] using this
    rw [e]
    by_cases hij : j = i
    · subst hij; rw [if_pos rfl]; exact h.1
    · rw [if_neg hij]; exact allF.out h.2 i
def kept (s t : List (Nat × V)) (u : Nat → Value) : List (Nat × V) → Prop
  | [] => True
  | (i, v) :: r => ((Scalar v ∧ look s i = v) ∨ (v = look t i ∧ ∃ v', look s i = .pin (u i) v')) ∧ kept s t u r
theorem kept.out {s t : List (Nat × V)} {u : Nat → Value} : ∀ {t2 : List (Nat × V)}, kept s t u t2 → ∀ i, look t2 i = .any ∨ (Scalar (look t2 i) ∧ look s i = look t2 i) ∨ (look t2 i = look t i ∧ ∃ v, look s i = .pin (u i) v)
  | [], _, i => .inl rfl
  | (j, v) :: r, h, i => by
    have e : look ((j, v) :: r) i = if j = i then v else look r i := by
      have := get_put r [] [] 0 0 j v i
      simpa [St.get] using this
    rw [e]
    by_cases hij : j = i
    · subst hij
      rw [if_pos rfl]
      rcases h.1 with ⟨h1, h2⟩ | ⟨h1, h2⟩
      · exact .inr (.inl ⟨h1, h2⟩)
      · exact .inr (.inr ⟨h1, h2⟩)
    · rw [if_neg hij]
      exact kept.out h.2 i
end
end Go.Proofs.YtfaglgoanmcifaaGreat
namespace Go.Proofs.YtfaglgoanmcifaaGreat
open Go.RowKit
def Gh.more (G : Gh) (w w' : World) : Gh := ⟨G.ι, fun c => G.amb c ∨ (w.heap.size ≤ c ∧ c < w'.heap.size), G.B⟩
theorem pcon_calls {P : Program} {f : FuncId} {fn : Func} {args : List V} {v : V} (hf : P.funcs[f]? = some fn) (hb : fn.body.isSome = true) (hn : fn.name ≠ "runtime.NumGoroutine")
    (hc : ∀ (G : Gh) (w : World) (us : List Value), HR G [] 0 w → vrs G w args us → Calls P f us.toArray w fun e w' => ∃ u, e = .returned u ∧ Below w.heap.size w w' ∧ vr (G.more w w') w' v u) : PCon P f args v := by
  refine ⟨⟨fn, hf⟩, fun G w us hr hv => .inl ⟨⟨fn, hf, hb, hn⟩, (hc G w us hr hv).mono ?_⟩⟩
  rintro e w' ⟨u, rfl, hB, hu⟩
  have hn0 : ∀ b, G.ι b = none := fun b => hr.dom b (Nat.zero_le _)
  refine ⟨u, v, [], 0, G.more w w', rfl, ⟨rfl, rfl, rfl⟩, hu, ⟨fun c hc => ?_, Nat.le_trans hr.B_le hB.size, (fun b _ => hn0 b), fun b blk h => by simp [hget] at h, fun b b' k k' c h => by simp [hget] at h, fun b k c h => by simp [hget] at h, fun b c h => (by simp [Gh.more, hn0] at h), fun b k h => by simp [hget] at h,
    hr.gl.to (fun c h => .inl h) (fun c h => hB.block c (hr.amb_lt c h))⟩,
    ⟨hB.os, hB.tape, hB.output, hB.size, rfl, fun c h => .inl h, fun c h => hB.block c (hr.amb_lt c h), fun c m h => ?_, fun b c h => (by omega), fun c h _ => hB.block c h, fun c h hlt => .inl (h.resolve_right fun h' => by omega), fun b c h => (by simp [Gh.more, hn0] at h)⟩, Nat.le_refl _⟩
  · rcases hc with hc | hc
    · exact Nat.lt_of_lt_of_le (hr.amb_lt c hc) hB.size
    · exact hc.2
  · have hlt : c < w.heap.size := by
      unfold csz at h
      split at h
      · rename_i e
        exact (Array.getElem?_eq_some_iff.1 e).1
      · cases h
    unfold csz at h ⊢
    rw [hB.block c hlt]
    exact h
theorem vrs_one {G : Gh} {w : World} {v : V} {us : List Value} (h : vrs G w [v] us) : ∃ u, us = [u] ∧ vr G w v u := by
  obtain ⟨hl, hv⟩ := h
  match us, hl with
  | [u], _ => exact ⟨u, rfl, hv 0 _ u rfl rfl⟩
theorem vrs_two {G : Gh} {w : World} {v v' : V} {us : List Value} (h : vrs G w [v, v'] us) : ∃ u u', us = [u, u'] ∧ vr G w v u ∧ vr G w v' u' := by
  obtain ⟨hl, hv⟩ := h
  match us, hl with
  | [u, u'], _ => exact ⟨u, u', rfl, hv 0 _ u rfl rfl, hv 1 _ u' rfl rfl⟩
end Go.Proofs.YtfaglgoanmcifaaGreat
namespace Go.Proofs.YtfaglgoanmcifaaGreat
open Go.RowKit
section
variable {h : Heap} {nx nx' : Nat} {ρ : Nat → Nat} {Z : List Nat}
theorem LeV.mapp {b b' : Nat} (hb : ρ b' = b) (hn : b' < nx') : LeV h nx ρ nx' Z (.mapp b) (.mapp b') := fun G w u hr hv => by
  cases hv with
  | mapp _ c hc => exact .mapp _ c (by simp [Gh.to, hn, hb, hc])
theorem Free.nilm : Free .nilm := fun _ _ _ _ _ h => by cases h; exact .nilm
theorem Fresh.nilm : Fresh .nilm := fun _ _ _ _ _ _ h => by cases h; exact .nilm
theorem Cold.nilm : Cold .nilm := fun _ _ _ _ _ _ h => by cases h; exact .nilm
theorem Free.imap {fr : Bool} {es : List (V × V)} (hf : ∀ kv ∈ es, Free kv.1 ∧ Free kv.2) : Free (.imap fr es) := fun _ _ _ _ _ hv => by
  cases hv with
  | imap _ _ c arr clk h1 h2 h3 h4 h5 =>
    exact .imap _ _ c arr clk h1 h2 h3 (fun j kv e q1 q2 => (hf kv (List.mem_of_getElem? q1)).1 _ _ _ _ _ (h4 j kv e q1 q2)) (fun j kv e q1 q2 => (hf kv (List.mem_of_getElem? q1)).2 _ _ _ _ _ (h5 j kv e q1 q2))
theorem Cold.imap {es : List (V × V)} (hf : ∀ kv ∈ es, Cold kv.1 ∧ Cold kv.2) : Cold (.imap false es) := fun _ _ _ _ _ hi hv => by
  cases hv with
  | imap _ _ c arr clk h1 h2 h3 h4 h5 =>
    exact .imap _ _ c arr clk (hi _ _ h1) h2 h3 (fun j kv e q1 q2 => (hf kv (List.mem_of_getElem? q1)).1 _ _ _ _ _ hi (h4 j kv e q1 q2)) (fun j kv e q1 q2 => (hf kv (List.mem_of_getElem? q1)).2 _ _ _ _ _ hi (h5 j kv e q1 q2))
theorem LeV.freezeM {b : Nat} {es es' : List (V × V)} (hz : b ∈ Z) (hb : hget h b = some (.map es)) (e : es = es') (hf : ∀ kv ∈ es, Free kv.1 ∧ Free kv.2) : LeV h nx ρ nx' Z (.mapp b) (.imap false es') := by
  subst e
  intro G w u hr hv
  cases hv with
  | mapp _ c hc =>
    obtain ⟨c', arr, clk, h1, hh, hok, hl, hk⟩ : MapH G w b es := hr.own b _ hb
    rw [hc] at h1
    obtain rfl := Option.some.inj h1
    have up : ∀ {v : V} {x : Value}, Free v → vr G w v x → vr (G.to ρ nx' Z) w v x := fun hfv hx =>
      hfv _ _ _ _ _ (VR.mono (ι := G.ι) (ι' := G.ι) (imm' := imm (G.to ρ nx' Z) w) (fun _ _ h => h) (fun _ _ h => h) (fun _ _ _ hi => ⟨hi.1, .inl hi.2.1, hi.2.2.1, hi.2.2.2⟩) hx)
    exact .imap false es c arr clk ⟨rd_map.2 hh, .inr ⟨b, hz, hc⟩, (fun h => by cases h), (fun h => by cases h)⟩ hok hl
      (fun j kv e q1 q2 => up (hf kv (List.mem_of_getElem? q1)).1 (hk j kv e q1 q2).1) (fun j kv e q1 q2 => up (hf kv (List.mem_of_getElem? q1)).2 (hk j kv e q1 q2).2)
theorem LeB.map {es es' : List (V × V)} (e : es = es') (hf : ∀ kv ∈ es, Free kv.1 ∧ Free kv.2) : LeB h nx ρ nx' Z (.map es) (.map es') := by
  subst e
  exact ⟨rfl, fun j kv kv' h1 h2 => by
    rw [h1] at h2; cases h2
    have := hf kv (List.mem_of_getElem? h1)
    exact ⟨.free this.1, .free this.2⟩⟩
theorem LeB.iter {cur : Option (V × V)} {rest rest' : List (V × V)} (e : rest = rest') (hf : ∀ kv ∈ rest, Free kv.1 ∧ Free kv.2) : LeB h nx ρ nx' Z (.iter cur rest) (.iter none rest') := by
  subst e
  exact ⟨rfl, fun j kv kv' h1 h2 => by
    rw [h1] at h2; cases h2
    have := hf kv (List.mem_of_getElem? h1)
    exact ⟨.free this.1, .free this.2⟩, fun kv' h => by cases h⟩
end
end Go.Proofs.YtfaglgoanmcifaaGreat
namespace Go.Proofs.YtfaglgoanmcifaaGreat
open Go.RowKit
theorem roundV_eq {P : Program} {T : Tab} {N : Nat} (hT : TabOk P T) (hm : P.follows .mixedOrders = true) {b nx : Nat} {t : List (Nat × V)} {ps : List Nat} {asg body asg0 body0 : Code} {args : List V} {h : Heap} {K : V → Heap → Nat → Prop} (ea : asg = asg0) (eb : body = body0)
    (h1 : args.length = ps.length) (h2 : ∀ p ∈ ps, p < N) (h3 : b < nx)
    (hv : vcg P T N nx true asg0 ⟨zipPs ps args t, h, nx⟩ (fun e s1 => match e with
      | .normal => hget s1.h b = some (.loop N t ps asg body .ready none) ∧ vcg P T N nx true body0 ⟨s1.t, (b, some (.loop N t ps asg body .busy none)) :: s1.h, s1.nx⟩ (fun e2 s2 => hget s2.h b = some (.loop N t ps asg body .busy none) ∧
          match e2 with
          | .normal => K (.bool true) ((b, some (.loop N t ps asg body .ready none)) :: s2.h) s2.nx
          | e2 => K (.bool false) ((b, some (.loop N t ps asg body .done (some e2.code))) :: s2.h) s2.nx)
      | _ => False)) : RoundV P N b t ps asg body args h nx K := by
  subst ea eb
  exact roundV_of hT hm h1 h2 h3 hv
end Go.Proofs.YtfaglgoanmcifaaGreat
namespace Go.Proofs.YtfaglgoanmcifaaGreat
open Go.RowKit
theorem VR.mono2 {ι csz csz' : Nat → Option Nat} {imm imm' : Bool → Addr → Value → Prop}
    (hz : ∀ b c m, ι b = some c → csz c = some m → csz' c = some m) (hi : ∀ fr a u, imm fr a u → imm' fr a u)
    {v : V} {u : Value} (h : VR ι csz imm v u) : VR ι csz' imm' v u := by
  induction h with
  | any u => exact .any u
  | int k n => exact .int k n
  | bool b => exact .bool b
  | str s => exact .str s
  | agg cs us hl _ ih => exact .agg cs us hl ih
  | tup cs us hl _ ih => exact .tup cs us hl ih
  | snil A => exact .snil A
  | sl fr sz xs A cap us hcap hm hA hrow hc _ ih => exact .sl fr sz xs A cap us hcap hm hA hrow (fun j v hj ad ha => hi _ _ _ (hc j v hj ad ha)) ih
  | iptr fr cs ad us hs hc _ ih => exact .iptr fr cs ad us hs (fun j v hj => hi _ _ _ (hc j v hj)) ih
  | nilp => exact .nilp
  | ptr b col c h => exact .ptr b col c h
  | eptr b sz row col c h => exact .eptr b sz row col c h
  | osl b sz row n c cap m h z he hn hm => exact .osl b sz row n c cap m h (hz _ _ _ h z) he hn hm
  | oslz b sz row A => exact .oslz b sz row A
  | nilf => exact .nilf
  | fn f fs cs us ws hf hc _ _ ih1 ih2 => exact .fn f fs cs us ws hf hc ih1 ih2
  | nili => exact .nili
  | ifc t v u _ ih => exact .ifc t v u ih
  | opt c v u _ h0 ih => exact .opt c v u ih h0
  | yld b c h => exact .yld b c h
  | ubool b => exact .ubool b
  | psl b sz row n c cap m h z he hn hm => exact .psl b sz row n c cap m h (hz _ _ _ h z) he hn hm
  | pin u v _ ih => exact .pin u v ih
  | mapp b c h => exact .mapp b c h
  | nilm => exact .nilm
  | imap fr es c arr clk hc hok hl _ _ ih1 ih2 => exact .imap fr es c arr clk (hi _ _ _ hc) hok hl ih1 ih2
structure Agr (G G' : Gh) (h : Heap) (w w' : World) : Prop where
  size : w.heap.size ≤ w'.heap.size
  ι : G'.ι = G.ι
  B : G'.B = G.B
  sub : ∀ c, G.amb c → G'.amb c
  amb : ∀ c, G.amb c → w'.heap[c]? = w.heap[c]?
  own : ∀ b blk c, hget h b = some blk → G.ι b = some c → w'.heap[c]? = w.heap[c]?
  csz : ∀ b c m, G.ι b = some c → csz w c = some m → csz w' c = some m
theorem Agr.imm {G G' : Gh} {h : Heap} {w w' : World} (ha : Agr G G' h w w') {fr : Bool} {a : Addr} {u : Value} (hi : imm G w fr a u) : imm G' w' fr a u :=
  ⟨(rd_of_block (ha.amb _ hi.2.1)).trans hi.1, ha.sub _ hi.2.1, fun hf => by rw [frozen_of_block (ha.amb _ hi.2.1), ha.B]; exact hi.2.2.1 hf, hi.2.2.2⟩
theorem Agr.vr {G G' : Gh} {h : Heap} {w w' : World} (ha : Agr G G' h w w') {v : V} {u : Value} (hv : vr G w v u) : vr G' w' v u := by
  show VR G'.ι _ _ v u
  rw [ha.ι]
  exact VR.mono2 ha.csz (fun _ _ _ hi => ha.imm hi) hv
theorem Agr.blk {G G' : Gh} {h : Heap} {w w' : World} (ha : Agr G G' h w w') {b : Nat} {blk : Blk} (hb : hget h b = some blk) (this : BlkOk G w b blk) : BlkOk G' w' b blk := by
  have hc : ∀ c, G.ι b = some c → w'.heap[c]? = w.heap[c]? := fun c => ha.own b blk c hb
  have hι : ∀ c, G.ι b = some c → G'.ι b = some c := fun c h => by rw [ha.ι]; exact h
  have hh : ∀ {fr ex ty vs}, Holds G w b fr ex ty vs → Holds G' w' b fr ex ty vs := by
    rintro fr ex ty vs ⟨c, cs, h1, h2, h3, h4, h5, h6, h7⟩
    exact ⟨c, cs, hι c h1, (hc c h1).trans h2, h3, h4, fun hf => by rw [ha.B]; exact h5 hf, fun j v hj => let ⟨u, hu, h1, hr⟩ := h6 j v hj; ⟨u, hu, h1, ha.vr hr⟩, h7⟩
  cases blk with
  | var fr ty cells => exact hh this
  | arr fr ex ty sz rows =>
    refine ⟨this.1, ?_⟩
    rcases this.2 with ⟨h1, h2⟩ | h1
    · exact .inl ⟨by rw [ha.ι]; exact h1, h2⟩
    · exact .inr (hh h1)
  | loop N t ps asg body st pend =>
    obtain ⟨c, r, h1, h2, h3, h4, h5, h6, h7, h8, h9⟩ := this
    exact ⟨c, r, hι c h1, (hc c h1).trans h2, h3, h4, h5, h6, h7, h8, fun i => ha.vr (h9 i)⟩
  | map es =>
    exact MapH.to this hι hc rfl fun j kv kv' h1 h2 => by
      obtain rfl := same_of h1 h2
      exact ⟨fun _ => ha.vr, fun _ => ha.vr⟩
  | iter cur rest =>
    exact IterH.to this hι hc (fun _ _ _ hi => ha.imm hi) rfl (fun j kv kv' h1 h2 => by
      obtain rfl := same_of h1 h2
      exact ⟨fun _ => ha.vr, fun _ => ha.vr⟩) fun kv hkv => ⟨kv, hkv, fun _ => ha.vr, fun _ => ha.vr⟩
theorem Agr.hr {G : Gh} {h : Heap} {nx : Nat} {w w' : World} (ha : Agr G G h w w') (hr : HR G h nx w) : HR G h nx w' :=
  ⟨fun c hc => Nat.lt_of_lt_of_le (hr.amb_lt c hc) ha.size, Nat.le_trans hr.B_le ha.size, hr.dom, fun b blk hb => ha.blk hb (hr.own b blk hb), hr.inj, hr.apart, fun b c hc => Nat.lt_of_lt_of_le (hr.lt b c hc) ha.size, hr.hdom, hr.gl.to (fun _ h => h) ha.amb⟩
def Gh.from (w : World) (B : Nat) : Gh := ⟨fun _ => none, fun c => B ≤ c ∧ c < w.heap.size, B⟩
def CallB (P : Program) (f : FuncId) (args : List V) (h : Heap) (nx : Nat) (R : V → Heap → Nat → Prop) : Prop :=
  (∃ fn, P.funcs[f]? = some fn) ∧
  ∀ (G : Gh) (w : World) (us : List Value), HR G h nx w → vrs G w args us →
    Cal P f us.toArray w fun e w' => ∃ u v h' nx' G' B', e = .returned u ∧ R v h' nx' ∧ HR G' h' nx' w' ∧ Evo nx G w G' w' ∧ nx ≤ nx' ∧
      (∀ c, G'.amb c → c < B') ∧ (∀ b c, G'.ι b = some c → c < B') ∧ w.heap.size ≤ B' ∧ B' ≤ w'.heap.size ∧ vr (Gh.from w' B') w' v u
theorem CallB.mono {P : Program} {f : FuncId} {args : List V} {h : Heap} {nx : Nat} {R R' : V → Heap → Nat → Prop} (hc : CallB P f args h nx R) (hr : ∀ v h' nx', R v h' nx' → R' v h' nx') : CallB P f args h nx R' :=
  ⟨hc.1, fun G w us hh hv => (hc.2 G w us hh hv).mono fun e w' ⟨u, v, h', nx', G', B', h1, h2, h3⟩ => ⟨u, v, h', nx', G', B', h1, hr _ _ _ h2, h3⟩⟩
theorem CallB.callV {P : Program} {f : FuncId} {args : List V} {h : Heap} {nx : Nat} {R : V → Heap → Nat → Prop} (hc : CallB P f args h nx R) : CallV P f args h nx R := by
  refine ⟨hc.1, fun G w us hr hv => (hc.2 G w us hr hv).mono ?_⟩
  rintro e w' ⟨u, v, h', nx', G', B', rfl, hR, hr', he, hn, ha, hi, hB, hBs, hvr⟩
  have hle : G.B ≤ B' := Nat.le_trans hr.B_le hB
  have hGB : G'.B = G.B := he.B
  have ag : Agr G' ⟨G'.ι, fun c => G'.amb c ∨ (B' ≤ c ∧ c < w'.heap.size), G'.B⟩ h' w' w' := ⟨Nat.le_refl _, rfl, rfl, fun c hc => .inl hc, fun _ _ => rfl, fun _ _ _ _ _ => rfl, fun _ _ _ _ h => h⟩
  refine ⟨u, v, h', nx', ⟨G'.ι, fun c => G'.amb c ∨ (B' ≤ c ∧ c < w'.heap.size), G'.B⟩, rfl, hR, ?_, ⟨fun c hc => ?_, hr'.B_le, hr'.dom, fun b blk hb => ag.blk hb (hr'.own b blk hb), hr'.inj, fun b blk c hb hc hacc => ?_, hr'.lt, hr'.hdom, hr'.gl.to (fun _ h => .inl h) (fun _ _ => rfl)⟩,
    ⟨he.os, he.tape, he.output, he.size, he.B, fun c hc => .inl (he.amb c hc), he.keep, he.csz, he.ids, he.keepu, fun c hc hlt => ?_, he.idn⟩, hn⟩
  · refine VR.mono (fun b c h => by cases h) (fun _ _ h => h) (fun fr a u hi => ⟨hi.1, .inr hi.2.1, fun hf => ⟨?_, (hi.2.2.1 hf).2⟩, hi.2.2.2⟩) hvr
    have := (hi.2.2.1 hf).1
    show G'.B ≤ _
    rw [hGB]; exact Nat.le_trans hle this
  · rcases hc with hc | hc
    · exact hr'.amb_lt c hc
    · exact hc.2
  · rcases hacc with h | h
    · exact hr'.apart b blk c hb hc h
    · have := hi b c hc; omega
  · rcases hc with hc | hc
    · exact he.ambn c hc hlt
    · omega
theorem callB_frame {P : Program} {f : FuncId} {args args0 : List V} {h h0 : Heap} {nx n0 : Nat} {R K : V → Heap → Nat → Prop} (ρ : Nat → Nat) (hc : CallB P f args0 h0 n0 R)
    (ha : LeL h nx ρ n0 [] args args0) (hh : LeH 0 h nx ρ n0 [] h0) (hlive : ∀ b, b < n0 → hget h (ρ b) ≠ none) (hinj : ∀ b, b < n0 → ∀ b', b' < n0 → ρ b = ρ b' → b = b')
    (hK : ∀ v h' nx', R v h' nx' → n0 ≤ nx' → ∃ h2, frH ρ n0 nx nx' h h' h2 ∧ K v h2 (nx + (nx' - n0))) : CallB P f args h nx K := by
  refine ⟨hc.1, fun G w us hr hv => ?_⟩
  obtain ⟨hr0, _⟩ := hh.ok hr
  refine (hc.2 _ w us hr0 (ha.vrs hr hv)).mono ?_
  rintro e w' ⟨u, v, h', nx', G1, B1, rfl, hR, hr1, E, hle, hamB, hιB, hBw, hBs, hv1⟩
  obtain ⟨h2, hfr, hK⟩ := hK v h' nx' hR hle
  classical
  have hto : ∀ b c, (G.to ρ n0 []).ι b = some c → b < n0 ∧ G.ι (ρ b) = some c := by
    intro b c hb
    simp only [Gh.to] at hb
    split at hb
    · rename_i hlt; exact ⟨hlt, hb⟩
    · cases hb
  have hlt0 : ∀ b, b < n0 → ρ b < nx := fun b hb => by
    cases hg : hget h (ρ b) with
    | none => exact absurd hg (hlive b hb)
    | some k => exact hr.hdom _ k hg
  -- the ids of the caller
  let pre : Nat → Option Nat := fun b => (List.range n0).find? (fun b1 => ρ b1 == b)
  have hpre : ∀ b b1, pre b = some b1 → b1 < n0 ∧ ρ b1 = b := by
    intro b b1 hp
    have h1 := List.mem_of_find?_eq_some hp
    have h3 := List.find?_some hp
    exact ⟨by simpa using h1, by simpa using h3⟩
  have hpre0 : ∀ b, pre b = none → ∀ b1, b1 < n0 → ρ b1 ≠ b := by
    intro b hp b1 hb1 e
    have := List.find?_eq_none.1 hp b1 (by simpa using hb1)
    simp [e] at this
  have hpre1 : ∀ b1, b1 < n0 → pre (ρ b1) = some b1 := by
    intro b1 hb1
    cases hp : pre (ρ b1) with
    | none => exact absurd rfl (hpre0 _ hp b1 hb1)
    | some b2 => rw [hinj b2 (hpre _ _ hp).1 b1 hb1 (hpre _ _ hp).2]
  have hpren : ∀ b, nx ≤ b → pre b = none := by
    intro b hb
    cases hp : pre b with
    | none => rfl
    | some b2 => have := hpre _ _ hp; have := hlt0 b2 this.1; omega
  let ι' : Nat → Option Nat := fun b => match pre b with
    | some b1 => G1.ι b1
    | none => if b < nx then G.ι b else if b - nx + n0 < nx' then G1.ι (b - nx + n0) else none
  let G' : Gh := ⟨ι', G1.amb, G.B⟩
  have hB : G1.B = G.B := E.B
  have hι : ∀ b, G'.ι (sig ρ n0 nx b) = G1.ι b := by
    intro b
    show (match pre (sig ρ n0 nx b) with | some b1 => G1.ι b1 | none => if sig ρ n0 nx b < nx then G.ι (sig ρ n0 nx b) else if sig ρ n0 nx b - nx + n0 < nx' then G1.ι (sig ρ n0 nx b - nx + n0) else none) = _
    rcases Nat.lt_or_ge b n0 with hlt | hge
    · have e : sig ρ n0 nx b = ρ b := by simp [sig, hlt]
      rw [e, hpre1 b hlt]
    · have e : sig ρ n0 nx b = nx + (b - n0) := by simp [sig, Nat.not_lt.2 hge]
      rw [e, hpren _ (by omega)]
      simp only
      rw [if_neg (by omega), show nx + (b - n0) - nx + n0 = b by omega]
      split
      · rfl
      · rename_i hge; exact (hr1.dom b (by omega)).symm
  have hιk : ∀ b, pre b = none → b < nx → G'.ι b = G.ι b := by
    intro b hp hb
    show (match pre b with | some b1 => G1.ι b1 | none => if b < nx then G.ι b else if b - nx + n0 < nx' then G1.ι (b - nx + n0) else none) = _
    rw [hp]
    simp [hb]
  have hιold : ∀ b c, G.ι b = some c → G'.ι b = some c := by
    intro b c hc
    have hb : b < nx := by
      rcases Nat.lt_or_ge b nx with h1 | h1
      · exact h1
      · rw [hr.dom b h1] at hc; cases hc
    cases hp : pre b with
    | none => rw [hιk b hp hb]; exact hc
    | some b1 =>
      obtain ⟨h1, h3⟩ := hpre b b1 hp
      show (match pre b with | some b1 => G1.ι b1 | none => if b < nx then G.ι b else if b - nx + n0 < nx' then G1.ι (b - nx + n0) else none) = _
      rw [hp]
      refine E.ids b1 c h1 ?_
      simp only [Gh.to, h1, if_true, h3]
      exact hc
  -- where an id of the caller's comes from
  have hfrom : ∀ b c, G'.ι b = some c → (∃ b1, sig ρ n0 nx b1 = b ∧ G1.ι b1 = some c) ∨ (pre b = none ∧ b < nx ∧ G.ι b = some c) := by
    intro b c hc
    cases hp : pre b with
    | some b1 =>
      obtain ⟨h1, h3⟩ := hpre b b1 hp
      refine .inl ⟨b1, by simp [sig, h1, h3], ?_⟩
      rw [← hι b1, show sig ρ n0 nx b1 = b by simp [sig, h1, h3]]
      exact hc
    | none =>
      rcases Nat.lt_or_ge b nx with hb | hb
      · exact .inr ⟨rfl, hb, by rw [← hιk b hp hb]; exact hc⟩
      · have e : sig ρ n0 nx (b - nx + n0) = b := by
          unfold sig
          rw [if_neg (by omega)]
          omega
        refine .inl ⟨b - nx + n0, e, ?_⟩
        rw [← hι, e]
        exact hc
  have hidn1 : ∀ b1 c, G1.ι b1 = some c → c < w.heap.size → ∃ b0, b0 < n0 ∧ G.ι (ρ b0) = some c := by
    intro b1 c hc hlt
    obtain ⟨b0, hb0⟩ := E.idn b1 c hc hlt
    exact ⟨b0, hto b0 c hb0⟩
  have ham : ∀ c, G1.amb c → c < w.heap.size → G.amb c ∨ ∃ b0, b0 < n0 ∧ G.ι (ρ b0) = some c := by
    intro c hc hlt
    rcases E.ambn c hc hlt with (h1 | ⟨_, h1, _⟩) | ⟨b, h1⟩
    · exact .inl h1
    · simp at h1
    · exact .inr ⟨b, hto b c h1⟩
  have he : EvoA G w G' w' := fun base => ⟨E.os, E.tape, E.output, E.size, rfl, fun c hc => E.amb c (.inl hc), fun c hc => E.keep c (.inl hc), E.csz, fun b c _ hc => hιold b c hc,
    fun c hc hn => E.keepu c hc (fun b hb => hn _ (hto b c hb).2),
    fun c hc hlt => (ham c hc hlt).imp_right (fun ⟨b0, _, h1⟩ => ⟨_, h1⟩), fun b c hc hlt => by
      rcases hfrom b c hc with ⟨b1, _, h3⟩ | ⟨_, _, h3⟩
      · obtain ⟨b0, _, h4⟩ := hidn1 b1 c h3 hlt; exact ⟨_, h4⟩
      · exact ⟨b, h3⟩⟩
  have him : ∀ fr a u, imm G1 w' fr a u → imm G' w' fr a u := fun fr a u hi => ⟨hi.1, hi.2.1, fun hf => by have := hi.2.2.1 hf; rw [hB] at this; exact this, hi.2.2.2⟩
  have hrest : ∀ b c, (∀ b1, b1 < n0 → ρ b1 ≠ b) → ∀ k, hget h b = some k → G.ι b = some c → ∀ b0, b0 < n0 → G.ι (ρ b0) ≠ some c := by
    intro b c hne k hk hc b0 hb0 h0
    cases hg : hget h (ρ b0) with
    | none => exact hlive b0 hb0 hg
    | some k' => exact hne b0 hb0 (hr.inj _ _ k' k c hg hk h0 hc)
  refine ⟨u, v, h2, nx + (nx' - n0), G', B1, rfl, hK, ⟨hr1.amb_lt, Nat.le_trans hr.B_le E.size, fun b hb => ?_, fun b blk hb => ?_, fun b1 b2 k1 k2 c h1 h3 h4 h5 => ?_, fun b blk c hb hc hacc => ?_, fun b c hc => ?_, fun b blk hb => ?_, hr.gl.evo (he 0)⟩, he nx, by omega, hamB, fun b c hc => ?_, hBw, hBs, hv1⟩
  · show (match pre b with | some b1 => G1.ι b1 | none => if b < nx then G.ι b else if b - nx + n0 < nx' then G1.ι (b - nx + n0) else none) = _
    rw [hpren b (by omega)]
    simp only
    rw [if_neg (by omega), if_neg (by omega)]
  · rcases hfr.out b blk hb with ⟨b1, rfl, _, k, hk, hrb⟩ | ⟨hne, hk⟩
    · exact hrb.ok hι him hB.symm (hr1.own b1 k hk)
    · refine (hr.own b blk hk).keep he (fun c hc => E.keepu c (hr.lt b c hc) (fun b1 hb1 => ?_)) (fun hn => ?_)
      · obtain ⟨q1, q2⟩ := hto b1 c hb1
        exact hrest b c hne blk hk hc b1 q1 q2
      · have hb' := hr.hdom b blk hk
        have hp : pre b = none := by
          cases hp : pre b with
          | none => rfl
          | some b1 => exact absurd (hpre b b1 hp).2 (hne b1 (hpre b b1 hp).1)
        rw [hιk b hp hb']; exact hn
  · rcases hfr.out b1 k1 h1 with ⟨a1, rfl, _, q1, hq1, _⟩ | ⟨hne1, hk1⟩ <;> rcases hfr.out b2 k2 h3 with ⟨a2, rfl, _, q2, hq2, _⟩ | ⟨hne2, hk2⟩
    · rw [hι] at h4 h5
      rw [hr1.inj a1 a2 q1 q2 c hq1 hq2 h4 h5]
    · rw [hι] at h4
      have hg := hfrom b2 c h5
      have hb2 := hr.hdom b2 k2 hk2
      rcases hg with ⟨a2, rfl, h6⟩ | ⟨_, _, h6⟩
      · exact congrArg _ (by
          have : a2 < n0 ∨ n0 ≤ a2 := Nat.lt_or_ge a2 n0
          rcases this with h7 | h7
          · exact absurd (by simp [sig, h7]) (hne2 a2 h7)
          · simp [sig, Nat.not_lt.2 h7] at hb2; omega)
      · obtain ⟨b0, hb0, h7⟩ := hidn1 a1 c h4 (hr.lt b2 c h6)
        exact absurd h7 (hrest b2 c hne2 k2 hk2 h6 b0 hb0)
    · rw [hι] at h5
      have hg := hfrom b1 c h4
      have hb2 := hr.hdom b1 k1 hk1
      rcases hg with ⟨a2', rfl, h6⟩ | ⟨_, _, h6⟩
      · exact congrArg _ (by
          have : a2' < n0 ∨ n0 ≤ a2' := Nat.lt_or_ge a2' n0
          rcases this with h7 | h7
          · exact absurd (by simp [sig, h7]) (hne1 a2' h7)
          · simp [sig, Nat.not_lt.2 h7] at hb2; omega)
      · obtain ⟨b0, hb0, h7⟩ := hidn1 a2 c h5 (hr.lt b1 c h6)
        exact absurd h7 (hrest b1 c hne1 k1 hk1 h6 b0 hb0)
    · have e1 : G.ι b1 = some c := by
        rcases hfrom b1 c h4 with ⟨a2, rfl, h6⟩ | ⟨_, _, h6⟩
        · have hb2 := hr.hdom _ k1 hk1
          rcases Nat.lt_or_ge a2 n0 with h7 | h7
          · exact absurd (by simp [sig, h7]) (hne1 a2 h7)
          · simp [sig, Nat.not_lt.2 h7] at hb2; omega
        · exact h6
      have e2 : G.ι b2 = some c := by
        rcases hfrom b2 c h5 with ⟨a2, rfl, h6⟩ | ⟨_, _, h6⟩
        · have hb2 := hr.hdom _ k2 hk2
          rcases Nat.lt_or_ge a2 n0 with h7 | h7
          · exact absurd (by simp [sig, h7]) (hne2 a2 h7)
          · simp [sig, Nat.not_lt.2 h7] at hb2; omega
        · exact h6
      exact hr.inj b1 b2 k1 k2 c hk1 hk2 e1 e2
  · rcases hfr.out b blk hb with ⟨b1, rfl, _, k, hk, _⟩ | ⟨hne, hk⟩
    · rw [hι] at hc
      exact hr1.apart b1 k c hk hc hacc
    · have e1 : G.ι b = some c := by
        rcases hfrom b c hc with ⟨a2, rfl, h6⟩ | ⟨_, _, h6⟩
        · have hb2 := hr.hdom _ blk hk
          rcases Nat.lt_or_ge a2 n0 with h7 | h7
          · exact absurd (by simp [sig, h7]) (hne a2 h7)
          · simp [sig, Nat.not_lt.2 h7] at hb2; omega
        · exact h6
      rcases ham c hacc (hr.lt b c e1) with h6 | ⟨b0, hb0, h6⟩
      · exact hr.apart b blk c hk e1 h6
      · exact hrest b c hne blk hk e1 b0 hb0 h6
  · rcases hfrom b c hc with ⟨b1, _, h6⟩ | ⟨_, _, h6⟩
    · exact hr1.lt b1 c h6
    · exact Nat.lt_of_lt_of_le (hr.lt b c h6) E.size
  · rcases hfr.out b blk hb with ⟨b1, rfl, hlt, k, hk, _⟩ | ⟨hne, hk⟩
    · unfold sig
      split
      · rename_i h7; have := hlt0 b1 h7; omega
      · omega
    · have := hr.hdom b blk hk; omega
  · rcases hfrom b c hc with ⟨b1, _, h6⟩ | ⟨_, _, h6⟩
    · exact hιB b1 c h6
    · exact Nat.lt_of_lt_of_le (hr.lt b c h6) hBw
structure Two (base : Nat) (G : Gh) (w : World) (G1 : Gh) (h1 : Heap) (nx1 : Nat) (G2 : Gh) (w' : World) : Prop where
  hr : HR G1 h1 nx1 w'
  evo : Evo base G w G1 w'
  nx : base ≤ nx1
  amb : ∀ c, G1.amb c → c < G2.B ∧ G2.amb c
  lt : ∀ b c, G1.ι b = some c → c < G2.B
  own : ∀ b blk c, hget h1 b = some blk → G1.ι b = some c → G2.amb c
  B : w.heap.size ≤ G2.B
  idn : ∀ b c, G2.ι b = some c → c < w.heap.size → ∃ b', G.ι b' = some c
  ambn : ∀ c, G2.amb c → c < w.heap.size → G.amb c ∨ ∃ b, G.ι b = some c
theorem Two.step {base base2 : Nat} {G G1 G2 G2' : Gh} {w w1 w' : World} {h1 : Heap} {nx1 : Nat} (t : Two base G w G1 h1 nx1 G2 w1) (e : Evo base2 G2 w1 G2' w') : Two base G w G1 h1 nx1 G2' w' := by
  have ag : Agr G1 G1 h1 w1 w' := ⟨e.size, rfl, rfl, fun _ h => h, fun c hc => e.keep c (t.amb c hc).2, fun b blk c hb hc => e.keep c (t.own b blk c hb hc), fun b c m _ hm => e.csz c m hm⟩
  refine ⟨ag.hr t.hr, ⟨e.os.trans t.evo.os, e.tape.trans t.evo.tape, e.output.trans t.evo.output, Nat.le_trans t.evo.size e.size, t.evo.B, t.evo.amb, fun c hc => (e.keep c (t.amb c (t.evo.amb c hc)).2).trans (t.evo.keep c hc), fun c m hm => e.csz c m (t.evo.csz c m hm), t.evo.ids, fun c hc hn => ?_, t.evo.ambn, t.evo.idn⟩, t.nx, fun c hc => ⟨by rw [e.B]; exact (t.amb c hc).1, e.amb c (t.amb c hc).2⟩, fun b c hc => by rw [e.B]; exact t.lt b c hc, fun b blk c hb hc => e.amb c (t.own b blk c hb hc), by rw [e.B]; exact t.B, fun b c hc hlt => ?_, fun c hc hlt => ?_⟩
  · refine (e.keepu c (Nat.lt_of_lt_of_le hc t.evo.size) (fun b hb => ?_)).trans (t.evo.keepu c hc hn)
    obtain ⟨b', hb'⟩ := t.idn b c hb hc
    exact hn b' hb'
  · obtain ⟨b', hb'⟩ := e.idn b c hc (Nat.lt_of_lt_of_le hlt t.evo.size)
    exact t.idn b' c hb' hlt
  · rcases e.ambn c hc (Nat.lt_of_lt_of_le hlt t.evo.size) with h | ⟨b, h⟩
    · exact t.ambn c h hlt
    · exact .inr (t.idn b c h hlt)
theorem Two.behind {base : Nat} {G Ga G1 G2 : Gh} {w wa w' : World} {h1 : Heap} {nx1 : Nat} (e : Evo base G w Ga wa) (t : Two base Ga wa G1 h1 nx1 G2 w') : Two base G w G1 h1 nx1 G2 w' :=
  ⟨t.hr, e.trans t.evo, t.nx, t.amb, t.lt, t.own, Nat.le_trans e.size t.B, fun b c hc hlt => by
    obtain ⟨b', hb'⟩ := t.idn b c hc (Nat.lt_of_lt_of_le hlt e.size)
    exact e.idn b' c hb' hlt, fun c hc hlt => by
    rcases t.ambn c hc (Nat.lt_of_lt_of_le hlt e.size) with h | ⟨b, h⟩
    · exact e.ambn c h hlt
    · exact .inr (e.idn b c h hlt)⟩
theorem Dfr.two {base : Nat} {w0 : World} {Ga G1 G2 : Gh} {wa w' : World} {h1 : Heap} {nx1 : Nat} {D D' : List Deferred} (h : Dfr w0 Ga wa D D') (t : Two base Ga wa G1 h1 nx1 G2 w') : Dfr w0 G2 w' D D' := by
  obtain ⟨ms, h1, h2, h3⟩ := h
  refine ⟨ms, h1, fun r hr => ?_, h3⟩
  obtain ⟨q1, q2, q3, q4⟩ := h2 r hr
  have hlt := lt_of_heap q2
  refine ⟨q1, (t.evo.keepu r hlt q3).trans q2, fun b hb => ?_, fun ha => ?_⟩
  · obtain ⟨b', hb'⟩ := t.idn b r hb hlt
    exact q3 b' hb'
  · rcases t.ambn r ha hlt with h | ⟨b, h⟩
    · exact q4 h
    · exact q3 b h
theorem Dfr.append {w0 w1 : World} {G2 : Gh} {w2 : World} {D D1 D2 : List Deferred} (h : Dfr w0 G2 w2 D D1) (h0 : ∀ ms : List Nat, D1 = (ms.map fun r => { target := .collected r, args := #[] }) ++ D → ∀ r ∈ ms, r < w1.heap.size) (hw : w0.heap.size ≤ w1.heap.size) (k : Dfr w1 G2 w2 D1 D2) : Dfr w0 G2 w2 D D2 := by
  obtain ⟨ms, h1, h2, h3⟩ := h
  obtain ⟨ms2, k1, k2, k3⟩ := k
  refine ⟨ms2 ++ ms, by rw [k1, h1]; simp, fun r hr => ?_, List.pairwise_append.2 ⟨k3, h3, fun a ha b hb e => ?_⟩⟩
  · rcases List.mem_append.1 hr with hr | hr
    · have := k2 r hr
      exact ⟨by omega, this.2⟩
    · exact h2 r hr
  · have := (k2 a ha).1
    have := h0 ms h1 b hb
    omega
theorem Dfr.old {w0 w1 : World} {G : Gh} {D D1 : List Deferred} (h : Dfr w0 G w1 D D1) : ∀ ms : List Nat, D1 = (ms.map fun r => { target := .collected r, args := #[] }) ++ D → ∀ r ∈ ms, r < w1.heap.size := by
  intro ms hms r hr
  obtain ⟨ms0, h10, h20, _⟩ := h
  have : ms0 = ms := by
    have e := h10.symm.trans hms
    have e2 := List.append_cancel_right e
    exact (List.map_inj_right (fun a b hab => by simpa using hab)).1 e2
  subst this
  exact lt_of_heap (h20 r hr).2.1
section
variable {P : Program} {T : Tab} {F : Fence} {N : Nat}
def PostM (N base : Nat) (G : Gh) (w : World) (D : List Deferred) (K : Ex → Heap → Nat → St → Prop) (e : Exit) (a' : Act) (w' : World) : Prop :=
  ∃ e' h1 nx1 G1 s2 G2, e = Ex.to e' ∧ K e' h1 nx1 s2 ∧ Two base G w G1 h1 nx1 G2 w' ∧ Sim G2 N s2 a' w' ∧ Dfr w G2 w' D a'.defers
def VM (P : Program) (F : Fence) (N base : Nat) (c : Code) (s : St) (K : Ex → Heap → Nat → St → Prop) : Prop :=
  ∀ (n : Nat) (G : Gh) (a : Act) (w : World), Sim G N s a w → base ≤ s.nx → c.wpIn F n P (PostM N base G w a.defers K) a w
theorem VM.mono {base : Nat} {c : Code} {s : St} {K K' : Ex → Heap → Nat → St → Prop} (h : VM P F N base c s K) (hk : ∀ e h1 nx1 s2, K e h1 nx1 s2 → K' e h1 nx1 s2) : VM P F N base c s K' :=
  fun n G a w hs hb => wpIn_mono (h n G a w hs hb) fun e a' w' ⟨e', h1, nx1, G1, s2, G2, q1, q2, q3⟩ => ⟨e', h1, nx1, G1, s2, G2, q1, hk _ _ _ _ q2, q3⟩
theorem PostM.evo {base : Nat} {G Ga : Gh} {w wa : World} {D D1 : List Deferred} {K : Ex → Heap → Nat → St → Prop} {e : Exit} {a' : Act} {w' : World} (h : PostM N base Ga wa D1 K e a' w') (he : Evo base G w Ga wa) (hd : Dfr w Ga wa D D1) : PostM N base G w D K e a' w' := by
  obtain ⟨e', h1, nx1, G1, s2, G2, q1, q2, q3, q4, q5⟩ := h
  exact ⟨e', h1, nx1, G1, s2, G2, q1, q2, q3.behind he, q4, (hd.two q3).append hd.old he.size q5⟩
theorem PostM.vc {base base2 : Nat} {G G1 G2 : Gh} {w w1 : World} {D D1 : List Deferred} {h1 : Heap} {nx1 : Nat} {Q : Ex → St → Prop} {e : Exit} {a' : Act} {w' : World} (t : Two base G w G1 h1 nx1 G2 w1) (hd : Dfr w G2 w1 D D1) (h : Post N base2 G2 w1 D1 Q e a' w') : PostM N base G w D (fun e h' nx' s => h' = h1 ∧ nx' = nx1 ∧ Q e s) e a' w' := by
  obtain ⟨e', s', G2', q1, q2, q3, q4, q5, q6⟩ := h
  exact ⟨e', h1, nx1, G1, s', G2', q1, ⟨rfl, rfl, q2⟩, t.step q4, q3, hd.trans q4 t.evo.size q6⟩
theorem vm_seq {base : Nat} {x y : Code} {s : St} {K : Ex → Heap → Nat → St → Prop} (h : VC P F N base x s (thenK (fun s' => VM P F N base y s' K) (fun _ _ => False))) : VM P F N base (.seq x y) s K := by
  intro n G a w hs hb
  refine wpIn_seq (wpIn_mono (h n G a w hs hb) ?_)
  rintro e a' w' ⟨e', s', G', rfl, hq, hs', he, hb', hd⟩
  cases e' with
  | normal => exact wpIn_mono (hq n G' a' w' hs' hb') fun e a2 w2 hp => hp.evo he hd
  | exit id => exact hq.elim
  | goto l => exact hq.elim
  | ret => exact hq.elim
theorem vm_then {base : Nat} {x y : Code} {s : St} {K : Ex → Heap → Nat → St → Prop} (h : VM P F N base x s (fun e h1 nx1 s2 => e = .normal ∧ VC P F N 0 y s2 (fun e s' => K e h1 nx1 s'))) : VM P F N base (.seq x y) s K := by
  intro n G a w hs hb
  refine wpIn_seq (wpIn_mono (h n G a w hs hb) ?_)
  rintro e a' w' ⟨e', h1, nx1, G1, s2, G2, rfl, ⟨rfl, hq⟩, ht, hs', hd⟩
  refine wpIn_mono (hq n G2 a' w' hs' (Nat.zero_le _)) fun e a2 w2 hp => ?_
  obtain ⟨e', h2, nx2, G3, s3, G4, q1, ⟨rfl, rfl, q2⟩, q3, q4, q5⟩ := PostM.vc ht hd hp
  exact ⟨e', _, _, G3, s3, G4, q1, q2, q3, q4, q5⟩
theorem vm_mark {base : Nat} {c : Code} {s : St} {Q : Ex → St → Prop} (M : Nat → Bool) (t2 : List (Nat × V)) (h2 h1 : Heap)
    (hT : ∀ i, look t2 i = .any ∨ (look t2 i = s.get i ∧ ((Free (look t2 i) ∧ Cold (look t2 i)) ∨ ∃ b col, look t2 i = .ptr b col ∧ M b = true)))
    (hH : ∀ b blk, hget h2 b = some blk → M b = true ∧ ∃ fr ty cells, hget s.h b = some (.var fr ty cells) ∧ blk = .var false ty cells ∧ ∀ v ∈ cells, Free v ∧ Cold v)
    (hh1 : ∀ b blk, hget h1 b = some blk → hget s.h b = some blk ∧ M b = false)
    (h : VC P F N 0 c ⟨t2, h2, s.nx⟩ Q) : VM P F N base c s (fun e h' nx' s2 => h' = h1 ∧ nx' = s.nx ∧ Q e s2) := by
  intro n G a w hs hb
  let G2 : Gh := ⟨fun b => if M b then G.ι b else none, fun c => G.amb c ∨ ∃ b blk, M b = false ∧ hget s.h b = some blk ∧ G.ι b = some c, w.heap.size⟩
  have hι : ∀ b c, G2.ι b = some c → M b = true ∧ G.ι b = some c := by
    intro b c hb
    simp only [G2] at hb
    split at hb
    · rename_i h; exact ⟨h, hb⟩
    · cases hb
  have hfc : ∀ {v : V} {u : Value}, Free v → Cold v → vr G w v u → vr G2 w v u := fun hf hc hv =>
    hf _ _ _ _ _ (hc _ _ _ (imm G2 w) _ (fun a u hi => ⟨hi.1, .inl hi.2.1, (fun h => by cases h), hi.2.2.2⟩) hv)
  have hr1 : HR G h1 s.nx w := ⟨hs.hr.amb_lt, hs.hr.B_le, hs.hr.dom, fun b blk hb => hs.hr.own b blk (hh1 b blk hb).1, fun b b' k k' c q1 q2 => hs.hr.inj b b' k k' c (hh1 b k q1).1 (hh1 b' k' q2).1, fun b k c q1 => hs.hr.apart b k c (hh1 b k q1).1, hs.hr.lt, fun b k q => hs.hr.hdom b k (hh1 b k q).1, hs.hr.gl⟩
  have ht : Two base G w G h1 s.nx G2 w := ⟨hr1, Evo.refl _ _ _, hb, fun c hc => ⟨hs.hr.amb_lt c hc, .inl hc⟩, hs.hr.lt, fun b blk c q1 q2 => .inr ⟨b, blk, (hh1 b blk q1).2, (hh1 b blk q1).1, q2⟩, Nat.le_refl _, fun b c hc _ => ⟨b, (hι b c hc).2⟩, fun c hc _ => by
    rcases hc with hc | ⟨b, _, _, _, hc⟩
    · exact .inl hc
    · exact .inr ⟨b, hc⟩⟩
  have hs2 : Sim G2 N ⟨t2, h2, s.nx⟩ a w := by
    refine ⟨hs.size, fun i => ?_, ⟨fun c hc => ?_, Nat.le_refl _, fun b hb => ?_, fun b blk hb => ?_, fun b b' k k' c q1 q2 q3 q4 => ?_, fun b k c q1 q2 q3 => ?_, fun b c hc => hs.hr.lt b c (hι b c hc).2, fun b k q => ?_, hs.hr.gl.to (fun _ h => .inl h) (fun _ _ => rfl)⟩⟩
    · show vr G2 w (look t2 i) _
      rcases hT i with h1 | ⟨h1, h3⟩
      · rw [h1]; exact .any _
      · have hi := hs.tmp i
        rw [← h1] at hi
        rcases h3 with ⟨hf, hc⟩ | ⟨b, col, h3, hm⟩
        · exact hfc hf hc hi
        · rw [h3] at hi ⊢
          generalize a.tmps.getD i undef = x at hi
          cases hi with
          | ptr _ _ c hc => exact .ptr b col c (by simp [G2, hm, hc])
    · rcases hc with hc | ⟨b, _, _, _, hc⟩
      · exact hs.hr.amb_lt c hc
      · exact hs.hr.lt b c hc
    · simp [G2, hs.hr.dom b hb]
    · obtain ⟨hm, fr, ty, cells, hg, rfl, hcl⟩ := hH b blk hb
      obtain ⟨c, cs, q1, q2, q3, q4, q5, q6, q7⟩ : Holds G w b fr true ty cells := hs.hr.own b _ hg
      refine ⟨c, cs, by simp [G2, hm, q1], q2, q3, q4, (fun h => by cases h), fun j v hj => ?_, q7⟩
      obtain ⟨u, hu, h1, hvr⟩ := q6 j v hj
      obtain ⟨z1, z2⟩ := hcl v (List.mem_of_getElem? hj)
      exact ⟨u, hu, h1, hfc z1 z2 hvr⟩
    · obtain ⟨_, _, _, _, g1, _⟩ := hH b k q1
      obtain ⟨_, _, _, _, g2, _⟩ := hH b' k' q2
      exact hs.hr.inj b b' _ _ c g1 g2 (hι b c q3).2 (hι b' c q4).2
    · obtain ⟨hm, _, _, _, g1, _⟩ := hH b k q1
      rcases q3 with q3 | ⟨b', blk', hm', g2, q3⟩
      · exact hs.hr.apart b _ c g1 (hι b c q2).2 q3
      · have := hs.hr.inj b b' _ _ c g1 g2 (hι b c q2).2 q3
        subst this
        rw [hm] at hm'; cases hm'
    · obtain ⟨_, _, _, _, g1, _⟩ := hH b k q
      exact hs.hr.hdom b _ g1
  exact wpIn_mono (h n G2 a w hs2 (Nat.zero_le _)) fun e a' w' hp => PostM.vc ht (Dfr.of_eq rfl) hp
end
end Go.Proofs.YtfaglgoanmcifaaGreat
namespace Go.Proofs.YtfaglgoanmcifaaGreat
open Go.RowKit
section
variable {P : Program} {T : Tab} {F : Fence} {N : Nat}
theorem callB_of_vm (hT : TabOk P T) {f : FuncId} {fn : Func} {body : Code} (hf : P.funcs[f]? = some fn) (hb : fn.body = some body) (hn : fn.name ≠ "runtime.NumGoroutine") {args : List V} {h : Heap} {nx : Nat} {R : V → Heap → Nat → Prop}
    (hl : args.length ≤ fn.ntmps)
    (hv : VM P Fence.wide fn.ntmps nx body ⟨zipT args 0, h, nx⟩ (fun e h1 nx1 s2 => match e with
      | .normal | .ret => resK T s2 fn.results.toList fun v => ∃ v' h' nx', Ends 0 s2 v v' h' nx' ∧ Free v' ∧ Fresh v' ∧ R v' h1 nx1
      | _ => False)) : CallB P f args h nx R := by
  refine ⟨⟨fn, hf⟩, fun G w us hr hargs => .inl ⟨⟨fn, hf, by simp [hb], hn⟩, (callsIn_wide (n := 0)).1 (callsIn_of_wp_marks hf hb trivial ?_)⟩⟩
  have hsim : Sim G fn.ntmps ⟨zipT args 0, h, nx⟩ { tmps := us.toArray ++ Array.replicate (fn.ntmps - us.toArray.size) undef, defers := [] } w := by
    have hul : us.length = args.length := hargs.1.symm
    refine ⟨by simp; omega, fun i => ?_, hr⟩
    simp only [St.get]
    rw [zipT_get]
    split
    · rename_i hi
      have hi1 : i < args.length := by omega
      have hi2 : i < us.length := by omega
      have e1 : args.getD (i - 0) .any = args[i] := by simp [hi1]
      rw [e1]
      have e2 : (us.toArray ++ Array.replicate (fn.ntmps - us.toArray.size) undef).getD i undef = us[i] := by
        rw [Array.getD_eq_getD_getElem?, Array.getElem?_append_left (by simpa using hi2)]
        simp [hi2]
      rw [e2]
      exact hargs.2 i _ _ (List.getElem?_eq_getElem hi1) (List.getElem?_eq_getElem hi2)
    · exact .any _
  refine wpIn_mono (hv 0 G _ w hsim (Nat.le_refl _)) ?_
  rintro e a' w' ⟨e', h1, nx1, G1, s', G', rfl, hq, ht, hs', hd⟩
  obtain ⟨ms, hms, hmk, hpw⟩ := hd
  rw [List.append_nil] at hms
  have fin : resK T s' fn.results.toList (fun v => ∃ v' h' nx', Ends 0 s' v v' h' nx' ∧ Free v' ∧ Fresh v' ∧ R v' h1 nx1) → ∀ w'', Shut ms w' w'' → ∃ v, (results fn a'.tmps).run P w'' = .ok v w'' ∧
      ∃ u v1 h' nx' G' B', Ending.returned v = .returned u ∧ R v1 h' nx' ∧ HR G' h' nx' w'' ∧ Evo nx G w G' w'' ∧ nx ≤ nx' ∧ (∀ c, G'.amb c → c < B') ∧ (∀ b c, G'.ι b = some c → c < B') ∧ w.heap.size ≤ B' ∧ B' ≤ w''.heap.size ∧ vr (Gh.from w'' B') w'' v1 u := by
    intro hq w'' hsh
    have hs' := hs'.shut hsh (fun r hr => (hmk r hr).2.2)
    have hmw : ∀ c, c < w.heap.size → c ∉ ms := fun c hc hm => by have := (hmk c hm).1; omega
    have hma : ∀ c, G'.amb c → c ∉ ms := fun c hc hm => (hmk c hm).2.2.2 hc
    have ag : Agr G1 G1 h1 w' w'' := ⟨by rw [hsh.size]; exact Nat.le_refl _, rfl, rfl, fun _ h => h, fun c hc => hsh.heap c (hma c (ht.amb c hc).2), fun b blk c q1 q2 => hsh.heap c (hma c (ht.own b blk c q1 q2)), fun b c m _ hm => hsh.dead c m hm⟩
    have he := ht.evo
    have he : Evo nx G w G1 w'' := ⟨hsh.os.trans he.os, hsh.tape.trans he.tape, hsh.output.trans he.output, by rw [hsh.size]; exact he.size, he.B, he.amb, fun c hc => (hsh.heap c (hmw c (hr.amb_lt c hc))).trans (he.keep c hc),
      fun c m hm => hsh.dead c m (he.csz c m hm), he.ids, fun c hc hn => (hsh.heap c (hmw c hc)).trans (he.keepu c hc hn), he.ambn, he.idn⟩
    clear hmk
    obtain ⟨vs, hK, hvs⟩ := resL_out (N := fn.ntmps) hT hq
    obtain ⟨us, hus, hvrs⟩ := hvs G' a' w'' hs'
    have hres : (results fn a'.tmps).run P w'' = .ok (if h : us.toArray.size = 1 then us.toArray[0] else .tuple us.toArray) w'' := by
      unfold results
      rw [Array.mapM_eq_mapM_toList]
      simp only [Sem.run_bind, Sem.run_map]
      have e : (fn.results.toList.mapM fun (x : ResultVar) => (match x with | .tmp t => (pure (a'.tmps.getD t undef) : Sem Value) | .cell a t => do loadVar t (← asAddr (a'.tmps.getD a undef)))).run P w'' = .ok us w'' := hus
      erw [e]
      rfl
    have key : ∃ v, vr G' w'' v (if h : us.toArray.size = 1 then us.toArray[0] else .tuple us.toArray) ∧ ∃ v' h' nx', Ends 0 s' v v' h' nx' ∧ Free v' ∧ Fresh v' ∧ R v' h1 nx1 := by
      have hl := hvrs.1
      split at hK
      · rename_i v
        have h1 : us.toArray.size = 1 := by simpa using hl.symm
        rw [dif_pos h1]
        have h1' : 0 < us.length := by simp at h1; omega
        exact ⟨v, by simpa using hvrs.2 0 v us[0] rfl (List.getElem?_eq_getElem h1'), hK⟩
      · rename_i hne
        have h1 : ¬ us.toArray.size = 1 := by
          intro h1
          have h1' : vs.length = 1 := by rw [hl]; simpa using h1
          obtain ⟨v, rfl⟩ := List.length_eq_one_iff.1 h1'
          exact hne v rfl
        rw [dif_neg h1]
        exact ⟨.tup vs, .tup vs us hvrs.1 hvrs.2, hK⟩
    obtain ⟨v, hvr, v', h', nx', hfin, hfree, hfresh, hR⟩ := key
    obtain ⟨G3, q1, q2, q3, q4⟩ := hfin G' w'' _ hs'.hr (Nat.zero_le _) hvr
    have hB3 : G3.B = G'.B := q3.B
    refine ⟨_, hres, _, v', h1, nx1, G1, G'.B, rfl, hR, ag.hr ht.hr, he, ht.nx, fun c hc => (ht.amb c hc).1, ht.lt, ht.B, hs'.hr.B_le, ?_⟩
    exact hfree _ _ _ _ _ (hfresh _ _ _ (imm (Gh.from w'' G'.B) w'') _ (fun a u hi => ⟨hi.1, ⟨by have := (hi.2.2.1 rfl).1; rw [hB3] at this; exact this, q1.amb_lt _ hi.2.1⟩, fun _ => ⟨by have := (hi.2.2.1 rfl).1; rw [hB3] at this; exact this, (hi.2.2.1 rfl).2⟩, hi.2.2.2⟩) q2)
  cases e' with
  | normal => show LeavesInM _ _ _ _ _ _ a'.defers _ _; rw [hms]; exact leaves_marks (fun r hr => (hmk r hr).2.1) hpw (fin hq)
  | ret => show LeavesInM _ _ _ _ _ _ a'.defers _ _; rw [hms]; exact leaves_marks (fun r hr => (hmk r hr).2.1) hpw (fin hq)
  | exit id => exact hq.elim
  | goto id => exact hq.elim
def keptC (t : List (Nat × V)) (u : Nat → Value) : List (Nat × V) → Prop
  | [] => True
  | (i, v) :: r => ((look t i = v ∧ Free v ∧ Cold v) ∨ ∃ y, v = .pin (u i) y ∧ (y = .any ∨ (look t i = y ∧ Free y ∧ Cold y))) ∧ keptC t u r
theorem keptC.out {t : List (Nat × V)} {u : Nat → Value} : ∀ {t2 : List (Nat × V)}, keptC t u t2 → ∀ i, look t2 i = .any ∨ (look t i = look t2 i ∧ Free (look t2 i) ∧ Cold (look t2 i)) ∨ ∃ y, look t2 i = .pin (u i) y ∧ (y = .any ∨ (look t i = y ∧ Free y ∧ Cold y))
  | [], _, i => .inl rfl
  | (j, v) :: r, h, i => by
    rw [look_cons]
    by_cases hij : j = i
    · subst hij; rw [if_pos rfl]; exact .inr h.1
    · rw [if_neg hij]; exact keptC.out h.2 i
theorem wp_callB (hT : TabOk P T) (hF : FW F) {base id n : Nat} {ops : Array Oper} {s : St} {m fid d : Nat} {o : Oper} {c : Call} {KK : List (Nat × V) → Heap → Nat → (Nat → Value) → St → Prop} (hm : m < ops.toList.length) (ho : ops.toList[m]? = some o) (hop : o.op = .call c) (hcal : c.callee = .value (.func fid)) (hg : o.guard = none) (hdst : o.dst = some d) (hdN : d < N)
    (h : runOps P T N ops.toList (ops.toList.take m) s fun s' => ∃ vs, evs none s' c.args.toList (fun ws => ws = vs) ∧
      CallB P fid vs s'.h s'.nx (fun v h' nx' => ∀ u, ∃ t2, keptC s'.t u t2 ∧ runOps P T N ops.toList (ops.toList.drop (m + 1)) ⟨(d, v) :: t2, [], 0⟩ (KK s'.t h' nx' u)))
    {G : Gh} {a : Act} {w : World} (hs : Sim G N s a w) (hb : base ≤ s.nx) {Qm : Exit → Act → World → Prop}
    (hQ : ∀ t1 h1 nx1 u s2 G1 G2 a' w', KK t1 h1 nx1 u s2 → Two base G w G1 h1 nx1 G2 w' → (∀ i, vr G1 w' (look t1 i) (u i)) → Sim G2 N s2 a' w' → Gok G2 → a'.defers = a.defers → Qm .normal a' w') : (Code.region id ops false).wpIn F n P Qm a w := by
  refine wpIn_region ?_
  have hpre := runOps_then (n := n) (tl := m :: List.range' (m + 1) (ops.toList.length - (m + 1))) hT hF (rest := ops.toList.take m) (all := ops.toList) (k := 0) (base := base) (Q := Qm) (fun i hi => by rw [Nat.zero_add, List.getElem?_take_of_lt (by simp at hi; omega)]) h hs hb ?_
  · rw [List.length_take, Nat.min_eq_left (by omega)] at hpre
    have e : List.range ops.size = List.range' 0 m ++ m :: List.range' (m + 1) (ops.toList.length - (m + 1)) := by
      have h1 := (List.range'_append (s := 0) (m := m) (n := ops.toList.length - m) (step := 1)).symm
      rw [List.range_eq_range', show ops.size = m + (ops.toList.length - m) by simp; simp at hm; omega, h1]
      congr 1
      rw [show ops.toList.length - m = (ops.toList.length - (m + 1)) + 1 by omega, List.range'_succ]
      simp
    rw [e]
    simpa using hpre
  rintro s' a1 w1 G1 ⟨vs, hvs, hcall⟩ hs1 he hb1 hdf
  have ho' : ops[m]? = some o := by simpa using ho
  obtain ⟨vs', h', hlen, hvr⟩ := evs_out hvs
  subst h'
  have hvr := hvr (.inl rfl) G1 N a1 w1 s' hs1 (fun _ _ _ _ => rfl)
  have hnd : ∀ c', o.op ≠ .defer c' := by rw [hop]; simp
  have hwt : Region.wanted o (yielded ops a1.tmps) = true := by simp [Region.wanted, hg]
  simp only [wpOpsIn, ho', hwt, if_true]
  refine ⟨fun f _ => hF.fn f, ?_⟩
  rw [Oper.semAt_eq _ _ _ hnd]
  have hargs : vrs G1 w1 vs' (c.args.toList.map a1.eval) := ⟨by rw [hlen]; simp, fun j v u q1 q2 => by
    rw [List.getElem?_map] at q2
    obtain ⟨x, hx, rfl⟩ := Option.map_eq_some_iff.1 q2
    exact hvr j v x q1 hx⟩
  have e : (#[] : Array Value) ++ c.args.map a1.eval ++ #[] = (c.args.toList.map a1.eval).toArray := by apply Array.ext'; simp
  have fin : ∀ (uv : Value) (w' : World) (v : V) (h1 : Heap) (nx1 : Nat) (G' : Gh) (B' : Nat), (∀ u, ∃ t2, keptC s'.t u t2 ∧ runOps P T N ops.toList (ops.toList.drop (m + 1)) ⟨(d, v) :: t2, [], 0⟩ (KK s'.t h1 nx1 u)) → HR G' h1 nx1 w' → Evo s'.nx G1 w1 G' w' → s'.nx ≤ nx1 →
      (∀ c, G'.amb c → c < B') → (∀ b c, G'.ι b = some c → c < B') → w1.heap.size ≤ B' → B' ≤ w'.heap.size → vr (Gh.from w' B') w' v uv →
      wpOpsIn F n P ops Qm (List.range' (m + 1) (ops.toList.length - (m + 1))) (a1.put o.dst uv) w' := by
    intro uv w' v h1 nx1 G' B' hKK hr' he' hn ha hi hB hBs hv
    obtain ⟨t2, hk, hrun⟩ := hKK (fun i => a1.tmps.getD i undef)
    let G2 : Gh := ⟨fun _ => none, fun c => G'.amb c ∨ (∃ b blk, hget h1 b = some blk ∧ G'.ι b = some c) ∨ (B' ≤ c ∧ c < w'.heap.size), B'⟩
    have hold : ∀ i, vr G' w' (look s'.t i) (a1.tmps.getD i undef) := fun i => he'.vr hs1.hr.dom (hs1.tmp i)
    have ht : Two base G w G' h1 nx1 G2 w' := by
      have e2 : Evo base G w G' w' := he.trans (he'.less hb1)
      refine ⟨hr', e2, Nat.le_trans hb1 hn, fun c hc => ⟨ha c hc, .inl hc⟩, hi, fun b blk c q1 q2 => .inr (.inl ⟨b, blk, q1, q2⟩), Nat.le_trans he.size hB, (fun b c h => by cases h), fun c hc hlt => ?_⟩
      rcases hc with hc | ⟨b, _, _, hc⟩ | ⟨hc, _⟩
      · exact e2.ambn c hc hlt
      · exact .inr (e2.idn b c hc hlt)
      · have := he.size; omega
    have hgl : ∀ p ∈ glob, p.1 < B' := fun p hp => ha _ (hr'.gl p hp).1
    have hfc : ∀ {v : V} {x : Value}, Free v → Cold v → vr G' w' v x → vr G2 w' v x := fun hf hc hv =>
      hf _ _ _ _ _ (hc _ _ _ (imm G2 w') _ (fun a u hi => ⟨hi.1, .inl hi.2.1, (fun h => by cases h), hi.2.2.2⟩) hv)
    have hs2 : Sim G2 N ⟨(d, v) :: t2, [], 0⟩ (a1.put o.dst uv) w' := by
      refine ⟨by rw [hdst]; simp [Act.put, hs1.size], fun i => ?_, ⟨fun c hc => ?_, hBs, fun _ _ => rfl, fun b blk h => by simp [hget] at h, fun b b' k k' c h => by simp [hget] at h, fun b k c h => by simp [hget] at h, (fun b c h => by cases h), fun b k h => by simp [hget] at h, hr'.gl.to (fun _ h => .inl h) (fun _ _ => rfl)⟩⟩
      · show vr G2 w' (look ((d, v) :: t2) i) _
        rw [look_cons, hdst]
        by_cases hdi : d = i
        · subst hdi
          rw [if_pos rfl]
          have hx : (a1.put (some d) uv).tmps.getD d undef = uv := by
            simp only [Act.put, Array.getD_eq_getD_getElem?]
            rw [Array.getElem?_setIfInBounds_self_of_lt (by rw [hs1.size]; exact hdN)]
            rfl
          rw [hx]
          exact VR.mono (fun b c h => by cases h) (fun _ _ h => h) (fun fr a u hi => ⟨hi.1, .inr (.inr hi.2.1), hi.2.2.1, hi.2.2.2⟩) hv
        · rw [if_neg hdi]
          have hne : (a1.put (some d) uv).tmps.getD i undef = a1.tmps.getD i undef := by
            simp only [Act.put, Array.getD_eq_getD_getElem?]
            rw [Array.getElem?_setIfInBounds_ne hdi]
          rw [hne]
          rcases hk.out i with h1 | ⟨h1, h3, h4⟩ | ⟨y, h1, h3⟩
          · rw [h1]; exact .any _
          · have := hold i
            rw [h1] at this
            exact hfc h3 h4 this
          · rw [h1]
            rcases h3 with rfl | ⟨h3, h4, h5⟩
            · exact .pin _ _ (.any _)
            · have := hold i
              rw [h3] at this
              exact .pin _ _ (hfc h4 h5 this)
      · rcases hc with hc | ⟨b, _, _, hc⟩ | hc
        · exact hr'.amb_lt c hc
        · exact hr'.lt b c hc
        · exact hc.2
    have hgk : Gok G2 := ⟨(fun b c h => by cases h), hgl⟩
    have hpost := runOps_then (n := n) (tl := []) hT hF (rest := ops.toList.drop (m + 1)) (all := ops.toList) (k := m + 1) (base := 0) (Q := Qm) (fun i hi => by rw [List.getElem?_drop]) hrun hs2 (Nat.zero_le _)
      (fun s2 a2 w2 G3 q1 q2 q3 _ q4 => ?_)
    · simpa using hpost
    · have ag : Agr G' G' h1 w' w2 := ⟨q3.size, rfl, rfl, fun _ h => h, fun c hc => q3.keep c (ht.amb c hc).2, fun b blk c hb hc => q3.keep c (ht.own b blk c hb hc), fun b c m _ hm => q3.csz c m hm⟩
      show wpOpsIn F n P ops.toList.toArray Qm [] a2 w2
      refine hQ _ _ _ _ _ _ _ _ _ q1 (ht.step q3) (fun i => ag.vr (hold i)) q2 (gok_evo q3 hs2.hr hgk) ?_
      have : (a1.put o.dst uv).defers = a1.defers := by cases o.dst <;> rfl
      rw [q4, this]; exact hdf
  rcases hcall.2 _ w1 _ hs1.hr hargs with ⟨hbd, hcs⟩ | ⟨_, u, w', hext, u', v, h1, nx1, G', B', hu', hK, hr', he', hn, ha, hi, hB, hBs, hv⟩
  · have hrun : (execOp a1.eval o).run P w1 = .ok (.enter fid (c.args.toList.map a1.eval).toArray) w1 := by
      have := call_run hbd (c.args.toList.map a1.eval) w1
      simp only [execOp, hop, Sem.run_bind, resolve, hcal, Act.eval, Deferred.ofValue, Sem.run_pure, Result.andThen_ok, invoke]
      rw [e, this]
    rw [hrun]
    refine ⟨fun hd => by rw [hF.depth] at hd; simp at hd, hF.call (hcs.mono ?_)⟩
    rintro e w' ⟨u, v, h1, nx1, G', B', rfl, hK, hr', he', hn, ha, hi, hB, hBs, hv⟩
    exact fin u w' v h1 nx1 G' B' hK hr' he' hn ha hi hB hBs hv
  · cases hu'
    have hrun : (execOp a1.eval o).run P w1 = .ok (.value u) w' := by
      simp only [execOp, hop, Sem.run_bind, resolve, hcal, Act.eval, Deferred.ofValue, Sem.run_pure, Result.andThen_ok, invoke]
      rw [e, hext]
    rw [hrun]
    exact fin u w' v h1 nx1 G' B' hK hr' he' hn ha hi hB hBs hv
theorem vm_call (hT : TabOk P T) (hF : FW F) {base id : Nat} {ops : Array Oper} {s : St} {m fid d : Nat} {o : Oper} {c : Call} {K : Ex → Heap → Nat → St → Prop} (hm : m < ops.toList.length) (ho : ops.toList[m]? = some o) (hop : o.op = .call c) (hcal : c.callee = .value (.func fid)) (hg : o.guard = none) (hdst : o.dst = some d) (hdN : d < N)
    (h : runOps P T N ops.toList (ops.toList.take m) s fun s' => ∃ vs, evs none s' c.args.toList (fun ws => ws = vs) ∧
      CallB P fid vs s'.h s'.nx (fun v h' nx' => ∀ u, ∃ t2, keptC s'.t u t2 ∧ runOps P T N ops.toList (ops.toList.drop (m + 1)) ⟨(d, v) :: t2, [], 0⟩ (fun s2 => K .normal h' nx' s2))) : VM P F N base (.region id ops false) s K :=
  fun n G a w hs hb => wp_callB (KK := fun _ h' nx' _ s2 => K .normal h' nx' s2) hT hF hm ho hop hcal hg hdst hdN h hs hb fun t1 h1 nx1 u s2 G1 G2 a' w' q1 q2 q3 q4 _ q5 => ⟨.normal, h1, nx1, G1, s2, G2, rfl, q1, q2, q4, Dfr.of_eq q5⟩
def keptM (t : List (Nat × V)) (M : Nat → Bool) : List (Nat × V) → Prop
  | [] => True
  | (i, v) :: r => (look t i = v ∧ ((Free v ∧ Cold v) ∨ ∃ b col, v = .ptr b col ∧ M b = true)) ∧ keptM t M r
theorem keptM.out {t : List (Nat × V)} {M : Nat → Bool} : ∀ {t2 : List (Nat × V)}, keptM t M t2 → ∀ i, look t2 i = .any ∨ (look t2 i = look t i ∧ ((Free (look t2 i) ∧ Cold (look t2 i)) ∨ ∃ b col, look t2 i = .ptr b col ∧ M b = true))
  | [], _, i => .inl rfl
  | (j, v) :: r, h, i => by
    rw [look_cons]
    by_cases hij : j = i
    · subst hij; rw [if_pos rfl]; exact .inr ⟨h.1.1.symm, h.1.2⟩
    · rw [if_neg hij]; exact keptM.out h.2 i
def keptB (h : Heap) (M : Nat → Bool) : Heap → Prop
  | [] => True
  | (b, some (.var fr' ty cells)) :: r => (M b = true ∧ fr' = false ∧ (∃ fr, hget h b = some (.var fr ty cells)) ∧ ∀ v ∈ cells, Free v ∧ Cold v) ∧ keptB h M r
  | _ :: _ => False
theorem keptB.out {h : Heap} {M : Nat → Bool} : ∀ {h2 : Heap}, keptB h M h2 → ∀ b blk, hget h2 b = some blk → M b = true ∧ ∃ fr ty cells, hget h b = some (.var fr ty cells) ∧ blk = .var false ty cells ∧ ∀ v ∈ cells, Free v ∧ Cold v
  | [], _, b, blk, hb => by simp [hget] at hb
  | (i, some (.var fr' ty cells)) :: r, hh, b, blk, hb => by
    obtain ⟨⟨q1, q2, ⟨fr, q3⟩, q4⟩, q5⟩ := hh
    rw [hget_cons] at hb
    split at hb
    · rename_i e
      subst e
      cases hb
      subst q2
      exact ⟨q1, fr, ty, cells, q3, rfl, q4⟩
    · exact keptB.out q5 b blk hb
def subH (h : Heap) (M : Nat → Bool) : Heap → Prop
  | [] => True
  | (b, some blk) :: r => (hget h b = some blk ∧ M b = false) ∧ subH h M r
  | _ :: _ => False
theorem subH.out {h : Heap} {M : Nat → Bool} : ∀ {h1 : Heap}, subH h M h1 → ∀ b blk, hget h1 b = some blk → hget h b = some blk ∧ M b = false
  | [], _, b, blk, hb => by simp [hget] at hb
  | (i, some k) :: r, hh, b, blk, hb => by
    rw [hget_cons] at hb
    split at hb
    · rename_i e
      subst e
      cases hb
      exact hh.1
    · exact subH.out hh.2 b blk hb
theorem vm_mark' {base : Nat} {c : Code} {s : St} {K : Ex → Heap → Nat → St → Prop} (M : Nat → Bool) (nx : Nat) (t2 : List (Nat × V)) (h2 h1 : Heap) (hn : s.nx = nx) (ht : keptM s.t M t2) (hh : keptB s.h M h2) (hs : subH s.h M h1)
    (h : VC P F N 0 c ⟨t2, h2, nx⟩ (fun e s2 => K e h1 nx s2)) : VM P F N base c s K := by
  subst hn
  exact (vm_mark M t2 h2 h1 ht.out hh.out hs.out h).mono fun e h' nx' s2 ⟨q1, q2, q3⟩ => by subst q1; subst q2; exact q3
theorem vm_weak {base : Nat} {c : Code} {s s' : St} {K : Ex → Heap → Nat → St → Prop} (hw : Wk base N s s') (h : VM P F N base c s' K) : VM P F N base c s K := fun n G a w hs hb => by
  obtain ⟨G', h1, h2, h3⟩ := hw G a w hs hb
  exact wpIn_mono (h n G' a w h1 h3) fun e a' w' hp => hp.evo h2 (Dfr.of_eq rfl)
theorem callB_more {f : FuncId} {args : List V} {h h' : Heap} {nx nx' : Nat} {R : V → Heap → Nat → Prop} (hn : nx ≤ nx') (hh : ∀ b, hget h' b = hget h b) (hc : CallB P f args h' nx' R) : CallB P f args h nx R :=
  ⟨hc.1, fun G w us hr hv => (hc.2 G w us (hr.congr hh hn) hv).mono fun e w' ⟨u, v, h1, nx1, G', B', q1, q2, q3, q4, q5, q6⟩ => ⟨u, v, h1, nx1, G', B', q1, q2, q3, q4.less hn, Nat.le_trans hn q5, q6⟩⟩
end
theorem pureV_var {P : Program} {f : FuncId} {args args0 : List V} {v0 : V} {h : Heap} {nx b : Nat} {fr : Bool} {ty : TypeId} {cells : List V}
    (hc : CallV P f args0 [(0, some (.var fr ty cells))] 1 (fun v' h' nx' => v' = v0 ∧ h' = [(0, some (.var fr ty cells))] ∧ nx' = 1))
    (hv0 : Free v0) (hb : hget h b = some (.var fr ty cells)) (hcells : ∀ v ∈ cells, Free v) (ha : LeL h nx (fun _ => b) 1 [] args args0) : PureV P f args v0 h nx := by
  refine ⟨hc.1, fun G w us hr hv => ?_⟩
  have hl : LeH 0 h nx (fun _ => b) 1 [] [(0, some (.var fr ty cells))] := ⟨fun b' blk hb' => by
      rw [hget_cons] at hb'
      split at hb'
      · rename_i e; subst e; cases hb'
        refine ⟨by omega, .inl ⟨by simp, _, hb, id, rfl, ?_⟩⟩
        clear hc hb hv ha hr
        induction cells with
        | nil => trivial
        | cons v r ih => exact ⟨.free (hcells v (by simp)), ih (fun v hv => hcells v (by simp [hv]))⟩
      · simp [hget] at hb', fun b1 b2 h1 h2 _ => by
      rw [hget_cons] at h1 h2
      split at h1
      · split at h2
        · omega
        · simp [hget] at h2
      · simp [hget] at h1, fun b hb => by omega, Nat.zero_le _, by simp⟩
  obtain ⟨hr0, _⟩ := hl.ok hr
  refine (hc.2 _ w us hr0 (ha.vrs hr hv)).mono ?_
  rintro e w' ⟨u, v, h', nx', G1, rfl, ⟨rfl, rfl, rfl⟩, hv1, hr1, E, _⟩
  obtain ⟨c, cs, hbc, _⟩ : Holds G w b fr true ty cells := hr.own b _ hb
  have h00 : (G.to (fun _ => b) 1 []).ι 0 = some c := by simpa [Gh.to] using hbc
  have hι0 : ∀ i c', (G.to (fun _ => b) 1 []).ι i = some c' → c' = c := by
    intro i c' hi
    simp only [Gh.to] at hi
    split at hi
    · rw [hbc] at hi; cases hi; rfl
    · cases hi
  have h10 : G1.ι 0 = some c := E.ids 0 c (by omega) h00
  have hB : G1.B = G.B := E.B
  have ham : ∀ c', G1.amb c' → c' < w.heap.size → G.amb c' ∨ c' = c := by
    intro c' hc' hlt
    rcases E.ambn c' hc' hlt with (h1 | ⟨_, h1, _⟩) | ⟨i, h1⟩
    · exact .inl h1
    · simp at h1
    · exact .inr (hι0 i c' h1)
  have hapc : ¬ G1.amb c := hr1.apart 0 (.var fr ty cells) c (by simp [hget]) h10
  have he : EvoA G w ⟨G.ι, G1.amb, G.B⟩ w' := fun base => ⟨E.os, E.tape, E.output, E.size, rfl, fun c hc => E.amb c (.inl hc), fun c hc => E.keep c (.inl hc), E.csz, fun _ _ _ hc => hc, fun c' hc hn => E.keepu c' hc (fun i hi => hn b (by rw [hbc, hι0 i c' hi])),
    fun c' hc' hlt => by
      rcases ham c' hc' hlt with h1 | rfl
      · exact .inl h1
      · exact absurd hc' hapc, fun b c hc _ => ⟨b, hc⟩⟩
  have toG : ∀ {v : V} {u : Value}, Free v → vr G1 w' v u → vr ⟨G.ι, G1.amb, G.B⟩ w' v u := fun hf hv => by
    refine hf _ _ _ _ _ (VR.mono (fun _ _ h => h) (fun _ _ h => h) (fun fr a u hi => ⟨hi.1, hi.2.1, fun hf => by have := hi.2.2.1 hf; rw [hB] at this; exact this, hi.2.2.2⟩) hv)
  have hother : ∀ b' blk c', hget h b' = some blk → G.ι b' = some c' → b ≠ b' → c' ≠ c := by
    rintro b' blk c' h1 h2 h3 rfl
    exact h3 (hr.inj b b' _ _ _ hb h1 hbc h2)
  refine ⟨u, ⟨G.ι, G1.amb, G.B⟩, rfl, ?_, ⟨hr1.amb_lt, Nat.le_trans hr.B_le E.size, hr.dom, fun b' blk hb' => ?_, hr.inj, fun b' blk c' hb' hc' ha => ?_, fun b c hc => Nat.lt_of_lt_of_le (hr.lt b c hc) E.size, hr.hdom, hr.gl.evo (he 0)⟩, he, rfl⟩
  · exact toG hv0 hv1
  · by_cases e : b = b'
    · subst e
      rw [hb] at hb'
      cases hb'
      obtain ⟨c2, cs2, q1, q2, q3, q4, q5, q6, q7⟩ : Holds G1 w' 0 fr true ty cells := hr1.own 0 (.var fr ty cells) (by simp [hget])
      rw [h10] at q1
      obtain rfl : c = c2 := Option.some.inj q1
      refine ⟨c, cs2, hbc, q2, q3, q4, fun hf => by have := q5 hf; rw [hB] at this; exact this, fun j v hj => ?_, q7⟩
      obtain ⟨u, hu, h1, hvr⟩ := q6 j v hj
      exact ⟨u, hu, h1, toG (hcells v (List.mem_of_getElem? hj)) hvr⟩
    · exact (hr.own b' blk hb').keep he (fun c' hc' => E.keepu c' (hr.lt b' c' hc') (fun i hi => hother b' blk c' hb' hc' e (hι0 i c' hi))) (fun hn => hn)
  · by_cases e : b = b'
    · subst e
      rw [hbc] at hc'; cases hc'
      exact hapc ha
    · rcases ham c' ha (hr.lt b' c' hc') with h1 | h1
      · exact hr.apart b' blk c' hb' hc' h1
      · exact hother b' blk c' hb' hc' e h1
end Go.Proofs.YtfaglgoanmcifaaGreat
namespace Go.Proofs.YtfaglgoanmcifaaGreat
open Go.RowKit
theorem hget_nones : ∀ (Z : List Nat) (h : Heap) (b : Nat), hget (Z.map (fun z => (z, none)) ++ h) b = if b ∈ Z then none else hget h b
  | [], h, b => by simp
  | z :: Z, h, b => by
    rw [List.map_cons, List.cons_append, hget_cons, hget_nones Z h b]
    by_cases e : z = b
    · subst e; simp
    · have e' : ¬ b = z := fun h => e h.symm
      simp only [e, if_false, List.mem_cons, e', false_or]
theorem updV_var {P : Program} {f : FuncId} {args args0 : List V} {v0 : V} {h : Heap} {nx b : Nat} {fr : Bool} {ty : TypeId} {cells cells' : List V} {Z : List Nat}
    (hc : CallV P f args0 [(0, some (.var fr ty cells))] 1 (fun v' h' nx' => v' = v0 ∧ h' = [(0, some (.var fr ty cells'))] ∧ nx' = 1)) (hv0 : Free v0)
    (hb : hget h b = some (.var fr ty cells)) (hbZ : b ∉ Z) (hz : ∀ z ∈ Z, hget h z ≠ none) (hcells : ∀ v ∈ cells, Free v) (hcells' : ∀ v ∈ cells', Free v) (ha : LeL h nx (fun _ => b) 1 Z args args0) :
    UpdV P f args v0 ((b, some (.var fr ty cells')) :: Z.map (fun z => (z, none))) h nx := by
  refine ⟨hc.1, fun G w us hr hv => ?_⟩
  have hl : LeH 0 h nx (fun _ => b) 1 Z [(0, some (.var fr ty cells))] := ⟨fun b' blk hb' => by
      rw [hget_cons] at hb'
      split at hb'
      · rename_i e; subst e; cases hb'
        refine ⟨by omega, .inl ⟨hbZ, _, hb, id, rfl, ?_⟩⟩
        clear hc hb hv ha hr
        induction cells with
        | nil => trivial
        | cons v r ih => exact ⟨.free (hcells v (by simp)), ih (fun v hv => hcells v (by simp [hv]))⟩
      · simp [hget] at hb', fun b1 b2 h1 h2 _ => by
      rw [hget_cons] at h1 h2
      split at h1
      · split at h2
        · omega
        · simp [hget] at h2
      · simp [hget] at h1, fun b hb => by omega, Nat.zero_le _, hz⟩
  obtain ⟨hr0, _⟩ := hl.ok hr
  refine (hc.2 _ w us hr0 (ha.vrs hr hv)).mono ?_
  rintro e w' ⟨u, v, h', nx', G1, rfl, ⟨rfl, rfl, rfl⟩, hv1, hr1, E, _⟩
  obtain ⟨c, cs, hbc, _⟩ : Holds G w b fr true ty cells := hr.own b _ hb
  have h00 : (G.to (fun _ => b) 1 Z).ι 0 = some c := by simpa [Gh.to] using hbc
  have hι0 : ∀ i c', (G.to (fun _ => b) 1 Z).ι i = some c' → c' = c := by
    intro i c' hi
    simp only [Gh.to] at hi
    split at hi
    · rw [hbc] at hi; cases hi; rfl
    · cases hi
  have h10 : G1.ι 0 = some c := E.ids 0 c (by omega) h00
  have hB : G1.B = G.B := E.B
  have ham : ∀ c', G1.amb c' → c' < w.heap.size → G.amb c' ∨ (∃ z, z ∈ Z ∧ G.ι z = some c') ∨ c' = c := by
    intro c' hc' hlt
    rcases E.ambn c' hc' hlt with (h1 | h1) | ⟨i, h1⟩
    · exact .inl h1
    · exact .inr (.inl h1)
    · exact .inr (.inr (hι0 i c' h1))
  have hapc : ¬ G1.amb c := hr1.apart 0 (.var fr ty cells') c (by simp [hget]) h10
  have he : EvoA G w ⟨G.ι, G1.amb, G.B⟩ w' := fun base => ⟨E.os, E.tape, E.output, E.size, rfl, fun c hc => E.amb c (.inl hc), fun c hc => E.keep c (.inl hc), E.csz, fun _ _ _ hc => hc, fun c' hc hn => E.keepu c' hc (fun i hi => hn b (by rw [hbc, hι0 i c' hi])),
    fun c' hc' hlt => by
      rcases ham c' hc' hlt with h1 | ⟨z, _, h1⟩ | rfl
      · exact .inl h1
      · exact .inr ⟨z, h1⟩
      · exact absurd hc' hapc, fun b c hc _ => ⟨b, hc⟩⟩
  have toG : ∀ {v : V} {u : Value}, Free v → vr G1 w' v u → vr ⟨G.ι, G1.amb, G.B⟩ w' v u := fun hf hv => by
    refine hf _ _ _ _ _ (VR.mono (fun _ _ h => h) (fun _ _ h => h) (fun fr a u hi => ⟨hi.1, hi.2.1, fun hf => by have := hi.2.2.1 hf; rw [hB] at this; exact this, hi.2.2.2⟩) hv)
  have hother : ∀ b' blk c', hget h b' = some blk → G.ι b' = some c' → b ≠ b' → c' ≠ c := by
    rintro b' blk c' h1 h2 h3 rfl
    exact h3 (hr.inj b b' _ _ _ hb h1 hbc h2)
  have hin : ∀ b' blk, hget (((b, some (.var fr ty cells')) :: Z.map (fun z => (z, none))) ++ h) b' = some blk → (b = b' ∧ blk = .var fr ty cells') ∨ (b ≠ b' ∧ b' ∉ Z ∧ hget h b' = some blk) := by
    intro b' blk hb'
    rw [List.cons_append, hget_cons, hget_nones] at hb'
    split at hb'
    · rename_i e; exact .inl ⟨e, (Option.some.inj hb').symm⟩
    · rename_i e
      split at hb'
      · cases hb'
      · rename_i hz'; exact .inr ⟨e, hz', hb'⟩
  have hold : ∀ b' blk, hget (((b, some (.var fr ty cells')) :: Z.map (fun z => (z, none))) ++ h) b' = some blk → ∃ k, hget h b' = some k := by
    intro b' blk hb'
    rcases hin b' blk hb' with ⟨rfl, _⟩ | ⟨_, _, h1⟩
    · exact ⟨_, hb⟩
    · exact ⟨_, h1⟩
  refine ⟨u, ⟨G.ι, G1.amb, G.B⟩, rfl, toG hv0 hv1, ⟨hr1.amb_lt, Nat.le_trans hr.B_le E.size, hr.dom, fun b' blk hb' => ?_, fun b1 b2 k1 k2 c' q1 q2 => ?_, fun b' blk c' hb' hc' hacc => ?_, fun b c hc => Nat.lt_of_lt_of_le (hr.lt b c hc) E.size, fun b' blk hb' => ?_, hr.gl.evo (he 0)⟩, he, rfl⟩
  · rcases hin b' blk hb' with ⟨rfl, rfl⟩ | ⟨e, hz', h1⟩
    · obtain ⟨c2, cs2, q1, q2, q3, q4, q5, q6, q7⟩ : Holds G1 w' 0 fr true ty cells' := hr1.own 0 (.var fr ty cells') (by simp [hget])
      rw [h10] at q1
      obtain rfl : c = c2 := Option.some.inj q1
      refine ⟨c, cs2, hbc, q2, q3, q4, fun hf => by have := q5 hf; rw [hB] at this; exact this, fun j v hj => ?_, q7⟩
      obtain ⟨u, hu, h1, hvr⟩ := q6 j v hj
      exact ⟨u, hu, h1, toG (hcells' v (List.mem_of_getElem? hj)) hvr⟩
    · exact (hr.own b' blk h1).keep he (fun c' hc' => E.keepu c' (hr.lt b' c' hc') (fun i hi => hother b' blk c' h1 hc' e (hι0 i c' hi))) (fun hn => hn)
  · obtain ⟨k1', g1⟩ := hold b1 k1 q1
    obtain ⟨k2', g2⟩ := hold b2 k2 q2
    exact hr.inj b1 b2 k1' k2' c' g1 g2
  · rcases hin b' blk hb' with ⟨rfl, rfl⟩ | ⟨e, hz', h1⟩
    · rw [hbc] at hc'; cases hc'
      exact hapc hacc
    · rcases ham c' hacc (hr.lt b' c' hc') with h2 | ⟨z, hzz, h2⟩ | h2
      · exact hr.apart b' blk c' h1 hc' h2
      · cases hg : hget h z with
        | none => exact hz z hzz hg
        | some k => exact hz' (by rw [hr.inj b' z blk k c' h1 hg hc' h2]; exact hzz)
      · exact hother b' blk c' h1 hc' e h2
  · obtain ⟨k, g⟩ := hold b' blk hb'
    exact hr.hdom b' k g
end Go.Proofs.YtfaglgoanmcifaaGreat
