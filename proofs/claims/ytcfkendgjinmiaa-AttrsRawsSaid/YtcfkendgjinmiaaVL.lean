/- The evaluator of code; contracts of functions; freezing; the frame. -/
import Derived.Test.YtcfkendgjinmiaaVU2
import Derived.AtR
set_option linter.unusedVariables false
set_option linter.unusedSimpArgs false
namespace Go.Proofs.Ytcfkendgjinmiaa
open Go.RowKit

/-- What is done when the function that was ranged over has ended. -/
def rngPost (t : List (Nat × V)) (b : Nat) (Q : Ex → St → Prop) (h : Heap) (nx : Nat) : Prop :=
  match hget h b with
  | some (.loop _ _ _ _ _ st pend) => match st with
    | .busy => False
    | _ => match pend with
      | none => Q .normal ⟨t, (b, none) :: h, nx⟩
      | some .ret => Q .ret ⟨t, (b, none) :: h, nx⟩
      | some (.exit id) => Q (.exit id) ⟨t, (b, none) :: h, nx⟩
      | some (.goto l) => Q (.goto l) ⟨t, (b, none) :: h, nx⟩
      | _ => False
  | _ => False
def scopeK (Q : Ex → St → Prop) : Ex → St → Prop
  | .goto _, _ => False
  | e, s => Q e s
def rangeK (P : Program) (N : Nat) (f : V) (ps : List Nat) (asg body : Code) (s : St) (Q : Ex → St → Prop) : Prop :=
  match f, s with
  | .fn (.func fid) first cap, ⟨t, h, nx⟩ => CallV P fid (first ++ [.yld nx] ++ cap) ((nx, some (.loop N t ps asg body .ready none)) :: h) (nx + 1) fun v h' nx' => rngPost t nx Q h' nx'
  | _, _ => False

def ptrArg (T : Tab) : List TypeId → Bool
  | [] => false
  | t :: r => match (T t).k with
    | .ptr _ => true
    | _ => ptrArg T r
/-- Where the first call by reference through a value stands. -/
def cutOf (T : Tab) : List Oper → Nat → Option Nat
  | [], _ => none
  | o :: r, k => match o.op with
    | .call c => match c.callee with
      | .value (.tmp _) => match ptrArg T c.argTypes.toList with
        | true => some k
        | false => cutOf T r (k + 1)
      | _ => cutOf T r (k + 1)
    | _ => cutOf T r (k + 1)
def takeN {α : Type} : Nat → List α → List α
  | 0, _ => []
  | _ + 1, [] => []
  | n + 1, x :: r => x :: takeN n r
theorem takeN_eq {α : Type} : ∀ (n : Nat) (l : List α), takeN n l = l.take n
  | 0, _ => by simp [takeN]
  | _ + 1, [] => rfl
  | n + 1, x :: r => by simp [takeN, takeN_eq n r]
def dropN {α : Type} : Nat → List α → List α
  | 0, l => l
  | _ + 1, [] => []
  | n + 1, _ :: r => dropN n r
theorem dropN_eq {α : Type} : ∀ (n : Nat) (l : List α), dropN n l = l.drop n
  | 0, _ => rfl
  | _ + 1, [] => rfl
  | n + 1, x :: r => by simp [dropN, dropN_eq n r]
theorem cutOf_le {T : Tab} : ∀ {l : List Oper} {k m : Nat}, cutOf T l k = some m → m ≤ k + l.length
  | [], k, m, h => by simp [cutOf] at h
  | o :: r, k, m, h => by
    unfold cutOf at h
    have key : cutOf T r (k + 1) = some m → m ≤ k + (o :: r).length := fun h => by have := cutOf_le h; simp; omega
    split at h
    · split at h
      · split at h
        · cases h; simp
        · exact key h
      · exact key h
    · exact key h
def vcg (P : Program) (T : Tab) (N base : Nat) (rd : Bool) : Code → St → (Ex → St → Prop) → Prop
  | .skip, s, Q => Q .normal s
  | .label _, s, Q => Q .normal s
  | .seq a b, s, Q => vcg P T N base rd a s (thenK (fun s' => vcg P T N base rd b s' Q) Q)
  | .cond c a b, s, Q => match ev s c with
    | .bool b' => match b' with
      | true => vcg P T N base rd a s Q
      | false => vcg P T N base rd b s Q
    | .ubool => vcg P T N base rd a s Q ∧ vcg P T N base rd b s Q
    | _ => False
  | .block id a, s, Q => vcg P T N base rd a s (blockK id Q)
  | .scope a, s, Q => vcg P T N base rd a s (scopeK Q)
  | .exit id, s, Q => Q (.exit id) s
  | .goto id, s, Q => Q (.goto id) s
  | .ret, s, Q => Q .ret s
  | .region id ops draw, s, Q => match draw with
    | false => runOps P T N ops.toList ops.toList s (Q .normal)
    | true => match cutOf T ops.toList 0 with
      | none => drawK P T N ops.toList ops.toList s [] fun fps s' => drawOk ops.toList fps = true ∧ Q .normal s'
      | some m => drawK P T N ops.toList (takeN m ops.toList) s [] fun fps s' => (drawOkN ops.toList m fps && tailOk ops.toList m) = true ∧ runOps P T N ops.toList (dropN m ops.toList) s' (Q .normal)
  | .loop a, s, Q => ∀ F, FW F → (rd = false → F.round = none) → VC P F N base (.loop a) s Q
  | .rangeFunc g ps asg body, s, Q => match rd with
    | true => False
    | false => rangeK P N (ev s g) ps.toList asg body s Q
  | c, s, Q => ∀ F, FW F → (rd = false → F.round = none) → VC P F N base c s Q

section
variable {P : Program} {T : Tab} {N : Nat}
theorem stepR_scope {b : Frame} {a : Act} {k : List Item} {cs : List Frame} {w : World} {c : Code} : step P (lone (b.atR a (.code (.scope c) :: k)) cs w) = .next (lone (b.atR a (.code c :: .inScope c :: k)) cs w) :=
  step_lone_go (by simp [stepG, stepG.exec, Frame.atR])
theorem stepR_inScope {b : Frame} {a : Act} {k : List Item} {cs : List Frame} {w : World} {c : Code} : step P (lone (b.atR a (.inScope c :: k)) cs w) = .next (lone (b.atR a k) cs w) :=
  step_lone_go (by simp [stepG, stepG.exec, Frame.atR])
theorem vc_scope {F : Fence} {base : Nat} {c : Code} {s : St} {Q : Ex → St → Prop} (h : VC P F N base c s (scopeK Q)) : VC P F N base (.scope c) s Q := by
  intro n G a w hs hb b k cs hro hbf hr
  have h0 : (lone (b.atR a (.code (.scope c) :: k)) cs w).fenced P F := fenced_calm hbf hr rfl
  obtain ⟨e, a₁, w₁, ⟨e', s', G', rfl, hq, hs', he, hb', hd⟩, harr⟩ := h n G a w hs hb b (.inScope c :: k) cs hro hbf hr
  cases e' with
  | normal => exact ⟨.normal, a₁, w₁, ⟨.normal, s', G', rfl, hq, hs', he, hb', hd⟩, .head h0 stepR_scope (StepsIn.trans harr (.one (fenced_calm hbf hr rfl) stepR_inScope))⟩
  | exit id =>
    have hx : exitTo id (.inScope c :: k) = exitTo id k := by simp [exitTo]
    exact ⟨.exit id, a₁, w₁, ⟨.exit id, s', G', rfl, hq, hs', he, hb', hd⟩, fun k' hk => .head h0 stepR_scope (harr.1 k' (by rw [hx]; exact hk)),
      fun hr' hk => let ⟨k₁, h1, h2⟩ := harr.2 hr' (by rw [hx]; exact hk); ⟨k₁, h1, .head h0 stepR_scope h2⟩⟩
  | goto l => exact hq.elim
  | ret => exact ⟨.ret, a₁, w₁, ⟨.ret, s', G', rfl, hq, hs', he, hb', hd⟩, .of_steps (.one h0 stepR_scope) harr⟩

theorem HR.allocU {G : Gh} {hp : Heap} {n : Nat} {w : World} (h : HR G hp n w) (o : Obj) : HR G hp n (w.alloc o) ∧ EvoA G w G (w.alloc o) := by
  have he : EvoA G w G (w.alloc o) := fun base => ⟨rfl, rfl, rfl, by simp, rfl, fun _ hc => hc, fun c' hc => Below.heap_alloc _ _ _ (h.amb_lt _ hc), fun _ _ hm => csz_alloc hm, fun _ _ _ hc => hc,
    fun c' hc _ => Below.heap_alloc _ _ _ hc, fun _ hc _ => .inl hc, fun b' c' hc hlt => ⟨b', hc⟩⟩
  exact ⟨⟨fun c hc => by have := h.amb_lt c hc; simp; omega, by have := h.B_le; simp; omega, h.dom, fun b blk hb => (h.own b blk hb).keep he (fun c hc => Below.heap_alloc _ _ _ (h.lt b c hc)) (fun hn => hn), h.inj, h.apart, fun b c hc => by have := h.lt b c hc; simp; omega, h.hdom⟩, he⟩

theorem vc_range {F : Fence} (hF : FW F) (hro : F.round = none) {base : Nat} {g : Operand} {ps : Array Tmp} {asg body : Code} {s : St} {Q : Ex → St → Prop} (h : rangeK P N (ev s g) ps.toList asg body s Q) : VC P F N base (.rangeFunc g ps asg body) s Q := by
  intro n G a w hs hb
  have hg := ev_vr hs g (fun _ _ => rfl)
  unfold rangeK at h
  split at h
  · rename_i fid first cap t hp nx hf
    rw [hf] at hg
    refine wpIn_rangeFunc fun fn _ => ?_
    obtain ⟨hr1, he1⟩ := hs.hr.allocU (.deferred (some []))
    have hi : G.ι nx = none := hs.hr.dom nx (Nat.le_refl _)
    have hok : BlkOk (G.with nx (some (w.alloc (.deferred (some []))).heap.size)) ((w.alloc (.deferred (some []))).alloc (.loop { state := .ready, pending := none, fn, tmps := a.tmps, params := ps, assign := asg, body, defers := w.heap.size })) nx (.loop N t ps.toList asg body .ready none) := by
      refine ⟨_, _, Gh.with_self _ _ _, World.alloc_heap_new _ _, rfl, rfl, rfl, rfl, rfl, hs.size, fun i => ?_⟩
      exact (EvoA.alloc hr1 _ nx hi).vr (he1.vr (hs.tmp i))
    have hr2 := HR.alloc hr1 _ nx hi _ hok
    have he2 := EvoA.alloc hr1 (.loop { state := .ready, pending := none, fn, tmps := a.tmps, params := ps, assign := asg, body, defers := w.heap.size }) nx hi
    have hmax : max nx (nx + 1) = nx + 1 := by omega
    rw [hmax] at hr2
    generalize hfu : a.eval g = fu at hg
    cases hg with
    | fn _ _ _ us ws hf1 hc1 h1 h2 =>
      have hl : (w.alloc (.deferred (some []))).heap.size = w.heap.size + 1 := by simp
      have hargs : vrs (G.with nx (some (w.alloc (.deferred (some []))).heap.size)) ((w.alloc (.deferred (some []))).alloc (.loop { state := .ready, pending := none, fn, tmps := a.tmps, params := ps, assign := asg, body, defers := w.heap.size }))
          (first ++ [.yld nx] ++ cap) (us ++ [Value.func (.yield (w.heap.size + 1)) #[] #[]] ++ ws) := by
        refine (vrs.append (he2.vrs (he1.vrs ⟨hf1, h1⟩)) ⟨rfl, fun j v u q1 q2 => ?_⟩).append (he2.vrs (he1.vrs ⟨hc1, h2⟩))
        cases j with
        | zero => simp at q1 q2; subst q1; subst q2; exact .yld _ _ (by rw [Gh.with_self, hl])
        | succ j => simp at q1
      have hcr := call_run h (us ++ [Value.func (.yield (w.heap.size + 1)) #[] #[]] ++ ws) ((w.alloc (.deferred (some []))).alloc (.loop { state := .ready, pending := none, fn, tmps := a.tmps, params := ps, assign := asg, body, defers := w.heap.size }))
      refine ⟨_, _, _, { target := .fn (.func fid) ws.toArray, args := (us ++ [Value.func (.yield (w.heap.size + 1)) #[] #[]]).toArray }, ((w.alloc (.deferred (some []))).alloc (.loop { state := .ready, pending := none, fn, tmps := a.tmps, params := ps, assign := asg, body, defers := w.heap.size })), _, _, _, by rw [hro]; exact run_enterLoop_outer fn a.tmps ps asg body, ?_, fun _ _ => hF.fn _, ?_, fun hd => by rw [hF.depth] at hd; simp at hd, hF.call ((h.2 _ _ _ hr2 hargs).mono ?_)⟩
      · show (Deferred.ofValue (a.eval g) ((#[Operand.const (.func (.yield (w.heap.size + 1)) #[] #[])]).map a.eval)).run P _ = _
        rw [hfu]
        simp [Deferred.ofValue, Sem.run_pure, Act.eval]
      · have e : (us ++ [Value.func (.yield (w.heap.size + 1)) #[] #[]]).toArray ++ ws.toArray = (us ++ [Value.func (.yield (w.heap.size + 1)) #[] #[]] ++ ws).toArray := by apply Array.ext'; simp
        simp only [invoke]
        rw [e]
        exact hcr
      · rintro e w3 ⟨u, v, h', nx', G3, rfl, hpost, hv, hr3, E, hle⟩
        unfold rngPost at hpost
        split at hpost
        case h_2 => exact hpost.elim
        rename_i N' t' ps' asg' body' st pend hb3
        obtain ⟨c, r, q1, q2, q3, q4, _, _, _, _, _, hto⟩ := hr3.loopTo hb3
        have hlid := E.ids nx _ (by omega) (Gh.with_self _ _ _)
        rw [hlid, hl] at q1
        obtain rfl : w.heap.size + 1 = c := Option.some.inj q1
        have hst : r.state ≠ .busy := by
          rw [q3]
          intro e
          subst e
          exact hpost
        obtain ⟨z1, z2⟩ := hto .exhausted pend
        have e4 : ({ r with state := .exhausted } : Loop) = { r with state := .exhausted, pending := pend } := by rw [← q4]
        have hend := run_endLoop (P := P) q2 hst
        rw [e4, q4] at hend
        have hr4 : HR G3 ((nx, none) :: h') nx' (w3.putObj (w.heap.size + 1) (.loop { r with state := .exhausted, pending := pend })) := by
          refine (z1.kill nx).congr (fun b => ?_) (Nat.le_refl _)
          rw [hget_cons, hget_cons, hget_cons]
          split <;> rfl
        have hE0 : Evo nx G w G3 (w3.putObj (w.heap.size + 1) (.loop { r with state := .exhausted, pending := pend })) := (((he1 nx).trans (he2 nx)).trans (E.less (Nat.le_succ _))).trans (z2 nx)
        have hD : Dfr w G3 (w3.putObj (w.heap.size + 1) (.loop { r with state := .exhausted, pending := pend })) a.defers ([{ target := .collected w.heap.size, args := #[] }] ++ a.defers) := by
          have hD0 : Dfr w (G.with nx (some (w.alloc (.deferred (some []))).heap.size)) ((w.alloc (.deferred (some []))).alloc (.loop { state := .ready, pending := none, fn, tmps := a.tmps, params := ps, assign := asg, body, defers := w.heap.size })) a.defers ([{ target := .collected w.heap.size, args := #[] }] ++ a.defers) := by
            refine ⟨[w.heap.size], rfl, fun r hr => ?_, by simp⟩
            obtain rfl : r = w.heap.size := by simpa using hr
            refine ⟨Nat.le_refl _, ?_, fun b hb => ?_, fun ha => ?_⟩
            · rw [Below.heap_alloc _ _ _ (by simp)]
              exact World.alloc_heap_new _ _
            · by_cases e : b = nx
              · subst e; rw [Gh.with_self, hl] at hb; simp at hb
              · rw [Gh.with_other _ e] at hb
                have := hs.hr.lt b _ hb
                omega
            · have := hs.hr.amb_lt _ ha
              omega
          exact (hD0.evo E).evo (z2 0)
        have hdm : ∀ b, nx ≤ b → G.ι b = none := hs.hr.dom
        have hfin : ∀ (e' : Ex), Q e' ⟨t, (nx, none) :: h', nx'⟩ → Post N base G w a.defers Q e'.to { a with defers := [{ target := .collected w.heap.size, args := #[] }] ++ a.defers } (w3.putObj (w.heap.size + 1) (.loop { r with state := .exhausted, pending := pend })) :=
          fun e' hq => ⟨e', _, G3, rfl, hq, ⟨hs.size, fun i => hE0.vr hdm (hs.tmp i), hr4⟩, hE0.less hb, by have : base ≤ nx := hb; simp only; omega, hD⟩
        refine ⟨pend, _, hend, ?_⟩
        split at hpost
        · exact hpost.elim
        · split at hpost
          · exact hfin .normal hpost
          · exact wpIn_ret (hfin .ret hpost)
          · exact wpIn_exit (hfin (.exit _) hpost)
          · exact wpIn_goto (hfin (.goto _) hpost)
          · exact hpost.elim
  · exact h.elim

theorem vcg_ok (hT : TabOk P T) (hm : P.follows .mixedOrders = true) {F : Fence} (hF : FW F) {rd : Bool} (hrd : rd = false → F.round = none) {base : Nat} : ∀ {c : Code} {s : St} {Q : Ex → St → Prop}, vcg P T N base rd c s Q → VC P F N base c s Q
  | .skip, s, Q, h => vc_skip h
  | .label _, s, Q, h => fun n G a w hs hb => wpIn_label ⟨.normal, s, G, rfl, h, hs, Evo.refl _ _ _, hb, Dfr.refl _ _ _ _⟩
  | .seq a b, s, Q, h => vc_seq ((vcg_ok (c := a) (Q := thenK (fun s' => vcg P T N base rd b s' Q) Q) hT hm hF hrd h).mono fun e s' hq => by
      cases e with
      | normal => exact vcg_ok (c := b) hT hm hF hrd hq
      | exit id => exact hq
      | goto id => exact hq
      | ret => exact hq)
  | .cond c a b, s, Q, h => by
    unfold vcg at h
    split at h
    · rename_i b' hc
      exact vc_cond hc (fun e => by subst e; exact vcg_ok hT hm hF hrd h) (fun e => by subst e; exact vcg_ok hT hm hF hrd h)
    · rename_i hc
      exact vc_ucond hc (vcg_ok hT hm hF hrd h.1) (vcg_ok hT hm hF hrd h.2)
    · exact h.elim
  | .block id a, s, Q, h => vc_block (vcg_ok hT hm hF hrd h)
  | .scope a, s, Q, h => vc_scope (vcg_ok hT hm hF hrd h)
  | .exit id, s, Q, h => vc_exit h
  | .goto id, s, Q, h => vc_goto h
  | .ret, s, Q, h => vc_ret h
  | .region id ops false, s, Q, h => vc_region hT hF h
  | .region id ops true, s, Q, h => by
    unfold vcg at h
    split at h
    · rename_i hd; cases hd
    split at h
    · exact vc_draw hT hm hF h
    · rename_i m hc
      rw [takeN_eq, dropN_eq] at h
      exact vc_draw_cut hT hm hF (by have := cutOf_le hc; omega) h
  | .loop a, s, Q, h => h F hF hrd
  | .rangeFunc g ps asg body, s, Q, h => by
    cases rd with
    | true => exact h.elim
    | false => exact vc_range hF (hrd rfl) h
  | .refuse .., s, Q, h => h F hF hrd

/-- A loop, by a family of states and a measure; walked on. -/
theorem vcg_loop (hT : TabOk P T) (hm : P.follows .mixedOrders = true) {rd : Bool} {base : Nat} {c : Code} {s : St} {Q : Ex → St → Prop} {S : Type} (st : S → St) (μ : S → Nat) (i0 : S) (h0 : Wk base N s (st i0))
    (h : ∀ i, vcg P T N base rd c (st i) (thenK (fun s' => ∃ j, Wk base N s' (st j) ∧ μ j < μ i) Q)) : ∀ F, FW F → (rd = false → F.round = none) → VC P F N base (.loop c) s Q :=
  fun F hF hrd => vc_loop st μ i0 h0 fun i => vcg_ok hT hm hF hrd (h i)
/-- A round, walked. -/
theorem roundV_of (hT : TabOk P T) (hm : P.follows .mixedOrders = true) {b nx : Nat} {t : List (Nat × V)} {ps : List Nat} {asg body : Code} {args : List V} {h : Heap} {K : V → Heap → Nat → Prop}
    (h1 : args.length = ps.length) (h2 : ∀ p ∈ ps, p < N) (h3 : b < nx)
    (hv : vcg P T N nx true asg ⟨zipPs ps args t, h, nx⟩ (fun e s1 => match e with
      | .normal => hget s1.h b = some (.loop N t ps asg body .ready none) ∧ vcg P T N nx true body ⟨s1.t, (b, some (.loop N t ps asg body .busy none)) :: s1.h, s1.nx⟩ (fun e2 s2 => hget s2.h b = some (.loop N t ps asg body .busy none) ∧
          match e2 with
          | .normal => K (.bool true) ((b, some (.loop N t ps asg body .ready none)) :: s2.h) s2.nx
          | e2 => K (.bool false) ((b, some (.loop N t ps asg body .done (some e2.code))) :: s2.h) s2.nx)
      | _ => False)) : RoundV P N b t ps asg body args h nx K :=
  ⟨h1, h2, h3, fun F hF => (vcg_ok hT hm hF (by simp) hv).mono fun e s1 hq => by
    cases e with
    | normal => exact ⟨hq.1, vcg_ok hT hm hF (by simp) hq.2⟩
    | exit id => exact hq
    | goto id => exact hq
    | ret => exact hq⟩

/-! ### A function -/
def res1 (T : Tab) (s : St) (r : ResultVar) (K : V → Prop) : Prop :=
  match r with
  | .tmp t => K (s.get t)
  | .cell a t => match s.get a with
    | .ptr b c => match hget s.h b with
      | some (.var fr ty cells) => dropK c cells fun r => partK (T t) r K
      | _ => False
    | _ => False
def resL (T : Tab) (s : St) : List ResultVar → (List V → Prop) → Prop
  | [], K => K []
  | r :: rs, K => res1 T s r fun v => resL T s rs fun vs => K (v :: vs)
def resK (T : Tab) (s : St) (rs : List ResultVar) (K : V → Prop) : Prop :=
  resL T s rs fun vs => match vs with
    | [v] => K v
    | vs => K (.tup vs)
def zipT : List V → Nat → List (Nat × V)
  | [], _ => []
  | v :: r, i => (i, v) :: zipT r (i + 1)
theorem zipT_get : ∀ (vs : List V) (k i : Nat), look (zipT vs k) i = if k ≤ i ∧ i < k + vs.length then vs.getD (i - k) .any else .any
  | [], k, i => by simp [zipT, look]
  | v :: r, k, i => by
    have := get_put (zipT r (k + 1)) [] [] 0 0 k v i
    simp only [St.get] at this
    rw [zipT, this, zipT_get r (k + 1) i]
    by_cases h1 : k = i
    · subst h1; simp
    · rw [if_neg h1]
      by_cases h2 : k + 1 ≤ i ∧ i < k + 1 + r.length
      · rw [if_pos h2, if_pos (by simp; omega), show i - k = (i - (k + 1)) + 1 by omega]; rfl
      · rw [if_neg h2, if_neg (by simp; omega)]
/-- How a call ends: what is handed back, and what is kept. -/
def Ends (base : Nat) (s : St) (v : V) (v' : V) (h' : Heap) (nx' : Nat) : Prop :=
  ∀ (G : Gh) (w : World) (u : Value), HR G s.h s.nx w → base ≤ s.nx → vr G w v u → ∃ G', HR G' h' nx' w ∧ vr G' w v' u ∧ Evo base G w G' w ∧ base ≤ nx'
theorem res1_out (hT : TabOk P T) {s : St} {r : ResultVar} {K : V → Prop} (h : res1 T s r K) : ∃ v, K v ∧ ∀ (G : Gh) (a : Act) (w : World), Sim G N s a w →
    ∃ u, (match r with | .tmp t => (pure (a.tmps.getD t undef) : Sem Value) | .cell x t => do loadVar t (← asAddr (a.tmps.getD x undef))).run P w = .ok u w ∧ vr G w v u := by
  unfold res1 at h
  split at h
  · rename_i t
    exact ⟨_, h, fun G a w hs => ⟨_, rfl, hs.tmp t⟩⟩
  · rename_i x t
    split at h
    · rename_i b c hx
      split at h
      · rename_i fr ty cells hb
        obtain ⟨hl, h⟩ := dropK_out h
        obtain ⟨val, hK, hp⟩ := partK_out hT h
        refine ⟨val, hK, fun G a w hs => ?_⟩
        have hv := hs.tmp x
        rw [hx] at hv
        generalize hux : a.tmps.getD x undef = ux at hv
        cases hv with
        | ptr _ _ c' hc =>
          have hown : Holds G w b fr true ty cells := hs.hr.own b (.var fr ty cells) hb
          obtain ⟨u, hu, hvr⟩ := hp G w ⟨c', c, none⟩ (by simpa using (hown.reads hc).drop c)
          exact ⟨u, by simp [hux, asAddr, hu], hvr⟩
      · exact h.elim
    · exact h.elim
theorem resL_out (hT : TabOk P T) {s : St} : ∀ {rs : List ResultVar} {K : List V → Prop}, resL T s rs K → ∃ vs, K vs ∧ ∀ (G : Gh) (a : Act) (w : World), Sim G N s a w →
    ∃ us, (rs.mapM fun (r : ResultVar) => (match r with | .tmp t => (pure (a.tmps.getD t undef) : Sem Value) | .cell x t => do loadVar t (← asAddr (a.tmps.getD x undef)))).run P w = .ok us w ∧ vrs G w vs us
  | [], K, h => ⟨[], h, fun G a w hs => ⟨[], rfl, vrs.nil⟩⟩
  | r :: rs, K, h => by
    obtain ⟨v, h', hv⟩ := res1_out (N := N) hT h; clear h; have h := h'; clear h'
    obtain ⟨vs, hK, hvs⟩ := resL_out hT h
    refine ⟨v :: vs, hK, fun G a w hs => ?_⟩
    obtain ⟨u, hu, hvr⟩ := hv G a w hs
    obtain ⟨us, hus, hvrs⟩ := hvs G a w hs
    refine ⟨u :: us, ?_, by simp [hvrs.1], fun j v' u' h1 h2 => ?_⟩
    · rw [List.mapM_cons]
      simp only [Sem.run_bind, hu, Result.andThen_ok, hus, Sem.run_pure]
    · cases j with
      | zero => simp at h1 h2; subst h1; subst h2; exact hvr
      | succ j => exact hvrs.2 j v' u' (by simpa using h1) (by simpa using h2)

/-- Some blocks (marks) are shut, nothing else. -/
structure Shut (ms : List Nat) (w w' : World) : Prop where
  os : w'.os = w.os
  tape : w'.tape = w.tape
  output : w'.output = w.output
  size : w'.heap.size = w.heap.size
  heap : ∀ c, c ∉ ms → w'.heap[c]? = w.heap[c]?
  dead : ∀ c m, csz w c = some m → csz w' c = some m
theorem Sim.shut {G : Gh} {s : St} {a : Act} {w w' : World} {ms : List Nat} (hs : Sim G N s a w) (h : Shut ms w w') (hm : ∀ r ∈ ms, (∀ b, G.ι b ≠ some r) ∧ ¬ G.amb r) : Sim G N s a w' := by
  have hv : ∀ {v : V} {u : Value}, vr G w v u → vr G w' v u := fun hv => VR.mono (fun _ _ h => h) h.dead (fun fr a u hi => ⟨(World.cell?_of_block (h.heap _ (fun hc => (hm _ hc).2 hi.2.1))).trans hi.1, hi.2⟩) hv
  have hh : ∀ {b fr ex ty vs}, Holds G w b fr ex ty vs → Holds G w' b fr ex ty vs := by
    rintro b fr ex ty vs ⟨c, cs, h1, h2, h3, h4, h5, h6⟩
    exact ⟨c, cs, h1, (h.heap c (fun hc => (hm c hc).1 b h1)).trans h2, h3, h4, h5, fun j v hj => let ⟨u, hu, h1, hr⟩ := h6 j v hj; ⟨u, hu, h1, hv hr⟩⟩
  refine ⟨hs.size, fun i => hv (hs.tmp i), ⟨fun c hc => by rw [h.size]; exact hs.hr.amb_lt c hc, by rw [h.size]; exact hs.hr.B_le, hs.hr.dom, fun b blk hb => ?_, hs.hr.inj, hs.hr.apart, fun b c hc => by rw [h.size]; exact hs.hr.lt b c hc, hs.hr.hdom⟩⟩
  have := hs.hr.own b blk hb
  cases blk with
  | var fr ty cells => exact hh this
  | arr fr ex ty sz rows =>
    refine ⟨this.1, ?_⟩
    rcases this.2 with h1 | h1
    · exact .inl h1
    · exact .inr (hh h1)
  | loop N t ps asg body st pend =>
    obtain ⟨c, r, h1, h2, h3, h4, h5, h6, h7, h8, h9⟩ := this
    exact ⟨c, r, h1, (h.heap c (fun hc => (hm c hc).1 b h1)).trans h2, h3, h4, h5, h6, h7, h8, fun i => hv (h9 i)⟩
theorem leaves_marks {F : Fence} {n : Nat} {fn : Func} {tmps : Array Value} {R : Ending → World → Prop} : ∀ {ms : List Nat} {w : World}, (∀ r ∈ ms, w.heap[r]? = some (.deferred (some []))) → ms.Pairwise (· ≠ ·) →
    (∀ w', Shut ms w w' → ∃ v, (results fn tmps).run P w' = .ok v w' ∧ R (.returned v) w') → LeavesInM F n P fn tmps R (ms.map fun r => { target := .collected r, args := #[] }) .returning w
  | [], w, h1, h2, h => by
    obtain ⟨v, hv, hR⟩ := h w ⟨rfl, rfl, rfl, rfl, fun _ _ => rfl, fun _ _ h => h⟩
    exact ⟨v, hv, hR⟩
  | r :: ms, w, h1, h2, h => by
    have hr := h1 r (by simp)
    obtain ⟨p1, p2⟩ := List.pairwise_cons.1 h2
    refine ⟨by simp, .inl ⟨r, _, rfl, run_takeDeferred hr, leaves_marks (ms := ms) (fun q hq => ?_) p2 fun w' hw => ?_⟩⟩
    · rw [World.putObj_heap_other (Ne.symm (p1 q hq))]
      exact h1 q (by simp [hq])
    · refine h w' ⟨hw.os, hw.tape, hw.output, by rw [hw.size]; simp, fun c hc => ?_, fun c m hm => hw.dead c m ?_⟩
      · rw [hw.heap c (fun h => hc (by simp [h])), World.putObj_heap_other (fun e => hc (by simp [e]))]
      · unfold csz at hm ⊢
        by_cases e : c = r
        · subst e; rw [hr] at hm; cases hm
        · rw [World.putObj_heap_other e]; exact hm

/-- A CONTRACT, OUT OF THE BODY's WALK. -/
theorem callV_of (hT : TabOk P T) (hm : P.follows .mixedOrders = true) {f : FuncId} {fn : Func} {body : Code} (hf : P.funcs[f]? = some fn) (hb : fn.body = some body) (hn : fn.name ≠ "runtime.NumGoroutine") {args : List V} {h : Heap} {nx : Nat} {R : V → Heap → Nat → Prop}
    (hl : args.length ≤ fn.ntmps)
    (hv : vcg P T fn.ntmps nx false body ⟨zipT args 0, h, nx⟩ (fun e s' => match e with
      | .normal | .ret => resK T s' fn.results.toList fun v => ∃ v' h' nx', Ends nx s' v v' h' nx' ∧ R v' h' nx'
      | _ => False)) : CallV P f args h nx R := by
  refine ⟨⟨fn, hf, by simp [hb], hn⟩, fun G w us hr hargs => (callsIn_wide (n := 0)).1 (callsIn_of_wp_marks hf hb trivial ?_)⟩
  have hsim : Sim G fn.ntmps ⟨zipT args 0, h, nx⟩ { tmps := us.toArray ++ Array.replicate (fn.ntmps - us.toArray.size) undef, defers := [] } w := by
    have hul : us.length = args.length := hargs.1.symm
    refine ⟨by simp; omega, fun i => ?_, hr⟩
    simp only [St.get]
    rw [zipT_get]
    split
    · rename_i hi
      have hi1 : i < args.length := by omega
      have hi2 : i < us.length := by omega
      have e1 : args.getD (i - 0) .any = args[i] := by simp [hi1]
      rw [e1]
      have e2 : (us.toArray ++ Array.replicate (fn.ntmps - us.toArray.size) undef).getD i undef = us[i] := by
        rw [Array.getD_eq_getD_getElem?, Array.getElem?_append_left (by simpa using hi2)]
        simp [hi2]
      rw [e2]
      exact hargs.2 i _ _ (List.getElem?_eq_getElem hi1) (List.getElem?_eq_getElem hi2)
    · exact .any _
  refine wpIn_mono (vcg_ok hT hm (.inl rfl) (fun _ => rfl) hv 0 G _ w hsim (Nat.le_refl _)) ?_
  rintro e a' w' ⟨e', s', G', rfl, hq, hs', he, hb', hd⟩
  obtain ⟨ms, hms, hmk, hpw⟩ := hd
  rw [List.append_nil] at hms
  have fin : resK T s' fn.results.toList (fun v => ∃ v' h' nx', Ends nx s' v v' h' nx' ∧ R v' h' nx') → ∀ w'', Shut ms w' w'' → ∃ v, (results fn a'.tmps).run P w'' = .ok v w'' ∧
      ∃ u v1 h' nx' G', Ending.returned v = .returned u ∧ R v1 h' nx' ∧ vr G' w'' v1 u ∧ HR G' h' nx' w'' ∧ Evo nx G w G' w'' ∧ nx ≤ nx' := by
    intro hq w'' hsh
    have hs' := hs'.shut hsh (fun r hr => (hmk r hr).2.2)
    have hmw : ∀ c, c < w.heap.size → c ∉ ms := fun c hc hm => by have := (hmk c hm).1; omega
    have he : Evo nx G w G' w'' := ⟨hsh.os.trans he.os, hsh.tape.trans he.tape, hsh.output.trans he.output, by rw [hsh.size]; exact he.size, he.B, he.amb, fun c hc => (hsh.heap c (hmw c (hr.amb_lt c hc))).trans (he.keep c hc),
      fun c m hm => hsh.dead c m (he.csz c m hm), he.ids, fun c hc hn => (hsh.heap c (hmw c hc)).trans (he.keepu c hc hn), he.ambn, he.idn⟩
    clear hmk
    obtain ⟨vs, hK, hvs⟩ := resL_out (N := fn.ntmps) hT hq
    obtain ⟨us, hus, hvrs⟩ := hvs G' a' w'' hs'
    have hres : (results fn a'.tmps).run P w'' = .ok (if h : us.toArray.size = 1 then us.toArray[0] else .tuple us.toArray) w'' := by
      unfold results
      rw [Array.mapM_eq_mapM_toList]
      simp only [Sem.run_bind, Sem.run_map]
      have e : (fn.results.toList.mapM fun (x : ResultVar) => (match x with | .tmp t => (pure (a'.tmps.getD t undef) : Sem Value) | .cell a t => do loadVar t (← asAddr (a'.tmps.getD a undef)))).run P w'' = .ok us w'' := hus
      erw [e]
      rfl
    have key : ∃ v, vr G' w'' v (if h : us.toArray.size = 1 then us.toArray[0] else .tuple us.toArray) ∧ ∃ v' h' nx', Ends nx s' v v' h' nx' ∧ R v' h' nx' := by
      have hl := hvrs.1
      split at hK
      · rename_i v
        have h1 : us.toArray.size = 1 := by simpa using hl.symm
        rw [dif_pos h1]
        have h1' : 0 < us.length := by simp at h1; omega
        exact ⟨v, by simpa using hvrs.2 0 v us[0] rfl (List.getElem?_eq_getElem h1'), hK⟩
      · rename_i hne
        have h1 : ¬ us.toArray.size = 1 := by
          intro h1
          have h1' : vs.length = 1 := by rw [hl]; simpa using h1
          obtain ⟨v, rfl⟩ := List.length_eq_one_iff.1 h1'
          exact hne v rfl
        rw [dif_neg h1]
        exact ⟨.tup vs, .tup vs us hvrs.1 hvrs.2, hK⟩
    obtain ⟨v, hvr, v', h', nx', hfin, hR⟩ := key
    obtain ⟨G2, q1, q2, q3, q4⟩ := hfin G' w'' _ hs'.hr hb' hvr
    exact ⟨_, hres, _, v', h', nx', G2, rfl, hR, q2, q1, he.trans q3, q4⟩
  cases e' with
  | normal => show LeavesInM _ _ _ _ _ _ a'.defers _ _; rw [hms]; exact leaves_marks (fun r hr => (hmk r hr).2.1) hpw (fin hq)
  | ret => show LeavesInM _ _ _ _ _ _ a'.defers _ _; rw [hms]; exact leaves_marks (fun r hr => (hmk r hr).2.1) hpw (fin hq)
  | exit id => exact hq.elim
  | goto id => exact hq.elim
end
end Go.Proofs.Ytcfkendgjinmiaa
