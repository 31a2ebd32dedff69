/- Joined: VJ0, VJ, VK, VP, VQ, VU, VU2. -/
import Derived.Test.YtfaglgoanmcifaaGreatK1
import Derived.Maps.Keyed
import Derived.Maps.RangeRun
import Derived.DeepKeys4
import Derived.RangeFuncRecord
import Derived.Laws.BytesString
import Derived.RangeFuncIn
import Derived.RangeFuncCalls
import Derived.RangeFuncLeaves
import Derived.OrdersIn
set_option linter.unusedVariables false
set_option linter.unusedSimpArgs false
namespace Go.Proofs.YtfaglgoanmcifaaGreat
open Go.RowKit
open Go.Maps (Keyed bool_keyed int_keyed string_keyed)
variable {P : Program} {T : Tab} {s : St} {g : Option Bool} {o : Oper} {K : OK}
theorem mapM_mono {α β : Type} {f g : α → Option β} : ∀ {l : List α} {r : List β}, l.mapM f = some r → (∀ x ∈ l, ∀ y, f x = some y → g x = some y) → l.mapM g = some r
  | [], r, h, _ => by simpa using h
  | x :: l, r, h, hf => by
    rw [List.mapM_cons] at h ⊢
    cases hx : f x with
    | none => rw [hx] at h; cases h
    | some y =>
      rw [hx] at h
      rw [hf x (by simp) y hx]
      cases hl : l.mapM f with
      | none => rw [hl] at h; cases h
      | some ys =>
        rw [hl] at h
        rw [mapM_mono hl (fun x hx => hf x (by simp [hx]))]
        exact h
theorem keyLits_mono {P : Program} : ∀ {d : Nat} {t : TypeId} {cs : List Value} {l : List Lit}, P.keyLits d t cs = some l → ∀ {d' : Nat}, d ≤ d' → P.keyLits d' t cs = some l
  | 0, t, cs, l, h, d', _ => by simp [Program.keyLits] at h
  | d + 1, t, cs, l, h, d', hd => by
    obtain ⟨e, rfl⟩ : ∃ e, d' = e + 1 := ⟨d' - 1, by omega⟩
    unfold Program.keyLits at h ⊢
    cases hu : P.underlying t with
    | none => simp [hu] at h
    | some dd =>
      cases dd
      case array n el =>
        simp only [hu] at h ⊢
        split at h
        · rename_i hc
          rw [if_pos hc]
          obtain ⟨ls, hls, rfl⟩ := Option.map_eq_some_iff.1 h
          rw [mapM_mono hls (fun x _ y hy => keyLits_mono hy (by omega))]
          rfl
        · cases h
      case struct fs =>
        simp only [hu] at h ⊢
        split at h
        · rename_i hc
          rw [if_pos hc]
          obtain ⟨ls, hls, rfl⟩ := Option.map_eq_some_iff.1 h
          rw [mapM_mono hls (fun x _ y hy => keyLits_mono hy (by omega))]
          rfl
        · cases h
      all_goals (simp only [hu] at h ⊢; revert h; rcases cs with _ | ⟨a, _ | ⟨b, r⟩⟩ <;> first | exact id | (cases a <;> exact id))
theorem KeyV.out (hT : TabOk P T) {t : Nat} {v : V} (h : KeyV T t v) : Keyed P t ∧ ∀ (G : Gh) (w : World) (u : Value), vr G w v u → ∃ l, keyOf P t u = some l := by
  obtain ⟨hm, hagg, hflat, la, hl⟩ := h
  obtain ⟨hk, htl, hkt, h60⟩ := hT.2.2 t hm
  obtain ⟨la', rfl, hko, hc⟩ := litK_out hT 60 t _ _ hl
  obtain ⟨_, _, d, _, _, _, _, _, h6, h7⟩ := hT.at hko
  have hlits : ∀ (G : Gh) (w : World) (us : List Value), CellsR G w (keyC v) us → P.keyLits (P.types.size + 1) t us = some la' := fun G w us hu => keyLits_mono (hc G w us hu hk) h60
  by_cases ha : aggV v = true
  · obtain ⟨cs, rfl⟩ : ∃ cs, v = .agg cs := by cases v <;> simp [aggV] at ha; exact ⟨_, rfl⟩
    rw [ha] at hagg
    have hwide : (match P.underlying t with | some (.array _ _) | some (.struct _) => true | _ => false) = true := by
      rw [h6]
      generalize (T t).k = k at hagg h7
      cases k <;> simp [isAgg] at hagg
      · obtain ⟨_, rfl, _⟩ := h7; rfl
      · simp only [DescOk] at h7; subst h7; rfl
    refine ⟨Keyed.of_law (deep_law (m := 60) (by omega) hk htl hwide), fun G w u hu => ?_⟩
    cases hu with
    | agg _ us hl' hv =>
      have hks := hlits G w us ⟨hl', hv⟩
      have hlen : us.length = P.cellsOf t := by
        unfold Program.keyLits at hks
        rw [h6] at hks
        rw [h6] at hwide
        cases d <;> simp at hwide <;> simp only at hks <;> split at hks <;> first | (rename_i hh; first | exact hh | exact hh.1) | cases hks
      have hfm : (Value.agg us.toArray).formed P t = true := by
        rw [h6] at hwide
        cases d <;> simp at hwide <;> simp [Value.formed, h6, hlen]
      refine ⟨.string (keyBytes la'), ?_⟩
      unfold keyOf
      rw [h6] at hwide ⊢
      cases d <;> simp at hwide <;> simp [hkt, hfm, Value.cells, hks]
  · have ha : aggV v = false := by simpa using ha
    rw [ha] at hagg
    have hkc : keyC v = [v] := by cases v <;> first | rfl | simp [aggV] at ha
    rw [hkc] at hlits
    have hone : ∀ (G : Gh) (w : World) (u : Value), vr G w v u → P.keyLits (P.types.size + 1) t [u] = some la' := fun G w u hu => hlits G w [u] ⟨rfl, fun j v' u' h1 h2 => by
      cases j with
      | zero => simp at h1 h2; subst h1; subst h2; exact hu
      | succ j => simp at h1⟩
    have hd : (d = .bool ∨ d = .string ∨ ∃ q, d = .int q) := by
      unfold Program.keyTypeAt at hk
      rw [h6] at hk
      generalize (T t).k = k at hagg h7 hko
      cases d <;> simp at hk <;> first | exact .inl rfl | exact .inr (.inl rfl) | exact .inr (.inr ⟨_, rfl⟩) | skip
      · exfalso
        cases k <;> simp [DescOk] at h7 <;> first | exact absurd rfl hko | (simp [isAgg] at hagg; done)
      · exfalso
        cases k <;> simp [DescOk] at h7 <;> first | exact absurd rfl hko | (simp [isAgg] at hagg; done)
    rcases hd with rfl | rfl | ⟨q, rfl⟩
    · refine ⟨bool_keyed h6, fun G w u hu => ?_⟩
      have := hone G w u hu
      unfold Program.keyLits at this
      rw [h6] at this
      cases u <;> simp at this
      rename_i b0
      exact ⟨.bool b0, by simp [keyOf, h6, mapKey]⟩
    · refine ⟨string_keyed h6, fun G w u hu => ?_⟩
      have := hone G w u hu
      unfold Program.keyLits at this
      rw [h6] at this
      cases u <;> simp at this
      rename_i bs
      refine ⟨.string bs.data.toList, ?_⟩
      simp only [keyOf, h6, mapKey]
      rw [if_pos this.1]
    · refine ⟨int_keyed h6, fun G w u hu => ?_⟩
      have := hone G w u hu
      unfold Program.keyLits at this
      rw [h6] at this
      cases u <;> simp at this
      rename_i q' n
      refine ⟨.int q n, ?_⟩
      simp only [keyOf, h6, mapKey]
      rw [if_pos this.1]
theorem flat_eq {v : V} (h : flatC v = true) {G G' : Gh} {w w' : World} {u u' : Value} (h1 : vr G w v u) (h2 : vr G' w' v u') : u = u' := by
  cases v <;> simp [flatC] at h <;> cases h1 <;> cases h2 <;> rfl
theorem flat_inj {v v' : V} (h : flatC v = true) (h' : flatC v' = true) {G G' : Gh} {w w' : World} {u : Value} (h1 : vr G w v u) (h2 : vr G' w' v' u) : v = v' := by
  cases v <;> simp [flatC] at h <;> cases v' <;> simp [flatC] at h' <;> cases h1 <;> cases h2 <;> rfl
theorem KeyV.fun_ {t : Nat} {v : V} (h : KeyV T t v) {G G' : Gh} {w w' : World} {u u' : Value} (h1 : vr G w v u) (h2 : vr G' w' v u') : u = u' := by
  obtain ⟨_, _, hf, _⟩ := h
  by_cases ha : ∃ cs, v = .agg cs
  · obtain ⟨cs, rfl⟩ := ha
    simp only [keyC, List.all_eq_true] at hf
    cases h1 with
    | agg _ us hl hv =>
      cases h2 with
      | agg _ us' hl' hv' =>
        congr 2
        refine List.ext_getElem (by omega) fun j q1 q2 => ?_
        have q3 : j < cs.length := by omega
        exact flat_eq (hf _ (List.getElem_mem q3)) (hv j _ _ (List.getElem?_eq_getElem q3) (List.getElem?_eq_getElem q1)) (hv' j _ _ (List.getElem?_eq_getElem q3) (List.getElem?_eq_getElem q2))
  · have : keyC v = [v] := by cases v <;> first | rfl | exact absurd ⟨_, rfl⟩ ha
    rw [this] at hf
    exact flat_eq (by simpa using hf) h1 h2
theorem KeyV.inj {t : Nat} {v v' : V} (h : KeyV T t v) (h' : KeyV T t v') {G G' : Gh} {w w' : World} {u : Value} (h1 : vr G w v u) (h2 : vr G' w' v' u) : v = v' := by
  obtain ⟨_, ha, hf, _⟩ := h
  obtain ⟨_, ha', hf', _⟩ := h'
  rw [← ha'] at ha
  by_cases hx : ∃ cs, v = .agg cs
  · obtain ⟨cs, rfl⟩ := hx
    obtain ⟨cs', rfl⟩ : ∃ cs', v' = .agg cs' := by cases v' <;> simp [aggV] at ha; exact ⟨_, rfl⟩
    simp only [keyC, List.all_eq_true] at hf hf'
    cases h1 with
    | agg _ us hl hv =>
      generalize hg : (Value.agg us.toArray) = ug at h2
      cases h2 with
      | agg _ us' hl' hv' =>
        have : us = us' := by simpa using hg
        subst this
        congr 1
        refine List.ext_getElem (by omega) fun j q1 q2 => ?_
        have q3 : j < us.length := by omega
        exact flat_inj (hf _ (List.getElem_mem q1)) (hf' _ (List.getElem_mem q2)) (hv j _ _ (List.getElem?_eq_getElem q1) (List.getElem?_eq_getElem q3)) (hv' j _ _ (List.getElem?_eq_getElem q2) (List.getElem?_eq_getElem q3))
  · have e : keyC v = [v] := by cases v <;> first | rfl | exact absurd ⟨_, rfl⟩ hx
    have e' : keyC v' = [v'] := by
      cases v' <;> first | rfl | skip
      exfalso
      cases v <;> simp [aggV] at ha
      exact hx ⟨_, rfl⟩
    rw [e] at hf
    rw [e'] at hf'
    exact flat_inj (by simpa using hf) (by simpa using hf') h1 h2
theorem csz_putO {w : World} {c : Nat} {o0 o' : Obj} (hg : w.heap[c]? = some o0) (hn : ∀ m, csz w c ≠ some m) {c' m : Nat} (h : csz w c' = some m) : csz (w.putObj c o') c' = some m := by
  by_cases e : c' = c
  · subst e; exact absurd h (hn m)
  · unfold csz at h ⊢
    rw [World.putObj_heap_other e]; exact h
theorem EvoA.putO {G : Gh} {w : World} {c : Nat} {o0 o' : Obj} (hg : w.heap[c]? = some o0) (hn : ∀ m, csz w c ≠ some m) (ha : ¬ G.amb c) {b : Nat} (hb : G.ι b = some c) : EvoA G w G (w.putObj c o') := fun base =>
  ⟨rfl, rfl, rfl, by simp [World.putObj], rfl, fun _ hc => hc, fun c' hc => World.putObj_heap_other (fun e => ha (e ▸ hc)), fun _ _ hm => csz_putO hg hn hm, fun _ _ _ hc => hc,
   fun c' _ hn => World.putObj_heap_other (fun e => hn b (e ▸ hb)), fun _ h _ => .inl h, fun b _ h _ => ⟨b, h⟩⟩
theorem HR.putO {G : Gh} {hp : Heap} {n : Nat} {w : World} (h : HR G hp n w) {b c : Nat} {blk : Blk} (hb : hget hp b = some blk) (hc : G.ι b = some c) {o0 o' : Obj}
    (hg : w.heap[c]? = some o0) (hn : ∀ m, csz w c ≠ some m) (blk' : Blk) (hok : BlkOk G (w.putObj c o') b blk') : HR G ((b, some blk') :: hp) n (w.putObj c o') := by
  have he : EvoA G w G (w.putObj c o') := EvoA.putO hg hn (h.apart b blk c hb hc) hc
  have live : ∀ {b' k}, hget ((b, some blk') :: hp) b' = some k → ∃ k', hget hp b' = some k' := by
    intro b' k hk
    rw [hget_cons] at hk
    split at hk
    · rename_i e; subst e; exact ⟨_, hb⟩
    · exact ⟨k, hk⟩
  have hsz : (w.putObj c o').heap.size = w.heap.size := by simp [World.putObj]
  refine ⟨fun c hc => by rw [hsz]; exact h.amb_lt c hc, by rw [hsz]; exact h.B_le, h.dom, fun b' k hk => ?_, fun b1 b2 k1 k2 c' h1 h2 h3 h4 => ?_, fun b' k c' hk hc' => ?_, fun b' c' hc' => by rw [hsz]; exact h.lt b' c' hc', fun b' k hk => ?_, h.gl.evo (he 0)⟩
  · rw [hget_cons] at hk
    split at hk
    · rename_i e; subst e; cases hk; exact hok
    · rename_i e
      refine (h.own b' k hk).keep he (fun c' hc' => World.putObj_heap_other ?_) (fun hn => hn)
      rintro rfl
      exact e (h.inj b b' _ _ _ hb hk hc hc')
  · obtain ⟨_, g1⟩ := live h1
    obtain ⟨_, g2⟩ := live h2
    exact h.inj b1 b2 _ _ c' g1 g2 h3 h4
  · obtain ⟨_, g1⟩ := live hk
    exact h.apart b' _ c' g1 hc'
  · obtain ⟨_, g1⟩ := live hk
    exact h.hdom b' _ g1
theorem csz_map {w : World} {c : Nat} {arr : Array MapEntry} {clk : Nat} (h : w.heap[c]? = some (.map arr clk)) : ∀ m, csz w c ≠ some m := fun m hm => by
  unfold csz at hm; rw [h] at hm; cases hm
theorem find_out (hT : TabOk P T) {kt : Nat} {key : V} {es : List (V × V)} (hk : KeyV T kt key) (hks : KeysV T kt es) {G : Gh} {w : World} {arr : Array MapEntry} {clk : Nat} (hok : EntOk arr clk) (hl : es.length = arr.toList.length)
    (hes : ∀ (j : Nat) (kv : V × V) (e : MapEntry), es[j]? = some kv → arr.toList[j]? = some e → vr G w kv.1 e.key ∧ vr G w kv.2 e.val) {u : Value} (hu : vr G w key u) :
    (∀ em, (Instr.checkKey em 10000 kt u).run P w = .ok () w) ∧ (Instr.keyThatStays u u).run P w = .ok u w ∧ (∀ r, MPos es key r → match r with
      | none => (Instr.findKey kt u arr.toList).run P w = .ok none w ∧ ∀ e ∈ arr.toList, e.key ≠ u
      | some i => ∃ e, arr.toList[i]? = some e ∧ e.key = u ∧ (Instr.findKey kt u arr.toList).run P w = .ok (some (i, e.val)) w) := by
  obtain ⟨hK, hlit⟩ := hk.out hT
  obtain ⟨lx, hlx⟩ := hlit G w u hu
  have hall : ∀ e ∈ arr.toList, ∃ l, keyOf P kt e.key = some l := by
    intro e he
    obtain ⟨j, hj, rfl⟩ := List.mem_iff_getElem.1 he
    have hj' : j < es.length := by omega
    exact ((hks _ (List.getElem_mem hj')).out hT).2 G w _ (hes j _ _ (List.getElem?_eq_getElem hj') (List.getElem?_eq_getElem hj)).1
  refine ⟨fun em => hK.check w em hlx, hK.stays w hlx, fun r hr => ?_⟩
  cases r with
  | none =>
    have hne : ∀ e ∈ arr.toList, e.key ≠ u := by
      intro e he hc
      obtain ⟨j, hj, rfl⟩ := List.mem_iff_getElem.1 he
      have hj' : j < es.length := by omega
      have h1 := (hes j _ _ (List.getElem?_eq_getElem hj') (List.getElem?_eq_getElem hj)).1
      rw [hc] at h1
      exact hr _ (List.getElem_mem hj') ((hks _ (List.getElem_mem hj')).inj hk h1 hu)
    rcases hK.find w hlx arr.toList hall with ⟨h1, _⟩ | ⟨j, e, _, h2, h3⟩
    · exact ⟨h1, hne⟩
    · exact absurd h3 (hne e (List.mem_of_getElem? h2))
  | some i =>
    obtain ⟨v, hi⟩ := hr
    have hi' : i < arr.toList.length := by rw [← hl]; exact (List.getElem?_eq_some_iff.1 hi).1
    have h1 := (hes i _ _ hi (List.getElem?_eq_getElem hi')).1
    have hkey : arr.toList[i].key = u := hk.fun_ h1 hu
    refine ⟨_, List.getElem?_eq_getElem hi', hkey, ?_⟩
    rcases hK.find w hlx arr.toList hall with ⟨_, h2⟩ | ⟨j, e, h1, h2, h3⟩
    · exact absurd hkey (h2 _ (List.getElem_mem hi'))
    · have hij : i = j := by
        have hnd := hok.2.2
        have hj : j < arr.toList.length := (List.getElem?_eq_some_iff.1 h2).1
        have e2 : arr.toList[j] = e := (List.getElem?_eq_some_iff.1 h2).2
        rcases Nat.lt_trichotomy i j with h | h | h
        · exfalso
          have := List.pairwise_iff_getElem.1 hnd i j (by simpa using hi') (by simpa using hj) h
          simp only [List.getElem_map] at this
          exact this (by rw [hkey, e2, h3])
        · exact h
        · exfalso
          have := List.pairwise_iff_getElem.1 hnd j i (by simpa using hj) (by simpa using hi') h
          simp only [List.getElem_map] at this
          exact this (by rw [hkey, e2, h3])
      subst hij
      have : e = arr.toList[i] := ((List.getElem?_eq_some_iff.1 h2).2).symm
      rw [h1, this]
theorem MVal.pos {es : List (V × V)} {key : V} {r : Option V} (h : MVal es key r) : (r = none ∧ MPos es key none) ∨ ∃ v i, r = some v ∧ es[i]? = some (key, v) ∧ MPos es key (some i) := by
  cases r with
  | none => exact .inl ⟨rfl, h⟩
  | some v => obtain ⟨i, hi⟩ := h; exact .inr ⟨v, i, rfl, hi, v, hi⟩
theorem zeroK_out (hT : TabOk P T) {t : Nat} {K : V → Prop} (h : zeroK (T t) K) : ∃ v, K v ∧ ∀ (G : Gh) (w : World), ∃ u, (zeroValue t).run P w = .ok u w ∧ vr G w v u := by
  unfold zeroK at h
  obtain ⟨cs, h, hl, h1, hv⟩ := constsK_out h
  obtain ⟨h', hko⟩ := szK_out h
  clear h
  have h := h'
  clear h'
  rcases hT.1 t with ⟨i, z, hi, hsz, hby, hz, hzc, d, h6, h7, hzl, hza⟩ | hx
  rotate_left
  · exact absurd hx hko
  have hz' : ∀ w, (zeroValue t).run P w = .ok z w := fun w => by simp [zeroValue, typeInfo, hi, hz]
  split at h
  · rename_i hlen
    split at h
    · rename_i ha
      rw [ha] at hza
      refine ⟨_, h, fun G w => ⟨z, hz' w, ?_⟩⟩
      have hvs := hv G w
      rw [← hzc] at hvs
      cases z <;> simp [zAgg] at hza
      rename_i us
      have := VR.agg (ι := G.ι) (csz := csz w) (imm := imm G w) cs us.toList hvs.1 hvs.2
      simpa using this
    · rename_i ha
      rw [ha] at hza
      rcases cs with _ | ⟨v, _ | ⟨v2, r⟩⟩
      · exact h.elim
      · refine ⟨v, h, fun G w => ⟨z, hz' w, ?_⟩⟩
        have hvs := hv G w
        rw [← hzc] at hvs
        have hzc' : z.cells = #[z] := by cases z <;> first | rfl | (simp [zAgg] at hza)
        rw [hzc'] at hvs
        exact hvs.2 0 v z rfl rfl
      · exact h.elim
  · exact h.elim
theorem lt_of_heap' {w : World} {r : Nat} {o : Obj} (h : w.heap[r]? = some o) : r < w.heap.size := (Array.getElem?_eq_some_iff.1 h).1
theorem ex_makeMap (hT : TabOk P T) {t : TypeId} {r : Option Operand} (ho : o.op = .makeMap t r) (h : exec T s g o K) : ExOk P s g o K := by
  simp only [exec, ho] at h
  split at h
  · rename_i kt et hk hr
    rw [forceN_eq] at h
    obtain ⟨_, _, d, _, _, _, _, _, h6, h7⟩ := hT.at (t := t) (by rw [hk]; simp)
    rw [hk, DescOk] at h7
    subst h7
    refine ⟨_, _, _, _, h, .new (.nil _), fun _ => ⟨Nat.le_succ _, fun G N a w s' hs ha hrd hn => ?_⟩, fun hg => absurd rfl hg⟩
    have hi : G.ι s.nx = none := hn s.nx (Nat.le_refl _) (Nat.lt_succ_self _)
    refine ⟨.map (some w.heap.size), w.alloc (.map #[] 0), G.with s.nx (some w.heap.size), .inl ?_, .mapp _ _ (Gh.with_self _ _ _), ?_, fun b hb => Gh.with_other _ (by omega) _, EvoA.alloc hs.hr _ _ hi⟩
    · unfold resvOk at hr
      have hno : (newObj (.map #[] 0)).run P w = .ok w.heap.size (w.alloc (.map #[] 0)) := rfl
      split at hr
      · simp only [execOp, ho, Instr.makeMap, Option.map_none, Sem.run_bind, hno, Result.andThen_ok, Sem.run_pure]
      · simp only [execOp, ho, Instr.makeMap, Option.map_some, Sem.run_bind, run_underlying h6, Act.eval, asInt, hno, Result.andThen_ok, Sem.run_pure]
        rfl
      · cases hr
    · have := HR.alloc hs.hr (.map #[] 0) s.nx hi (.map []) ⟨_, #[], 0, Gh.with_self _ _ _, World.alloc_heap_new _ _, ⟨by simp, by simp, by simp⟩, rfl, by simp⟩
      simpa using this
  · exact h.elim
theorem EntOk.push {arr : Array MapEntry} {clk : Nat} (h : EntOk arr clk) {key val : Value} (hk : ∀ e ∈ arr.toList, e.key ≠ key) : EntOk (arr.push { key, val, born := clk }) (clk + 1) := by
  obtain ⟨h1, h2, h3⟩ := h
  refine ⟨?_, fun e he => ?_, ?_⟩
  · rw [Array.toList_push, List.map_append, List.pairwise_append]
    refine ⟨h1, by simp, fun a ha b hb => ?_⟩
    obtain ⟨e, he, rfl⟩ := List.mem_map.1 ha
    simp at hb
    subst hb
    have := h2 e he
    omega
  · rw [Array.toList_push, List.mem_append] at he
    rcases he with he | he
    · have := h2 e he; omega
    · simp at he; subst he; simp
  · rw [Array.toList_push, List.map_append, List.pairwise_append]
    refine ⟨h3, by simp, fun a ha b hb => ?_⟩
    obtain ⟨e, he, rfl⟩ := List.mem_map.1 ha
    simp at hb
    subst hb
    exact hk e he
theorem EntOk.modify {arr : Array MapEntry} {clk : Nat} (h : EntOk arr clk) {i : Nat} {key val : Value} (hk : ∀ e, arr.toList[i]? = some e → e.key = key) : EntOk (arr.modify i fun e => { e with key, val }) clk := by
  have hb : (arr.modify i fun e => { e with key, val }).toList.map (·.born) = arr.toList.map (·.born) := by
    apply List.ext_getElem
    · simp
    · intro j h1 h2
      simp only [List.getElem_map, Array.getElem_toList, Array.getElem_modify]
      split <;> rfl
  have hkk : (arr.modify i fun e => { e with key, val }).toList.map (·.key) = arr.toList.map (·.key) := by
    apply List.ext_getElem
    · simp
    · intro j h1 h2
      simp only [List.getElem_map, Array.getElem_toList, Array.getElem_modify]
      split
      · rename_i e
        subst e
        simp at h2
        have := hk arr[i] (by simp [h2])
        simp [this]
      · rfl
  obtain ⟨h1, h2, h3⟩ := h
  refine ⟨by rw [hb]; exact h1, fun e he => ?_, by rw [hkk]; exact h3⟩
  have : e.born ∈ (arr.modify i fun e => { e with key, val }).toList.map (·.born) := List.mem_map_of_mem he
  rw [hb] at this
  obtain ⟨e', he', hb'⟩ := List.mem_map.1 this
  rw [← hb']; exact h2 e' he'
theorem ex_mapUpdate (hT : TabOk P T) {t : TypeId} {m k v : Operand} (ho : o.op = .mapUpdate t m k v ∨ o.op = .insert t m k v) (h : exec T s g o K) : ExOk P s g o K := by
  have h' : mupK T s g t m k v K := by
    rcases ho with ho | ho <;> simp only [exec, ho] at h <;> exact h
  clear h
  have hops : m ∈ o.op.operands ∧ k ∈ o.op.operands ∧ v ∈ o.op.operands := by rcases ho with ho | ho <;> simp [ho, Op.operands]
  unfold mupK at h'
  split at h'
  · rename_i kt et b hk hm
    split at h'
    · rename_i es hb
      simp only [forceV_eq] at h'
      obtain ⟨hks, hkey, r, hr, hK⟩ := h'
      obtain ⟨_, _, d, _, _, _, _, _, h6, h7⟩ := hT.at (t := t) (by rw [hk]; simp)
      rw [hk, DescOk] at h7
      subst h7
      refine ⟨_, _, _, _, hK, .cons (.inl hb) (.nil _), fun _ => ⟨Nat.le_refl _, fun G N a w s' hs ha hrd hn => ?_⟩, fun hg => absurd rfl hg⟩
      have hvm := ev_vr hs m (otm o hops.1 ha)
      have hvk := ev_vr hs k (otm o hops.2.1 ha)
      have hvv := ev_vr hs v (otm o hops.2.2 ha)
      rw [hm] at hvm
      generalize hum : a.eval m = um at hvm
      generalize huk : a.eval k = uk at hvk
      generalize huv : a.eval v = uv at hvv
      cases hvm with
      | mapp _ c hι =>
        have hb' : hget s'.h b = some (.map es) := hrd b _ (by simp)
        obtain ⟨c', arr, clk, h1, h2, h3, h4, h5⟩ : MapH G w b es := hs.hr.own b (.map es) hb'
        rw [hι] at h1
        obtain rfl : c = c' := Option.some.inj h1
        have hap := hs.hr.apart b _ c hb' hι
        obtain ⟨f1, f2, f3⟩ := find_out hT hkey hks h3 h4 h5 hvk
        have fin : ∀ (arr' : Array MapEntry) (clk' : Nat), (Instr.mapUpdate t (.map (some c)) uk uv).run P w = .ok () (w.putObj c (.map arr' clk')) → MapH G (w.putObj c (.map arr' clk')) b (mput es (ev s k) (ev s v) r) →
            ∃ u w' G', Yields P a o w u w' ∧ vr G' w' .any u ∧ HR G' ([(b, some (.map (mput es (ev s k) (ev s v) r)))] ++ s'.h) (max s'.nx s.nx) w' ∧ (∀ b, (b < s.nx ∨ s.nx ≤ b) → G'.ι b = G.ι b) ∧ EvoA G w G' w' := by
          intro arr' clk' hrun hok
          refine ⟨undef, _, G, .inr ⟨?_, rfl⟩, .any _, (HR.putO hs.hr hb' hι h2 (csz_map h2) (.map (mput es (ev s k) (ev s v) r)) hok).more (Nat.le_max_left _ _), fun _ _ => rfl, EvoA.putO h2 (csz_map h2) hap hι⟩
          rcases ho with ho | ho <;> simp only [execOp, ho, hum, huk, huv, Sem.run_bind, hrun, Result.andThen_ok, Sem.run_pure]
        have hlt := lt_of_heap' h2
        have he : EvoA G w G (w.putObj c (.map #[] 0)) := EvoA.putO h2 (csz_map h2) hap hι
        have hev : ∀ (o' : Obj) {v : V} {u : Value}, vr G w v u → vr G (w.putObj c o') v u := fun o' _ _ hv => (EvoA.putO (o' := o') h2 (csz_map h2) hap hι).vr hv
        have hr' := f3 r hr
        cases r with
        | none =>
          obtain ⟨q1, q2⟩ := hr'
          refine fin (arr.push { key := uk, val := uv, born := clk }) (clk + 1) ?_ ⟨c, _, _, hι, World.putObj_heap_same hlt, h3.push q2, by simp [mput, h4], fun j kv e g1 g2 => ?_⟩
          · simp only [Instr.mapUpdate, Sem.run_bind, run_underlying h6, Result.andThen_ok, Go.MapKept.run_getObj_map h2, f1 false, q1]
            simp only [Go.MapKept.run_setObj_map _ h2, World.putObj]
          · rw [Array.toList_push] at g2
            simp only [mput] at g1
            rcases Nat.lt_or_ge j es.length with hj | hj
            · rw [List.getElem?_append_left hj] at g1
              rw [List.getElem?_append_left (by omega)] at g2
              exact ⟨hev _ (h5 j kv e g1 g2).1, hev _ (h5 j kv e g1 g2).2⟩
            · rw [List.getElem?_append_right hj] at g1
              rw [List.getElem?_append_right (by omega), ← h4] at g2
              cases hj2 : j - es.length with
              | zero =>
                rw [hj2] at g1 g2
                simp at g1 g2
                subst g1; subst g2
                exact ⟨hev _ hvk, hev _ hvv⟩
              | succ n => rw [hj2] at g1; simp at g1
        | some i =>
          obtain ⟨e0, q1, q2, q3⟩ := hr'
          have hil : i < arr.toList.length := (List.getElem?_eq_some_iff.1 q1).1
          refine fin (arr.modify i fun e => { e with key := uk, val := uv }) clk ?_ ⟨c, _, _, hι, World.putObj_heap_same hlt, h3.modify (fun e he => by rw [q1] at he; cases he; exact q2), by simp [mput, h4], fun j kv e g1 g2 => ?_⟩
          · have hgd : ((arr[i]?).map (·.key)).getD uk = uk := by
              have : arr[i]? = some e0 := by simpa using q1
              rw [this]; simpa using q2
            simp only [Instr.mapUpdate, Sem.run_bind, run_underlying h6, Result.andThen_ok, Go.MapKept.run_getObj_map h2, f1 false, q3, hgd, f2]
            simp only [Go.MapKept.run_setObj_map _ h2, World.putObj]
          · simp only [mput] at g1
            rw [List.getElem?_set] at g1
            rw [Array.toList_modify, List.getElem?_modify] at g2
            by_cases hij : i = j
            · subst hij
              rw [if_pos rfl, if_pos (by omega)] at g1
              cases g1
              rw [q1] at g2
              simp at g2
              subst g2
              exact ⟨hev _ hvk, hev _ hvv⟩
            · rw [if_neg hij] at g1
              simp only [if_neg hij] at g2
              have g2' : arr.toList[j]? = some e := by
                cases hx : arr.toList[j]? with
                | none => rw [hx] at g2; simp at g2
                | some y => rw [hx] at g2; simpa using g2
              exact ⟨hev _ (h5 j kv e g1 g2').1, hev _ (h5 j kv e g1 g2').2⟩
    · exact h'.elim
  · exact h'.elim
theorem okK_out {ok : Bool} {v : V} {b : Bool} {K : V → Prop} (h : okK ok v b K) : ∃ v', K v' ∧ ∀ (G : Gh) (w : World) (u : Value), vr G w v u → vr G w v' (if ok then .tuple #[u, .bool b] else u) := by
  cases ok with
  | true => exact ⟨_, h, fun G w u hu => .tup [v, .bool b] [u, .bool b] rfl fun j v' u' h1 h2 => by
      match j, h1, h2 with
      | 0, h1, h2 => cases h1; cases h2; exact hu
      | 1, h1, h2 => cases h1; cases h2; exact .bool _⟩
  | false => exact ⟨_, h, fun G w u hu => hu⟩
def lookS (kt et : TypeId) (u : Value) (es : List MapEntry) (ok : Bool) : Sem Value := do
  let (v, b) ← match ← Instr.findKey kt u es with
    | some (_, v) => pure (v, true)
    | none => pure (← zeroValue et, false)
  pure (if ok then .tuple #[v, .bool b] else v)
theorem lookup_run {t kt et : TypeId} (h6 : P.underlying t = some (.map kt et)) {x u : Value} {arr : Array MapEntry} {ok : Bool} {w : World} (hx : (x = .map none ∧ arr = #[]) ∨ ∃ c clk, x = .map (some c) ∧ w.heap[c]? = some (.map arr clk)) (hc : ∀ em, (Instr.checkKey em 10000 kt u).run P w = .ok () w) :
    (Instr.lookup t x u ok).run P w = (lookS kt et u arr.toList ok).run P w := by
  rcases hx with ⟨rfl, rfl⟩ | ⟨c, clk, rfl, hh⟩
  · simp only [Instr.lookup, lookS, Sem.run_bind, run_underlying h6, Result.andThen_ok, Sem.run_pure, hc]
    cases (Instr.findKey kt u ([] : List MapEntry)).run P w with
    | halt => rfl
    | ok a w => cases a <;> rfl
  · simp only [Instr.lookup, lookS, Sem.run_bind, run_underlying h6, Result.andThen_ok, Sem.run_pure, Go.MapKept.run_getObj_map hh, hc]
    cases (Instr.findKey kt u arr.toList).run P w with
    | halt => rfl
    | ok a w => cases a <;> rfl
theorem ex_lookup (hT : TabOk P T) {t : TypeId} {x i : Operand} {ok : Bool} (ho : o.op = .lookup t x i ok) (h : exec T s g o K) : ExOk P s g o K := by
  simp only [exec, ho] at h
  split at h
  · rename_i kt et hk
    obtain ⟨_, _, d, _, _, _, _, _, h6, h7⟩ := hT.at (t := t) (by rw [hk]; simp)
    rw [hk, DescOk] at h7
    subst h7
    obtain ⟨a, h, hva⟩ := argK_out h
    obtain ⟨iv, h, hvi⟩ := argK_out h
    rw [forceV_eq] at h
    obtain ⟨es, rd, h, hrd, hes⟩ := esK_out h
    obtain ⟨hks, hkey, r, hr, h⟩ := h
    obtain ⟨hKd, hlit⟩ := hkey.out hT
    have main : ∀ (val : V), K val rd [] s.nx → (∀ (G : Gh) (w : World) (arr : Array MapEntry) (clk : Nat), EntOk arr clk → es.length = arr.toList.length → (∀ (j : Nat) (kv : V × V) (e : MapEntry), es[j]? = some kv → arr.toList[j]? = some e → vr G w kv.1 e.key ∧ vr G w kv.2 e.val) → ∀ u, vr G w iv u →
        ∃ res, (lookS kt et u arr.toList ok).run P w = .ok res w ∧ vr G w val res) → ExOk P s g o K := by
      intro val hK hval
      refine .of_pure (rd := rd) hK (fun hg G N act w s' hs ha hr' => ?_) hrd
      have hx := hva hg G w _ (ev_vr hs x (otm o (by simp [ho, Op.operands]) ha))
      have hi := hvi hg G w _ (ev_vr hs i (otm o (by simp [ho, Op.operands]) ha))
      obtain ⟨lx, hlx⟩ := hlit G w _ hi
      rcases hes G N act w s' hs hr' _ hx with ⟨rfl, hux⟩ | ⟨c, arr, clk, hux, hh, hok, hl, hev⟩
      · obtain ⟨res, hres, hv⟩ := hval G w #[] 0 ⟨by simp, by simp, by simp⟩ rfl (by simp) _ hi
        refine ⟨res, ?_, hv⟩
        simp only [execOp, ho, hux, Sem.run_bind]
        rw [lookup_run (et := et) h6 (.inl ⟨rfl, rfl⟩) (fun em => hKd.check w em hlx), hres]
        rfl
      · obtain ⟨res, hres, hv⟩ := hval G w arr clk hok hl hev _ hi
        refine ⟨res, ?_, hv⟩
        simp only [execOp, ho, hux, Sem.run_bind]
        rw [lookup_run (et := et) h6 (.inr ⟨c, clk, rfl, hh⟩) (fun em => hKd.check w em hlx), hres]
        rfl
    rcases hr.pos with ⟨rfl, hp⟩ | ⟨v, j, rfl, hj, hp⟩
    · obtain ⟨z, h, hz⟩ := zeroK_out hT h
      obtain ⟨val, hK, hval⟩ := okK_out h
      refine main val hK fun G w arr clk hok hl hev u hu => ?_
      obtain ⟨f1, f2, f3⟩ := find_out hT hkey hks hok hl hev hu
      obtain ⟨q1, _⟩ := f3 none hp
      obtain ⟨uz, hz1, hz2⟩ := hz G w
      refine ⟨_, ?_, hval G w uz hz2⟩
      simp only [lookS, Sem.run_bind, q1, Result.andThen_ok, hz1, Sem.run_pure]
    · obtain ⟨val, hK, hval⟩ := okK_out h
      refine main val hK fun G w arr clk hok hl hev u hu => ?_
      obtain ⟨f1, f2, f3⟩ := find_out hT hkey hks hok hl hev hu
      obtain ⟨e, q1, q2, q3⟩ := f3 (some j) hp
      refine ⟨_, ?_, hval G w e.val (hev j _ e hj q1).2⟩
      simp only [lookS, Sem.run_bind, q3, Result.andThen_ok, Sem.run_pure]
  · exact h.elim
theorem ex_delete (hT : TabOk P T) {c : Call} (ho : o.op = .call c) (hc : c.callee = .builtin .delete) (h : exec T s g o K) : ExOk P s g o K := by
  simp only [exec, ho, hc] at h
  split at h
  · rename_i m k t tt hx ht
    have hargs : c.args = #[m, k] := by apply Array.ext'; simp [hx]
    have htys : c.argTypes = #[t, tt] := by apply Array.ext'; simp [ht]
    have hmm : m ∈ o.op.operands ∧ k ∈ o.op.operands := by rw [ho]; simp [Op.operands, Call.operands, hc, hargs]
    split at h
    · rename_i kt et b hk hm
      split at h
      · rename_i es hb
        rw [forceV_eq] at h
        obtain ⟨hks, hkey, r, hr, hK⟩ := h
        obtain ⟨_, _, d, _, _, _, _, _, h6, h7⟩ := hT.at (t := t) (by rw [hk]; simp)
        rw [hk, DescOk] at h7
        subst h7
        refine ⟨_, _, _, _, hK, .cons (.inl hb) (.nil _), fun _ => ⟨Nat.le_refl _, fun G N a w s' hs ha hrd hn => ?_⟩, fun hg => absurd rfl hg⟩
        have hvm := ev_vr hs m (otm o hmm.1 ha)
        have hvk := ev_vr hs k (otm o hmm.2 ha)
        rw [hm] at hvm
        generalize hum : a.eval m = um at hvm
        generalize huk : a.eval k = uk at hvk
        cases hvm with
        | mapp _ c' hι =>
          have hb' : hget s'.h b = some (.map es) := hrd b _ (by simp)
          obtain ⟨c2, arr, clk, h1, h2, h3, h4, h5⟩ : MapH G w b es := hs.hr.own b (.map es) hb'
          rw [hι] at h1
          obtain rfl : c' = c2 := Option.some.inj h1
          have hap := hs.hr.apart b _ c' hb' hι
          obtain ⟨f1, f2, f3⟩ := find_out hT hkey hks h3 h4 h5 hvk
          have fin : ∀ (arr' : Array MapEntry) (clk' : Nat), (Builtin.delete_ #[t, tt] o.type #[.map (some c'), uk]).run P w = .ok (.tuple #[]) (w.putObj c' (.map arr' clk')) → MapH G (w.putObj c' (.map arr' clk')) b (mdel es r) →
              ∃ u w' G', Yields P a o w u w' ∧ vr G' w' (.tup []) u ∧ HR G' ([(b, some (.map (mdel es r)))] ++ s'.h) (max s'.nx s.nx) w' ∧ (∀ b, (b < s.nx ∨ s.nx ≤ b) → G'.ι b = G.ι b) ∧ EvoA G w G' w' := by
            intro arr' clk' hrun hok
            refine ⟨.tuple #[], _, G, .inl ?_, .tup [] [] rfl (by simp), (HR.putO hs.hr hb' hι h2 (csz_map h2) (.map (mdel es r)) hok).more (Nat.le_max_left _ _), fun _ _ => rfl, EvoA.putO h2 (csz_map h2) hap hι⟩
            have : (execOp a.eval o).run P w = ((Builtin.delete_ #[t, tt] o.type #[a.eval m, a.eval k]).run P w).andThen fun v w => .ok (.value v) w := by
              simp [execOp, ho, resolve, hc, hargs, htys, invoke, builtin]
            rw [this, hum, huk, hrun]
            rfl
          have hlt := lt_of_heap' h2
          have hev : ∀ (o' : Obj) {v : V} {u : Value}, vr G w v u → vr G (w.putObj c' o') v u := fun o' _ _ hv => (EvoA.putO (o' := o') h2 (csz_map h2) hap hι).vr hv
          have hr' := f3 r hr
          cases r with
          | none =>
            obtain ⟨q1, q2⟩ := hr'
            refine fin arr clk ?_ ⟨c', _, _, hι, World.putObj_heap_same hlt, h3, h4, fun j kv e g1 g2 => ⟨hev _ (h5 j kv e g1 g2).1, hev _ (h5 j kv e g1 g2).2⟩⟩
            simp [Builtin.delete_, run_underlying h6, Go.MapKept.run_getObj_map h2, f1, q1, Go.MapKept.run_setObj_map _ h2, World.putObj]
          | some i =>
            obtain ⟨e0, q1, q2, q3⟩ := hr'
            have hil : i < arr.toList.length := (List.getElem?_eq_some_iff.1 q1).1
            have hid : (arr.eraseIdxIfInBounds i).toList = arr.toList.eraseIdx i := by
              rw [Array.eraseIdxIfInBounds, dif_pos (by simpa using hil)]
              simp
            refine fin (arr.eraseIdxIfInBounds i) clk ?_ ⟨c', _, _, hι, World.putObj_heap_same hlt, ?_, by simp only [mdel, hid, List.length_eraseIdx, h4], fun j kv e g1 g2 => ?_⟩
            · simp [Builtin.delete_, run_underlying h6, Go.MapKept.run_getObj_map h2, f1, q3, Go.MapKept.run_setObj_map _ h2, World.putObj]
            · refine ⟨?_, fun e he => ?_, ?_⟩
              · rw [hid]; exact h3.1.sublist ((List.eraseIdx_sublist _ _).map _)
              · rw [hid] at he; exact h3.2.1 e ((List.eraseIdx_sublist _ _).mem he)
              · rw [hid]; exact h3.2.2.sublist ((List.eraseIdx_sublist _ _).map _)
            · rw [hid] at g2
              simp only [mdel] at g1
              rw [List.getElem?_eraseIdx] at g1 g2
              by_cases hji : j < i
              · rw [if_pos hji] at g1 g2
                exact ⟨hev _ (h5 j kv e g1 g2).1, hev _ (h5 j kv e g1 g2).2⟩
              · rw [if_neg hji] at g1 g2
                exact ⟨hev _ (h5 (j + 1) kv e g1 g2).1, hev _ (h5 (j + 1) kv e g1 g2).2⟩
      · exact h.elim
    · exact h.elim
  · exact h.elim
theorem ex_range (hT : TabOk P T) {t : TypeId} {x : Operand} (ho : o.op = .range t x) (h : exec T s g o K) : ExOk P s g o K := by
  simp only [exec, ho] at h
  split at h
  · rename_i kt et fr es hk hx
    rw [forceN_eq] at h
    obtain ⟨_, _, d, _, _, _, _, _, h6, h7⟩ := hT.at (t := t) (by rw [hk]; simp)
    rw [hk, DescOk] at h7
    subst h7
    refine ⟨_, _, _, _, h, .new (.nil _), fun _ => ⟨Nat.le_succ _, fun G N a w s' hs ha hrd hn => ?_⟩, fun hg => absurd rfl hg⟩
    have hi : G.ι s.nx = none := hn s.nx (Nat.le_refl _) (Nat.lt_succ_self _)
    have hvx := ev_vr hs x (otm o (by simp [ho, Op.operands]) ha)
    rw [hx] at hvx
    generalize hux : a.eval x = ux at hvx
    cases hvx with
    | imap _ _ c arr clk hc hok hl hkk hvv =>
      have hh := rd_map.1 hc.1
      have he := EvoA.alloc hs.hr (.mapIter (some c) clk #[] clk) _ hi
      refine ⟨.pointer (some ⟨w.heap.size, 0, none⟩), w.alloc (.mapIter (some c) clk #[] clk), G.with s.nx (some w.heap.size), .inl ?_, .ptr _ _ _ (Gh.with_self _ _ _), ?_, fun b hb => Gh.with_other _ (by omega) _, he⟩
      · have hno : (newObj (.mapIter (some c) clk #[] clk)).run P w = .ok w.heap.size (w.alloc (.mapIter (some c) clk #[] clk)) := rfl
        simp only [execOp, ho, hux, Instr.range, Sem.run_bind, run_underlying h6, Result.andThen_ok, Go.MapKept.run_getObj_map hh, Sem.run_pure, hno]
      · have := HR.alloc hs.hr (.mapIter (some c) clk #[] clk) s.nx hi (.iter none es) ⟨_, Gh.with_self _ _ _, .inr ⟨c, arr, clk, fr, #[], List.range arr.toList.length, World.alloc_heap_new _ _, (he 0).imm hc, hok, List.nodup_range, fun j => ?_, by simp [hl], fun k j kv e h1 h2 h3 => ?_, fun kv hkv => by cases hkv⟩⟩
        · simpa using this
        · rw [List.mem_range]
          constructor
          · intro hj; exact ⟨_, List.getElem?_eq_getElem hj, by simp⟩
          · rintro ⟨e, he, _⟩; exact (List.getElem?_eq_some_iff.1 he).1
        · have hkl := (List.getElem?_eq_some_iff.1 h1).1
          have : k = j := by
            have := (List.getElem?_eq_some_iff.1 h1).2
            simpa using this
          subst this
          exact ⟨he.vr (hkk k kv e h2 h3), he.vr (hvv k kv e h2 h3)⟩
  · rename_i kt et hk hx
    rw [forceN_eq] at h
    obtain ⟨_, _, d, _, _, _, _, _, h6, h7⟩ := hT.at (t := t) (by rw [hk]; simp)
    rw [hk, DescOk] at h7
    subst h7
    refine ⟨_, _, _, _, h, .new (.nil _), fun _ => ⟨Nat.le_succ _, fun G N a w s' hs ha hrd hn => ?_⟩, fun hg => absurd rfl hg⟩
    have hi : G.ι s.nx = none := hn s.nx (Nat.le_refl _) (Nat.lt_succ_self _)
    have hvx := ev_vr hs x (otm o (by simp [ho, Op.operands]) ha)
    rw [hx] at hvx
    generalize hux : a.eval x = ux at hvx
    cases hvx
    refine ⟨.pointer (some ⟨w.heap.size, 0, none⟩), w.alloc (.mapIter none 0 #[] 0), G.with s.nx (some w.heap.size), .inl ?_, .ptr _ _ _ (Gh.with_self _ _ _), ?_, fun b hb => Gh.with_other _ (by omega) _, EvoA.alloc hs.hr _ _ hi⟩
    · have hno : (newObj (.mapIter none 0 #[] 0)).run P w = .ok w.heap.size (w.alloc (.mapIter none 0 #[] 0)) := rfl
      simp only [execOp, ho, hux, Instr.range, Sem.run_bind, run_underlying h6, Result.andThen_ok, Sem.run_pure, hno]
    · have := HR.alloc hs.hr (.mapIter none 0 #[] 0) s.nx hi (.iter none []) ⟨_, Gh.with_self _ _ _, .inl ⟨rfl, rfl, World.alloc_heap_new _ _⟩⟩
      simpa using this
  · exact h.elim
theorem ex_entry {x : Operand} (ho : o.op = .entry x) (h : exec T s g o K) : ExOk P s g o K := by
  simp only [exec, ho] at h
  split at h
  · rename_i b hx
    split at h
    · rename_i kv rest hb
      refine .of_pure (rd := _) h (fun hg G N a w s' hs ha hr => ?_) (.cons (.inl hb) (.nil _))
      have hvx := ev_vr hs x (otm o (by simp [ho, Op.operands]) ha)
      rw [hx] at hvx
      generalize hux : a.eval x = ux at hvx
      cases hvx with
      | ptr _ _ c hι =>
        obtain ⟨c', h1, h2⟩ : IterH G w b (some kv) rest := hs.hr.own b (.iter (some kv) rest) (hr b (some (.iter (some kv) rest)) (by simp))
        rw [hι] at h1
        obtain rfl : c = c' := Option.some.inj h1
        rcases h2 with ⟨_, h2, _⟩ | ⟨cm, arr, clk, fr, seen, idx, g2, g3, g4, g5, g6, g7, g8, g9⟩
        · cases h2
        · obtain ⟨j, e, q1, q2, q3, q4⟩ := g9 kv rfl
          have hseen : ∃ s0 : Array Nat, seen = s0.push e.born := ⟨seen.pop, by
            have : seen.size ≠ 0 := by intro h0; rw [Array.eq_empty_of_size_eq_zero h0] at q2; simp at q2
            rw [Array.back?_eq_getElem?] at q2
            apply Array.ext'
            rw [Array.toList_push, Array.toList_pop]
            have hl : seen.toList ≠ [] := by intro h0; apply this; simpa using congrArg List.length h0
            have hb : seen.toList.getLast? = some e.born := by rw [List.getLast?_eq_getElem?]; simpa using q2
            have hg : seen.toList.getLast hl = e.born := by rw [List.getLast?_eq_some_getLast hl] at hb; exact Option.some.inj hb
            rw [← hg]
            exact (List.dropLast_concat_getLast hl).symm⟩
          obtain ⟨s0, rfl⟩ := hseen
          have hrun := run_entry_at (P := P) w c cm clk s0 arr clk e g2 (rd_map.1 g3.1) (List.mem_of_getElem? q1) g4.1
          refine ⟨.tuple #[e.key, e.val], by simp only [execOp, ho, hux, Sem.run_bind, hrun, Result.andThen_ok, Sem.run_pure], .tup [kv.1, kv.2] [e.key, e.val] rfl fun j v' u' h1 h2 => ?_⟩
          match j, h1, h2 with
          | 0, h1, h2 => cases h1; cases h2; exact q3
          | 1, h1, h2 => cases h1; cases h2; exact q4
    · exact h.elim
  · exact h.elim
end Go.Proofs.YtfaglgoanmcifaaGreat
namespace Go.Proofs.YtfaglgoanmcifaaGreat
open Go.RowKit
variable {P : Program} {T : Tab} {s : St} {g : Option Bool} {o : Oper} {K : OK}
theorem HR.drew {G : Gh} {hp : Heap} {n : Nat} {w : World} (h : HR G hp n w) : HR G hp n w.drew := ⟨h.amb_lt, h.B_le, h.dom, h.own, h.inj, h.apart, h.lt, h.hdom, h.gl.to (fun _ h => h) (fun _ _ => rfl)⟩
theorem HR.kill {G : Gh} {hp : Heap} {n : Nat} {w : World} (h : HR G hp n w) (b : Nat) : HR G ((b, none) :: hp) n w := by
  have key : ∀ {b' blk}, hget ((b, none) :: hp) b' = some blk → hget hp b' = some blk := by
    intro b' blk hg
    rw [hget_cons] at hg
    split at hg
    · cases hg
    · exact hg
  exact ⟨h.amb_lt, h.B_le, h.dom, fun b' blk hg => h.own b' blk (key hg), fun b1 b2 k1 k2 c h1 h2 => h.inj b1 b2 k1 k2 c (key h1) (key h2), fun b' blk c hg => h.apart b' blk c (key hg), h.lt, fun b' blk hg => h.hdom b' blk (key hg), h.gl⟩
theorem HR.ghost {G : Gh} {hp : Heap} {n : Nat} {w : World} (h : HR G hp n w) (b : Nat) (hb : G.ι b = none) (fr ex : Bool) (ty : TypeId) (sz : Nat) : HR G ((b, some (.arr fr ex ty sz [])) :: hp) (max n (b + 1)) w := by
  refine ⟨h.amb_lt, h.B_le, fun b' hb' => h.dom b' (by omega), fun b' blk hg => ?_, fun b1 b2 k1 k2 c h1 h2 h3 h4 => ?_, fun b' blk c hg hc => ?_, h.lt, fun b' blk hg => ?_, h.gl⟩
  · rw [hget_cons] at hg
    split at hg
    · rename_i e; subst e; cases hg; exact ⟨by simp, .inl ⟨hb, rfl⟩⟩
    · exact h.own b' blk hg
  · rw [hget_cons] at h1 h2
    by_cases e1 : b = b1
    · subst e1; rw [hb] at h3; cases h3
    by_cases e2 : b = b2
    · subst e2; rw [hb] at h4; cases h4
    rw [if_neg e1] at h1; rw [if_neg e2] at h2
    exact h.inj b1 b2 k1 k2 c h1 h2 h3 h4
  · rw [hget_cons] at hg
    by_cases e : b = b'
    · subst e; rw [hb] at hc; cases hc
    rw [if_neg e] at hg
    exact h.apart b' blk c hg hc
  · rw [hget_cons] at hg
    split at hg
    · omega
    · have := h.hdom b' blk hg; omega
theorem HR.move {G : Gh} {hp : Heap} {n : Nat} {w : World} (h : HR G hp n w) {b c nx : Nat} {blk : Blk} (hb : hget hp b = some blk) (hc : G.ι b = some c) (hn : G.ι nx = none) {cur new : Array Value} {t : TypeId} {fr : Nat × Nat}
    (hg : w.heap[c]? = some (.cells cur t fr)) (hs : new.size = cur.size) (blk' : Blk) (hok : BlkOk (G.with nx (some c)) (w.setRow c new) nx blk') :
    HR (G.with nx (some c)) ((nx, some blk') :: (b, none) :: hp) (max n (nx + 1)) (w.setRow c new) ∧ EvoA G w (G.with nx (some c)) (w.setRow c new) := by
  have he0 : EvoA G w G (w.setRow c new) := EvoA.setRow hg hs (h.apart b blk c hb hc) hc
  have he : EvoA G w (G.with nx (some c)) (w.setRow c new) := fun base =>
    ⟨(he0 base).os, (he0 base).tape, (he0 base).output, (he0 base).size, (he0 base).B, (he0 base).amb, (he0 base).keep, (he0 base).csz, fun b' c' hb' hc' => by
      by_cases e : b' = nx
      · subst e; rw [hn] at hc'; cases hc'
      · rw [Gh.with_other _ e]; exact hc', (he0 base).keepu, (he0 base).ambn, fun b' c' hc' hlt => by
      by_cases e : b' = nx
      · subst e; rw [Gh.with_self] at hc'; cases hc'; exact ⟨b, hc⟩
      · rw [Gh.with_other _ e] at hc'; exact ⟨b', hc'⟩⟩
  refine ⟨⟨fun c hc => by have := h.amb_lt c hc; simpa using this, by show G.B ≤ (w.setRow c new).heap.size; simpa using h.B_le, fun b' hb' => ?_, fun b' k hk => ?_, fun b1 b2 k1 k2 c' h1 h2 h3 h4 => ?_, fun b' k c' hk hc' => ?_, fun b' c' hc' => ?_, fun b' k hk => ?_, h.gl.evo (he 0)⟩, he⟩
  · rw [Gh.with_other _ (by omega)]; exact h.dom b' (by omega)
  · rw [hget_cons] at hk
    split at hk
    · rename_i e; subst e; cases hk; exact hok
    · rename_i e
      rw [hget_cons] at hk
      split at hk
      · cases hk
      · rename_i e2
        refine (h.own b' k hk).keep he (fun c' hc' => setRow_other _ _ _ _ ?_) (fun hn => by rw [Gh.with_other _ (Ne.symm e)]; exact hn)
        rintro rfl
        exact e2 (h.inj b b' _ _ _ hb hk hc hc')
  · have live : ∀ {b' k}, hget ((nx, some blk') :: (b, none) :: hp) b' = some k → b' ≠ nx → b' ≠ b ∧ hget hp b' = some k := by
      intro b' k hk hne
      rw [hget_cons, if_neg (Ne.symm hne), hget_cons] at hk
      split at hk
      · cases hk
      · rename_i e; exact ⟨Ne.symm e, hk⟩
    by_cases e1 : b1 = nx <;> by_cases e2 : b2 = nx
    · omega
    · obtain ⟨q1, q2⟩ := live h2 e2
      subst e1
      rw [Gh.with_self] at h3; cases h3
      rw [Gh.with_other _ e2] at h4
      exact absurd (h.inj b b2 _ _ _ hb q2 hc h4) (Ne.symm q1)
    · obtain ⟨q1, q2⟩ := live h1 e1
      subst e2
      rw [Gh.with_self] at h4; cases h4
      rw [Gh.with_other _ e1] at h3
      exact absurd (h.inj b b1 _ _ _ hb q2 hc h3) (Ne.symm q1)
    · obtain ⟨_, q1⟩ := live h1 e1
      obtain ⟨_, q2⟩ := live h2 e2
      rw [Gh.with_other _ e1] at h3
      rw [Gh.with_other _ e2] at h4
      exact h.inj b1 b2 _ _ _ q1 q2 h3 h4
  · by_cases e : b' = nx
    · subst e; rw [Gh.with_self] at hc'; cases hc'; exact h.apart b blk c hb hc
    · rw [Gh.with_other _ e] at hc'
      rw [hget_cons, if_neg (Ne.symm e), hget_cons] at hk
      split at hk
      · cases hk
      · exact h.apart b' k c' hk hc'
  · by_cases e : b' = nx
    · subst e; rw [Gh.with_self] at hc'; cases hc'; simpa using h.lt b c hc
    · rw [Gh.with_other _ e] at hc'
      simpa using h.lt b' c' hc'
  · rw [hget_cons] at hk
    split at hk
    · omega
    · rw [hget_cons] at hk
      split at hk
      · cases hk
      · have := h.hdom b' k hk; omega
theorem Holds.fr' {G : Gh} {w : World} {b : Nat} {fr ex : Bool} {ty : TypeId} {vs : List V} (h : Holds G w b true ex ty vs) : Holds G w b fr ex ty vs := by
  obtain ⟨c, cs, h1, h2, h3, h4, h5, h6, h7⟩ := h
  exact ⟨c, cs, h1, h2, h3, h4, fun _ => h5 rfl, h6, h7⟩
theorem grown_ok (hT : TabOk P T) {e : TypeId} (ht : (T e).k ≠ .other) (hpos : 0 < (T e).size) {G : Gh} {hp : Heap} {n0 : Nat} {w : World} (h : HR G hp n0 w) {nx : Nat} (hi : G.ι nx = none) {z : Value} (hz : z.cells.toList = (T e).zero) (hz1 : ∀ u ∈ (T e).zero, u.oneCell' = true)
    {olds news : List Value} {rows ys : List (List V)} {n cap : Nat} (fr : Bool) (hro : ∀ x ∈ rows, x.length = (T e).size) (hry : ∀ x ∈ ys, x.length = (T e).size) (hn : rows.length = n)
    (hvo : vrs G w rows.flatten olds) (ho1 : ∀ u ∈ olds, u.oneCell' = true) (hvn : vrs G w ys.flatten news) (hn1 : ∀ u ∈ news, u.oneCell' = true) (hle : n + ys.length ≤ maxLen) :
    ∃ w', w' = w.drew.alloc (.cells (olds.toArray ++ news.toArray ++ Builtin.zeroCells z.cells (grownCap w (n + ys.length) cap e - (n + ys.length))) e) ∧
      vr (G.with nx (some w.heap.size)) w' (.osl nx (T e).size 0 (n + ys.length)) (.slice (some ⟨w.heap.size, 0, none⟩) (n + ys.length) (grownCap w (n + ys.length) cap e)) ∧
      HR (G.with nx (some w.heap.size)) ((nx, some (.arr fr false e (T e).size (rows ++ ys))) :: hp) (max n0 (nx + 1)) w' ∧ EvoA G w (G.with nx (some w.heap.size)) w' := by
  refine ⟨_, rfl, ?_, ?_, ?_⟩
  · have hge := grownCap_ge w (n + ys.length) cap e
    have hle2 := grownCap_le_maxLen w (n + ys.length) cap e hle
    have hzs : z.cells.size = (T e).size := by rw [← hT.zero_len ht, ← hz, Array.length_toList]
    have hol : olds.length = n * (T e).size := by rw [← hvo.1, flatten_cells hro, hn]
    have hnl : news.length = ys.length * (T e).size := by rw [← hvn.1, flatten_cells hry]
    have := VR.osl (ι := (G.with nx (some w.heap.size)).ι) (csz := csz (w.drew.alloc (.cells (olds.toArray ++ news.toArray ++ Builtin.zeroCells z.cells (grownCap w (n + ys.length) cap e - (n + ys.length))) e)))
      (imm := imm (G.with nx (some w.heap.size)) (w.drew.alloc (.cells (olds.toArray ++ news.toArray ++ Builtin.zeroCells z.cells (grownCap w (n + ys.length) cap e - (n + ys.length))) e)))
      nx (T e).size 0 (n + ys.length) w.heap.size (grownCap w (n + ys.length) cap e) (grownCap w (n + ys.length) cap e * (T e).size) (Gh.with_self _ _ _) (by
        have := csz_new w.drew (olds.toArray ++ news.toArray ++ Builtin.zeroCells z.cells (grownCap w (n + ys.length) cap e - (n + ys.length))) e
        refine this.trans ?_
        congr 1
        rw [Array.size_append, Array.size_append, size_zeroCells, hzs, List.size_toArray, List.size_toArray, hol, hnl, ← Nat.add_mul, ← Nat.add_mul]
        congr 1
        omega) (by rw [Nat.zero_add]) hge hle2
    rwa [Nat.zero_mul] at this
  · refine HR.alloc h.drew _ nx hi (.arr fr false e (T e).size (rows ++ ys)) ⟨fun x hx => ?_, .inr (Holds.fr' (holds_new' h.drew nx hi false e _ _ ?_ (fun h => by cases h) ?_ ?_))⟩
    · rcases List.mem_append.1 hx with hx | hx
      · exact hro x hx
      · exact hry x hx
    · have h1 := hvo.1
      have h2 := hvn.1
      simp only [List.flatten_append, List.length_append, Array.size_append, List.size_toArray]
      omega
    · intro j v hj
      have happ : vrs G w (rows ++ ys).flatten (olds ++ news) := by rw [List.flatten_append]; exact hvo.append hvn
      obtain ⟨u, hu, h1, hr⟩ := happ.get (fun u hu => by rcases List.mem_append.1 hu with hu | hu; exact ho1 u hu; exact hn1 u hu) j v hj
      refine ⟨u, ?_, h1, hr⟩
      have hlt := (List.getElem?_eq_some_iff.1 hu).1
      rw [Array.getElem?_append_left (by simpa using hlt)]
      simpa using hu
    · intro j u hj
      have hm := Array.mem_of_getElem? hj
      simp only [Array.mem_append, List.mem_toArray] at hm
      rcases hm with (hm | hm) | hm
      · exact ho1 u hm
      · exact hn1 u hm
      · refine hz1 u (hz ▸ ?_)
        simp only [Builtin.zeroCells, Array.mem_map] at hm
        obtain ⟨i, hi, rfl⟩ := hm
        have hpz : 0 < z.cells.size := by rw [← Array.length_toList, hz, hT.zero_len ht]; exact hpos
        rw [getElem!_pos z.cells _ (Nat.mod_lt _ hpz)]
        exact Array.getElem_mem_toList _
  · exact EvoA.drew.trans (EvoA.alloc h.drew _ nx hi)
theorem notInt (hT : TabOk P T) {t e : Nat} (hk : (T t).k = .slice e) : ∃ d, P.underlying t = some d ∧ ∀ k, d ≠ .int k := by
  obtain ⟨_, _, d, _, _, _, _, _, h6, h7⟩ := hT.at (t := t) (by rw [hk]; simp)
  rw [hk, DescOk] at h7
  subst h7
  exact ⟨_, h6, by simp⟩
theorem append_ghost (hT : TabOk P T) {t t' ty e e' : TypeId} (hk : (T t).k = .slice e) (hk' : (T t').k = .slice e') (ht : (T e).k ≠ .other) {w : World} {A : Option Addr} {x : Value} {news : List Value}
    (hx : Xs P (T e).size w x 0 news) : (Builtin.append_ #[t, t'] ty #[.slice A 0 0, x]).run P w = .ok (.slice A 0 0) w := by
  obtain ⟨d', h6', hd'⟩ := notInt hT hk'
  obtain ⟨_, _, d, _, _, _, _, _, h6, h7⟩ := hT.at (t := t) (by rw [hk]; simp)
  rw [hk, DescOk] at h7
  subst h7
  have hn : news = [] := List.eq_nil_of_length_eq_zero (by have := hx.1; simpa using this)
  subst hn
  exact append_room (P := P) h6 h6' hd' (hT.sizeOf ht w) hx (Nat.le_refl _) (fun ad _ => by simp [storeCells]) (fun _ => rfl)
theorem append_new (hT : TabOk P T) {t t' ty e e' : TypeId} (hk : (T t).k = .slice e) (hk' : (T t').k = .slice e') (ht : (T e).k ≠ .other) (hpos : 0 < (T e).size) {w : World} {A : Option Addr} {n cap m : Nat} {x : Value} {olds news : List Value}
    (hx : Xs P (T e).size w x m news) (ho : (Builtin.firstCells (T e).size n (.slice A n cap)).run P w.drew = .ok olds.toArray w.drew) (hg : cap < n + m) (hby : (n + m) * (T e).bytes ≤ 140737488355328 ∧ n + m ≤ 140737488355328) :
    ∃ z : Value, z.cells.toList = (T e).zero ∧ (Builtin.append_ #[t, t'] ty #[.slice A n cap, x]).run P w = .ok (.slice (some ⟨w.heap.size, 0, none⟩) (n + m) (grownCap w (n + m) cap e))
        (w.drew.alloc (.cells (olds.toArray ++ news.toArray ++ Builtin.zeroCells z.cells (grownCap w (n + m) cap e - (n + m))) e)) := by
  obtain ⟨d', h6', hd'⟩ := notInt hT hk'
  obtain ⟨_, _, d, _, _, _, _, _, h6, h7⟩ := hT.at (t := t) (by rw [hk]; simp)
  rw [hk, DescOk] at h7
  subst h7
  obtain ⟨i, z, _, q1, q2, q3, q4, q5, _, _⟩ := hT.at ht
  exact ⟨z, q5, append_grows h6 h6' hd' q1 q4 (by rw [q2]; exact hx) (by rw [q2]; exact ho) hg (by omega) (by rw [q3]; exact hby.1)⟩
theorem append_zeros {w : World} {t t' ty e : TypeId} (ht : P.underlying t = some (.slice e)) {k : IntKind} (ht' : P.underlying t' = some (.int k)) {i : TypeInfo} {z : Value} (hi : P.info? e = some i) (hz : i.zero = some z)
    {A : Option Addr} {m : Int} (h0 : 0 < m) (hpos : 0 < i.size) (hm : m ≤ 140737488355328) (hby : m.toNat * i.bytes ≤ 140737488355328) :
    (Builtin.append_ #[t, t'] ty #[.slice A 0 0, .int .i64 m]).run P w = .ok (.slice (some ⟨w.heap.size, 0, none⟩) m.toNat (grownCap w m.toNat 0 e))
        (w.drew.alloc (.cells ((Builtin.zeroCells z.cells m.toNat).toList.toArray ++ Builtin.zeroCells z.cells (grownCap w m.toNat 0 e - m.toNat)) e)) := by
  have hw : IntKind.i64.wrap m = m := by
    rw [show IntKind.i64.wrap m = (m + 9223372036854775808) % 18446744073709551616 - 9223372036854775808 by simp [IntKind.wrap, IntKind.bits, IntKind.signed]; split <;> omega]
    omega
  have hn : ¬ (m.toNat = 0) := by omega
  have hneg : ¬ (m < 0) := by omega
  have hbi : m * (i.bytes : Int) = ((m.toNat * i.bytes : Nat) : Int) := by rw [Int.natCast_mul, Int.toNat_of_nonneg (by omega)]
  have h48 : ¬ (281474976710656 < m * (i.bytes : Int)) := by rw [hbi]; omega
  have hfit := growslice_fits (need := m.toNat) (old := 0) (bytes := i.bytes) (by omega) hby
  have h48' : ¬ (281474976710656 < Builtin.nextslicecap m.toNat 0 * i.bytes) := by omega
  have h63 : ¬ (9223372036854775807 < max m 0) := by omega
  have h63' : ¬ (9223372036854775807 < (m.toNat : Int)) := by omega
  have hms : ¬ (m.toNat = 0 ∨ i.size = 0) := by omega
  have hm0 : ¬ (m ≤ 0) := by omega
  have hcell : ∀ n W, (Builtin.firstCells i.size 0 (.slice A n 0)).run P W = .ok #[] W := by intro n W; cases A <;> simp [Builtin.firstCells, loadCells, loadCellsFrom]
  simp [Builtin.append_, run_underlying ht, run_underlying ht', sizeOf, typeInfo, zeroValue, hi, hz, hw, asInt, asIntOf, hn, hneg, h48, h63, h63', h48', hms, hm0, Question.forced, newRow, grownCap, hcell]
  intro h; rcases Nat.mul_eq_zero.1 h with h | h <;> omega
theorem wrapApp {m : Int} (h0 : 0 ≤ m) (h1 : m ≤ 140737488355328) : IntKind.i64.wrap m = m := by
  rw [show IntKind.i64.wrap m = (m + 9223372036854775808) % 18446744073709551616 - 9223372036854775808 by simp [IntKind.wrap, IntKind.bits, IntKind.signed]; split <;> omega]
  omega
theorem append_zroom {w w' : World} {t t' ty e : TypeId} (ht : P.underlying t = some (.slice e)) {k : IntKind} (ht' : P.underlying t' = some (.int k)) {i : TypeInfo} {z : Value} (hi : P.info? e = some i) (hz : i.zero = some z)
    {A : Option Addr} {n cap : Nat} {m : Int} (h0 : 0 ≤ m) (hpos : 0 < i.size) (hroom : n + m.toNat ≤ cap) (hm : m ≤ 140737488355328) (hby : m.toNat * i.bytes ≤ 140737488355328)
    (h1 : ∀ ad, A = some ad → (storeCells (ad.add (n * i.size)) (Builtin.zeroCells z.cells m.toNat).toList).run P w = .ok () w') (h2 : A = none → w' = w) :
    (Builtin.append_ #[t, t'] ty #[.slice A n cap, .int .i64 m]).run P w = .ok (.slice A (n + m.toNat) cap) w' := by
  have hw := wrapApp h0 hm
  have hneg : ¬ (m < 0) := by omega
  have hbi : m * (i.bytes : Int) = ((m.toNat * i.bytes : Nat) : Int) := by rw [Int.natCast_mul, Int.toNat_of_nonneg (by omega)]
  have h48 : ¬ (281474976710656 < m * (i.bytes : Int)) := by rw [hbi]; omega
  have hz0 : m.toNat * i.size = 0 → (Builtin.zeroCells z.cells m.toNat) = #[] := by
    intro h
    have : m.toNat = 0 := by rcases Nat.mul_eq_zero.1 h with h | h <;> omega
    rw [this]; simp [Builtin.zeroCells]
  cases A with
  | none =>
    obtain rfl := h2 rfl
    by_cases hn : m.toNat * i.size = 0
    · simp only [Builtin.append_, List.getElem?_toArray, List.getElem?_cons_zero, List.getElem?_cons_succ, Sem.run_bind, run_underlying ht, run_underlying ht', sizeOf, typeInfo, hi, Result.andThen_ok, Sem.run_pure, if_true, asInt, asIntOf, hw, if_neg hneg, if_neg h48, hn, hroom]
      simp [Builtin.append_, run_underlying ht, run_underlying ht', sizeOf, typeInfo, zeroValue, hi, hz, hw, asInt, asIntOf, hneg, h48, hn, hroom]
    · simp [Builtin.append_, run_underlying ht, run_underlying ht', sizeOf, typeInfo, zeroValue, hi, hz, hw, asInt, asIntOf, hneg, h48, hn, hroom]
  | some ad =>
    have h1 := h1 ad rfl
    by_cases hn : m.toNat * i.size = 0
    · rw [hz0 hn] at h1
      simp [Builtin.append_, run_underlying ht, run_underlying ht', sizeOf, typeInfo, zeroValue, hi, hz, hw, asInt, asIntOf, hneg, h48, hn, hroom, h1]
    · simp [Builtin.append_, run_underlying ht, run_underlying ht', sizeOf, typeInfo, zeroValue, hi, hz, hw, asInt, asIntOf, hneg, h48, hn, hroom, h1]
theorem append_zgrow {w : World} {t t' ty e : TypeId} (ht : P.underlying t = some (.slice e)) {k : IntKind} (ht' : P.underlying t' = some (.int k)) {i : TypeInfo} {z : Value} (hi : P.info? e = some i) (hz : i.zero = some z)
    {A : Option Addr} {n cap : Nat} {m : Int} {olds : List Value} (ho : (Builtin.firstCells i.size n (.slice A n cap)).run P w.drew = .ok olds.toArray w.drew) (h0 : 0 ≤ m) (hpos : 0 < i.size) (hg : cap < n + m.toNat) (hm : n + m.toNat ≤ 140737488355328) (hby : (n + m.toNat) * i.bytes ≤ 140737488355328) :
    (Builtin.append_ #[t, t'] ty #[.slice A n cap, .int .i64 m]).run P w = .ok (.slice (some ⟨w.heap.size, 0, none⟩) (n + m.toNat) (grownCap w (n + m.toNat) cap e))
        (w.drew.alloc (.cells (olds.toArray ++ (Builtin.zeroCells z.cells m.toNat).toList.toArray ++ Builtin.zeroCells z.cells (grownCap w (n + m.toNat) cap e - (n + m.toNat))) e)) := by
  have hw : IntKind.i64.wrap m = m := wrapApp h0 (by omega)
  have hn : ¬ (n + m.toNat ≤ cap) := by omega
  have hneg : ¬ (m < 0) := by omega
  have hbi : m * (i.bytes : Int) = ((m.toNat * i.bytes : Nat) : Int) := by rw [Int.natCast_mul, Int.toNat_of_nonneg (by omega)]
  have hle : m.toNat * i.bytes ≤ (n + m.toNat) * i.bytes := Nat.mul_le_mul_right _ (by omega)
  have h48 : ¬ (281474976710656 < m * (i.bytes : Int)) := by rw [hbi]; omega
  have hfit := growslice_fits (need := n + m.toNat) (old := cap) (bytes := i.bytes) hg hby
  have h48' : ¬ (281474976710656 < Builtin.nextslicecap (n + m.toNat) cap * i.bytes) := by omega
  have h63' : ¬ (9223372036854775807 < ((n + m.toNat : Nat) : Int)) := by omega
  have h63 : ¬ (9223372036854775807 < (n : Int) + (m.toNat : Int)) := by omega
  have h63'' : ¬ (9223372036854775807 < (n : Int) + max m 0) := by omega
  by_cases hms : m.toNat * i.size = 0
  · have : m.toNat = 0 := by rcases Nat.mul_eq_zero.1 hms with h | h <;> omega
    have hm0 : m ≤ 0 := by omega
    simp [Builtin.append_, run_underlying ht, run_underlying ht', sizeOf, typeInfo, zeroValue, hi, hz, hw, asInt, asIntOf, hn, hneg, h48, h63, h63', h63'', h48', hms, Question.forced, newRow, grownCap, ho]
    simp [this, Builtin.zeroCells, show Array.range 0 = #[] from rfl]
  · simp [Builtin.append_, run_underlying ht, run_underlying ht', sizeOf, typeInfo, zeroValue, hi, hz, hw, asInt, asIntOf, hn, hneg, h48, h63, h63', h63'', h48', hms, Question.forced, newRow, grownCap, ho]
structure ApOk (P : Program) (T : Tab) (t t' ty0 e : TypeId) (uy : Value) (w : World) (m : Nat) (news : List Value) : Prop where
  ghost : m = 0 → ∀ A, (Builtin.append_ #[t, t'] ty0 #[.slice A 0 0, uy]).run P w = .ok (.slice A 0 0) w
  room : ∀ (A : Option Addr) (n cap : Nat) (w' : World), n + m ≤ cap → (∀ ad, A = some ad → (storeCells (ad.add (n * (T e).size)) news).run P w = .ok () w') → (A = none → w' = w) → (Builtin.append_ #[t, t'] ty0 #[.slice A n cap, uy]).run P w = .ok (.slice A (n + m) cap) w'
  grow : ∀ (A : Option Addr) (n cap : Nat) (olds : List Value), (Builtin.firstCells (T e).size n (.slice A n cap)).run P w.drew = .ok olds.toArray w.drew → cap < n + m → ((n + m) * (T e).bytes ≤ 140737488355328 ∧ n + m ≤ 140737488355328) →
    ∃ z : Value, z.cells.toList = (T e).zero ∧ (Builtin.append_ #[t, t'] ty0 #[.slice A n cap, uy]).run P w = .ok (.slice (some ⟨w.heap.size, 0, none⟩) (n + m) (grownCap w (n + m) cap e))
        (w.drew.alloc (.cells (olds.toArray ++ news.toArray ++ Builtin.zeroCells z.cells (grownCap w (n + m) cap e - (n + m))) e))
theorem append_osl (hT : TabOk P T) {s s' : St} {o : Oper} {x y : Operand} {t t' ty : TypeId} {b n : Nat} {fr ex : Bool} {rows ys : List (List V)} {news : List Value} {G : Gh} {N : Nat} {a : Act} {w : World} (ht : (T ty).k ≠ .other) (hpos : 0 < (T ty).size) (hz1 : ∀ u ∈ (T ty).zero, u.oneCell' = true)
    (run : ∀ (a : Act) (w : World), (execOp a.eval o).run P w = ((Builtin.append_ #[t, t'] o.type #[a.eval x, a.eval y]).run P w).andThen fun v w => .ok (.value v) w)
    (ap : ApOk P T t t' o.type ty (a.eval y) w ys.length news) (hvn : vrs G w ys.flatten news) (h1n : ∀ u ∈ news, u.oneCell' = true) (hry : ∀ x ∈ ys, x.length = (T ty).size) (hnr : n ≤ rows.length) (hby : (n + ys.length) * (T ty).bytes ≤ 140737488355328 ∧ n + ys.length ≤ 140737488355328)
    (hs : Sim G N s' a w) (hi : G.ι s.nx = none) (hvx : vr G w (.osl b (T ty).size 0 n) (a.eval x)) (hb' : hget s'.h b = some (.arr fr ex ty (T ty).size rows)) :
    ∃ u w' G', Yields P a o w u w' ∧ vr G' w' (.osl s.nx (T ty).size 0 (n + ys.length)) u ∧ HR G' ([(s.nx, some (.arr fr false ty (T ty).size (rows.take n ++ ys))), (b, none)] ++ s'.h) (max s'.nx (s.nx + 1)) w' ∧ (∀ b, (b < s.nx ∨ s.nx + 1 ≤ b) → G'.ι b = G.ι b) ∧ EvoA G w G' w' := by
  obtain ⟨hro, hown⟩ := hs.hr.own b (.arr fr ex ty (T ty).size rows) hb'
  have hro' : ∀ x ∈ rows.take n, x.length = (T ty).size := fun x hx => hro x (List.mem_of_mem_take hx)
  generalize hux : a.eval x = ux at hvx
  cases hvx with
  | oslz _ _ _ A =>
    by_cases h0 : ys.length = 0
    · have hnil : ys = [] := List.eq_nil_of_length_eq_zero h0
      subst hnil
      have hrun := ap.ghost rfl A
      refine ⟨.slice A 0 0, w, G, .inl (by rw [run, hux, hrun]; rfl), .oslz _ _ _ _, ?_, fun _ _ => rfl, EvoA.refl G w⟩
      simpa using (hs.hr.kill b).ghost s.nx hi fr false ty (T ty).size
    · obtain ⟨z, hz, hrun⟩ := ap.grow A 0 0 [] (by cases A <;> simp [Builtin.firstCells, loadCells, loadCellsFrom]) (by omega) hby
      obtain ⟨w', hw', h1, h2, h3⟩ := grown_ok hT ht hpos (hs.hr.kill b) hi hz hz1 (olds := []) (rows := []) (n := 0) (cap := 0) fr (by simp) hry rfl ⟨by simp, by simp⟩ (by simp) hvn h1n (by unfold maxLen; omega)
      subst hw'
      exact ⟨_, _, _, .inl (by rw [run, hux, hrun]; rfl), h1, by simpa using h2, fun b hb => Gh.with_other _ (by omega) _, h3⟩
  | osl _ _ _ _ c2 cap m hcb hz he hncap hm =>
    rcases hown with ⟨h1, _⟩ | hown
    · rw [h1] at hcb; cases hcb
    obtain ⟨c3, cs, e1, hh, hlen, hex, hfr, h6, h7⟩ := id hown
    rw [hcb] at e1; cases e1
    have hcsz : cs.size = cap * (T ty).size := by
      have : csz w c2 = some cs.size := by unfold csz; rw [hh]
      rw [this] at hz; cases hz
      rw [← he, Nat.zero_add]
    have hcl : cs.toList.length = cs.size := Array.length_toList
    have hfl := flatten_cells hro
    have hmul : n * (T ty).size ≤ rows.length * (T ty).size := Nat.mul_le_mul_right _ hnr
    have hmul2 : n * (T ty).size ≤ cap * (T ty).size := Nat.mul_le_mul_right _ hncap
    have hnl : news.length = ys.length * (T ty).size := by rw [← hvn.1, flatten_cells hry]
    have htk : (rows.take n).flatten = rows.flatten.take (n * (T ty).size) := by
      have e : rows.flatten = (rows.take n).flatten ++ (rows.drop n).flatten := by rw [← List.flatten_append, List.take_append_drop]
      have l : (rows.take n).flatten.length = n * (T ty).size := by rw [flatten_cells hro', List.length_take, Nat.min_eq_left hnr]
      rw [e, ← l, List.take_left]
    have hvo : vrs G w (rows.take n).flatten (cs.toList.take (n * (T ty).size)) := by
      rw [htk]
      refine ⟨by rw [List.length_take, List.length_take]; omega, fun j v u h1 h2 => ?_⟩
      have hj : j < n * (T ty).size := by
        have := (List.getElem?_eq_some_iff.1 h1).1
        rw [List.length_take] at this; omega
      rw [List.getElem?_take_of_lt hj] at h1 h2
      obtain ⟨u', hu', _, hr'⟩ := h6 j v h1
      have : cs[j]? = some u := by simpa using h2
      rw [this] at hu'; cases hu'
      exact hr'
    have ho1 : ∀ u ∈ cs.toList.take (n * (T ty).size), u.oneCell' = true := by
      intro u hu
      obtain ⟨j, hj, rfl⟩ := List.mem_iff_getElem.1 hu
      have hj2 : j < n * (T ty).size := by simp at hj; omega
      have hj3 : j < rows.flatten.length := by omega
      obtain ⟨u', hu', h1', _⟩ := h6 j _ (List.getElem?_eq_getElem hj3)
      have : (cs.toList.take (n * (T ty).size))[j]? = cs[j]? := by rw [List.getElem?_take_of_lt hj2]; simp
      rw [List.getElem?_eq_getElem hj, hu'] at this
      cases this
      exact h1'
    rw [Nat.zero_mul] at hux
    by_cases hroom : n + ys.length ≤ cap
    · have hmul3 : (n + ys.length) * (T ty).size ≤ cap * (T ty).size := Nat.mul_le_mul_right _ hroom
      rw [Nat.add_mul] at hmul3
      have hst := run_storeCells_at P c2 (n * (T ty).size) ty news 0 cs w hh (by omega) h1n
      rw [Nat.add_zero] at hst
      have hrun := ap.room (some ⟨c2, 0, none⟩) n cap _ hroom (fun ad had => by cases had; rw [add_none rfl, Nat.zero_add]; exact hst) (fun h => by cases h)
      have hsz : (cs.toList.take (n * (T ty).size) ++ news ++ cs.toList.drop (n * (T ty).size + news.length)).toArray.size = cs.size := by
        simp only [List.size_toArray, List.length_append, List.length_take, List.length_drop, Array.length_toList]
        omega
      have hap := hs.hr.apart b _ c2 hb' hcb
      have he0 : EvoA G w (G.with s.nx (some c2)) (w.setRow c2 (cs.toList.take (n * (T ty).size) ++ news ++ cs.toList.drop (n * (T ty).size + news.length)).toArray) := fun base =>
        ⟨rfl, rfl, rfl, by simp, rfl, fun _ hc => hc, fun c' hc => setRow_other _ _ _ _ (fun e => hap (e ▸ hc)), fun _ _ hm => csz_setRow hh hsz hm, fun b' c' _ hc' => by
          by_cases e : b' = s.nx
          · subst e; rw [hi] at hc'; cases hc'
          · rw [Gh.with_other _ e]; exact hc', fun c' _ hn => setRow_other _ _ _ _ (fun e => hn b (e ▸ hcb)), fun _ h _ => .inl h, fun b' c' hc' hlt => by
          by_cases e : b' = s.nx
          · subst e; rw [Gh.with_self] at hc'; cases hc'; exact ⟨b, hcb⟩
          · rw [Gh.with_other _ e] at hc'; exact ⟨b', hc'⟩⟩
      have hq1 : (rows.take n ++ ys).flatten.length ≤ (cs.toList.take (n * (T ty).size) ++ news ++ cs.toList.drop (n * (T ty).size + news.length)).toArray.size := by
        have q1 := hvn.1
        have q2 := hvo.1
        rw [List.length_take] at q2
        rw [hsz, List.flatten_append, List.length_append]
        omega
      have hq2 : ∀ (j : Nat) (v : V), (rows.take n ++ ys).flatten[j]? = some v → ∃ u : Value, (cs.toList.take (n * (T ty).size) ++ news ++ cs.toList.drop (n * (T ty).size + news.length)).toArray[j]? = some u ∧ u.oneCell' = true ∧
          vr (G.with s.nx (some c2)) (w.setRow c2 (cs.toList.take (n * (T ty).size) ++ news ++ cs.toList.drop (n * (T ty).size + news.length)).toArray) v u := by
        intro j v hj
        rw [List.flatten_append] at hj
        have happ := hvo.append hvn
        obtain ⟨u, hu, h1', hr'⟩ := happ.get (fun u hu => by rcases List.mem_append.1 hu with hu | hu; exact ho1 u hu; exact h1n u hu) j v hj
        refine ⟨u, ?_, h1', he0.vr hr'⟩
        have hlt := (List.getElem?_eq_some_iff.1 hu).1
        rw [List.getElem?_toArray, List.getElem?_append_left hlt]
        exact hu
      have hq3 : ∀ x, x ∈ rows.take n ++ ys → x.length = (T ty).size := by
        intro x hx
        rcases List.mem_append.1 hx with hx | hx
        · exact hro' x hx
        · exact hry x hx
      obtain ⟨hR, hE⟩ := HR.move hs.hr hb' hcb hi hh hsz (.arr fr false ty (T ty).size (rows.take n ++ ys)) ⟨hq3, .inr ⟨c2, _, Gh.with_self _ _ _, setRow_heap _ _ _ _ _ _ hh, hq1, (fun h => by cases h), hfr, hq2, fun j u hu => by
          have hm := Array.mem_of_getElem? hu
          simp only [List.mem_toArray, List.mem_append] at hm
          rcases hm with (hm | hm) | hm
          · exact ho1 u hm
          · exact h1n u hm
          · obtain ⟨i, hi, rfl⟩ := List.mem_iff_getElem.1 (List.mem_of_mem_drop hm)
            exact h7 i _ (by simp)⟩⟩
      refine ⟨_, _, _, .inl (by rw [run, hux, hrun]; rfl), ?_, by simpa using hR, fun b hb => Gh.with_other _ (by omega) _, hE⟩
      have := VR.osl (ι := (G.with s.nx (some c2)).ι) (csz := csz (w.setRow c2 (cs.toList.take (n * (T ty).size) ++ news ++ cs.toList.drop (n * (T ty).size + news.length)).toArray))
        (imm := imm (G.with s.nx (some c2)) (w.setRow c2 (cs.toList.take (n * (T ty).size) ++ news ++ cs.toList.drop (n * (T ty).size + news.length)).toArray)) s.nx (T ty).size 0 (n + ys.length) c2 cap m (Gh.with_self _ _ _) (csz_setRow hh hsz hz) he hroom hm
      rwa [Nat.zero_mul] at this
    · obtain ⟨z, hz', hrun⟩ := ap.grow (some ⟨c2, 0, none⟩) n cap (cs.toList.take (n * (T ty).size)) (by
        refine run_firstCells_some _ _ _ _ _ _ _ (by simp; omega) fun j v hj => ?_
        have hj2 : j < n * (T ty).size := by
          have := (List.getElem?_eq_some_iff.1 hj).1
          simp at this; omega
        rw [List.getElem?_take_of_lt hj2] at hj
        rw [add_none rfl, Nat.zero_add]
        have : w.cell? ⟨c2, j, none⟩ = some v := by simpa [World.cell?, hh] using hj
        exact this) (by omega) hby
      obtain ⟨w', hw', h1, h2, h3⟩ := grown_ok hT ht hpos (hs.hr.kill b) hi hz' hz1 (olds := cs.toList.take (n * (T ty).size)) (rows := rows.take n) (n := n) (cap := cap) fr hro' hry (by simp; omega) hvo ho1 hvn h1n (by unfold maxLen; omega)
      subst hw'
      exact ⟨_, _, _, .inl (by rw [run, hux, hrun]; rfl), h1, by simpa using h2, fun b hb => Gh.with_other _ (by omega) _, h3⟩
theorem append_osl_new (hT : TabOk P T) {s s' : St} {o : Oper} {x y : Operand} {t t' ty : TypeId} {b n : Nat} {fr : Bool} {rows ys : List (List V)} {news : List Value} {G : Gh} {N : Nat} {a : Act} {w : World} (ht : (T ty).k ≠ .other) (hpos : 0 < (T ty).size) (hz1 : ∀ u ∈ (T ty).zero, u.oneCell' = true)
    (run : ∀ (a : Act) (w : World), (execOp a.eval o).run P w = ((Builtin.append_ #[t, t'] o.type #[a.eval x, a.eval y]).run P w).andThen fun v w => .ok (.value v) w)
    (ap : ApOk P T t t' o.type ty (a.eval y) w ys.length news) (hvn : vrs G w ys.flatten news) (h1n : ∀ u ∈ news, u.oneCell' = true) (hry : ∀ x ∈ ys, x.length = (T ty).size) (hnr : n ≤ rows.length) (hby : (n + ys.length) * (T ty).bytes ≤ 140737488355328 ∧ n + ys.length ≤ 140737488355328)
    (hs : Sim G N s' a w) (hi : G.ι s.nx = none) (hvx : vr G w (.osl b (T ty).size 0 n) (a.eval x)) (hb' : hget s'.h b = some (.arr fr true ty (T ty).size rows)) (hno : rows.length < n + ys.length) :
    ∃ u w' G', Yields P a o w u w' ∧ vr G' w' (.osl s.nx (T ty).size 0 (n + ys.length)) u ∧ HR G' ([(s.nx, some (.arr true false ty (T ty).size (rows.take n ++ ys)))] ++ s'.h) (max s'.nx (s.nx + 1)) w' ∧ (∀ b, (b < s.nx ∨ s.nx + 1 ≤ b) → G'.ι b = G.ι b) ∧ EvoA G w G' w' := by
  obtain ⟨hro, hown⟩ := hs.hr.own b (.arr fr true ty (T ty).size rows) hb'
  have hro' : ∀ x ∈ rows.take n, x.length = (T ty).size := fun x hx => hro x (List.mem_of_mem_take hx)
  generalize hux : a.eval x = ux at hvx
  cases hvx with
  | oslz _ _ _ A =>
    obtain ⟨z, hz, hrun⟩ := ap.grow A 0 0 [] (by cases A <;> simp [Builtin.firstCells, loadCells, loadCellsFrom]) (by omega) hby
    obtain ⟨w', hw', h1, h2, h3⟩ := grown_ok hT ht hpos hs.hr hi hz hz1 (olds := []) (rows := []) (n := 0) (cap := 0) true (by simp) hry rfl ⟨by simp, by simp⟩ (by simp) hvn h1n (by unfold maxLen; omega)
    subst hw'
    exact ⟨_, _, _, .inl (by rw [run, hux, hrun]; rfl), h1, by simpa using h2, fun b hb => Gh.with_other _ (by omega) _, h3⟩
  | osl _ _ _ _ c2 cap m hcb hz he hncap hm =>
    rcases hown with ⟨h1, _⟩ | hown
    · rw [h1] at hcb; cases hcb
    obtain ⟨c3, cs, e1, hh, hlen, hex, hfr, h6, h7⟩ := id hown
    rw [hcb] at e1; cases e1
    have hcsz : cs.size = cap * (T ty).size := by
      have : csz w c2 = some cs.size := by unfold csz; rw [hh]
      rw [this] at hz; cases hz
      rw [← he, Nat.zero_add]
    have hcl : cs.toList.length = cs.size := Array.length_toList
    have hfl := flatten_cells hro
    have hcap : cap = rows.length := by
      have := hex rfl
      rw [hfl, hcsz] at this
      exact (Nat.eq_of_mul_eq_mul_right hpos this).symm
    have hmul : n * (T ty).size ≤ rows.length * (T ty).size := Nat.mul_le_mul_right _ hnr
    have htk : (rows.take n).flatten = rows.flatten.take (n * (T ty).size) := by
      have e : rows.flatten = (rows.take n).flatten ++ (rows.drop n).flatten := by rw [← List.flatten_append, List.take_append_drop]
      have l : (rows.take n).flatten.length = n * (T ty).size := by rw [flatten_cells hro', List.length_take, Nat.min_eq_left hnr]
      rw [e, ← l, List.take_left]
    have hvo : vrs G w (rows.take n).flatten (cs.toList.take (n * (T ty).size)) := by
      rw [htk]
      refine ⟨by rw [List.length_take, List.length_take]; omega, fun j v u h1 h2 => ?_⟩
      have hj : j < n * (T ty).size := by
        have := (List.getElem?_eq_some_iff.1 h1).1
        rw [List.length_take] at this; omega
      rw [List.getElem?_take_of_lt hj] at h1 h2
      obtain ⟨u', hu', _, hr'⟩ := h6 j v h1
      have : cs[j]? = some u := by simpa using h2
      rw [this] at hu'; cases hu'
      exact hr'
    have ho1 : ∀ u ∈ cs.toList.take (n * (T ty).size), u.oneCell' = true := by
      intro u hu
      obtain ⟨j, hj, rfl⟩ := List.mem_iff_getElem.1 hu
      have hj2 : j < n * (T ty).size := by simp at hj; omega
      have hj3 : j < rows.flatten.length := by omega
      obtain ⟨u', hu', h1', _⟩ := h6 j _ (List.getElem?_eq_getElem hj3)
      have : (cs.toList.take (n * (T ty).size))[j]? = cs[j]? := by rw [List.getElem?_take_of_lt hj2]; simp
      rw [List.getElem?_eq_getElem hj, hu'] at this
      cases this
      exact h1'
    rw [Nat.zero_mul] at hux
    obtain ⟨z, hz', hrun⟩ := ap.grow (some ⟨c2, 0, none⟩) n cap (cs.toList.take (n * (T ty).size)) (by
      refine run_firstCells_some _ _ _ _ _ _ _ (by simp; omega) fun j v hj => ?_
      have hj2 : j < n * (T ty).size := by
        have := (List.getElem?_eq_some_iff.1 hj).1
        simp at this; omega
      rw [List.getElem?_take_of_lt hj2] at hj
      rw [add_none rfl, Nat.zero_add]
      have : w.cell? ⟨c2, j, none⟩ = some v := by simpa [World.cell?, hh] using hj
      exact this) (by omega) hby
    obtain ⟨w', hw', h1, h2, h3⟩ := grown_ok hT ht hpos hs.hr hi hz' hz1 (olds := cs.toList.take (n * (T ty).size)) (rows := rows.take n) (n := n) (cap := cap) true hro' hry (by simp; omega) hvo ho1 hvn h1n (by unfold maxLen; omega)
    subst hw'
    exact ⟨_, _, _, .inl (by rw [run, hux, hrun]; rfl), h1, by simpa using h2, fun b hb => Gh.with_other _ (by omega) _, h3⟩
theorem ex_append (hT : TabOk P T) {c : Call} (ho : o.op = .call c) (hc : c.callee = .builtin .append) (h : exec T s g o K) : ExOk P s g o K := by
  simp only [exec, ho, hc] at h
  split at h
  · rename_i x y t t' hargs htys
    have hargs : c.args = #[x, y] := by apply Array.ext'; simp [hargs]
    have htys : c.argTypes = #[t, t'] := by apply Array.ext'; simp [htys]
    have hxm : x ∈ o.op.operands := by rw [ho]; simp [Op.operands, Call.operands, hc, hargs]
    have hym : y ∈ o.op.operands := by rw [ho]; simp [Op.operands, Call.operands, hc, hargs]
    have run : ∀ (a : Act) (w : World), (execOp a.eval o).run P w = ((Builtin.append_ #[t, t'] o.type #[a.eval x, a.eval y]).run P w).andThen fun v w => .ok (.value v) w := by
      intro a w
      simp [execOp, ho, resolve, hc, hargs, htys, invoke, builtin]
    split at h
    · rename_i e e' hk hk' hx
      rw [forceN_eq] at h
      obtain ⟨sz, ys, rd, h', hrd0, hys⟩ := rowsK_out (P := P) (sz0 := 0) h; clear h; have h := h'; clear h'
      obtain ⟨h', ht⟩ := szK_out h; clear h; have h := h'; clear h'
      obtain ⟨cs0, h', _, hc1, hcv⟩ := constsK_out h; clear h; have h := h'; clear h'
      obtain ⟨⟨rfl, hpos⟩, hby, h⟩ := h
      refine ⟨_, _, _, _, h, RdOk.new (fun b ob hm => .inl (hrd0 b ob hm)), fun _ => ⟨by omega, fun G N a w s' hs ha hr hn => ?_⟩, fun hg => absurd rfl hg⟩
      have hi := hn s.nx (Nat.le_refl _) (by omega)
      have hz1 := (hcv G w).one hc1
      have hvx := ev_vr hs x (otm o hxm ha)
      rw [hx] at hvx
      obtain ⟨news, hX, hvn, hry⟩ := hys G s'.h s'.nx w _ hs.hr (fun b ob hb => hr b ob (by simp [hb])) (ev_vr hs y (otm o hym ha))
      generalize hux : a.eval x = ux at hvx
      cases hvx with
      | snil A =>
        by_cases h0 : ys.length = 0
        · have hnil : ys = [] := List.eq_nil_of_length_eq_zero h0
          subst hnil
          have hrun := append_ghost hT (ty := o.type) hk hk' ht (A := A) hX
          exact ⟨.slice A 0 0, w, G, .inl (by rw [run, hux, hrun]; rfl), .oslz _ _ _ _, hs.hr.ghost s.nx hi true false e _, fun _ _ => rfl, EvoA.refl G w⟩
        · obtain ⟨z, hz, hrun⟩ := append_new hT (ty := o.type) hk hk' ht hpos (A := A) (n := 0) (cap := 0) (olds := []) hX (by cases A <;> simp [Builtin.firstCells, loadCells, loadCellsFrom]) (by omega) (by rw [Nat.zero_add]; exact hby)
          obtain ⟨w', hw', h1, h2, h3⟩ := grown_ok hT ht hpos hs.hr hi hz hz1 (olds := []) (rows := []) (n := 0) (cap := 0) true (by simp) hry rfl ⟨by simp, by simp⟩ (by simp) hvn hX.2.1 (by unfold maxLen; omega)
          subst hw'
          refine ⟨_, _, _, .inl (by rw [run, hux, hrun]; rfl), ?_, by simpa using h2, fun b hb => Gh.with_other _ (by omega) _, h3⟩
          rw [Nat.zero_add] at h1 ⊢
          exact h1
    · rename_i e k hk hk' hx
      split at h
      · rename_i m hy
        rw [forceN_eq] at h
        obtain ⟨h', ht⟩ := szK_out h; clear h; have h := h'; clear h'
        obtain ⟨cs, h', hln, h1, hv⟩ := constsK_out h; clear h; have h := h'; clear h'
        split at h
        · rename_i hlen
          have hlen := lenIs_eq hlen
          obtain ⟨⟨hpos, h0, hby, h47⟩, h⟩ := h
          refine ⟨_, _, _, _, h, RdOk.new (.nil _), fun _ => ⟨by omega, fun G N a w s' hs ha hr hn => ?_⟩, fun hg => absurd rfl hg⟩
          have hi := hn s.nx (Nat.le_refl _) (by omega)
          have hvx := ev_vr hs x (otm o hxm ha)
          rw [hx] at hvx
          have hvy := ev_vr hs y (otm o hym ha)
          rw [hy] at hvy
          have hvy := VR.int_iff.1 hvy
          obtain ⟨_, _, d, _, _, _, _, _, h6, h7⟩ := hT.at (t := t) (by rw [hk]; simp)
          rw [hk, DescOk] at h7
          subst h7
          obtain ⟨_, _, d', _, _, _, _, _, h6', h7'⟩ := hT.at (t := t') (by rw [hk']; simp)
          rw [hk', DescOk] at h7'
          subst h7'
          obtain ⟨i, z, _, q1, q2, q3, q4, q5, _, _⟩ := hT.at ht
          have hz1 := (hv G w).one h1
          generalize hux : a.eval x = ux at hvx
          cases hvx with
          | snil A =>
            by_cases hm0 : m.toNat = 0
            · have : m = 0 := by omega
              subst this
              have hrun : (Builtin.append_ #[t, t'] o.type #[.slice A 0 0, .int .i64 0]).run P w = .ok (.slice A 0 0) w := by
                cases A <;> simp [Builtin.append_, run_underlying h6, run_underlying h6', sizeOf, typeInfo, zeroValue, q1, q4, asInt, asIntOf, show IntKind.i64.wrap 0 = 0 by rfl, storeCells]
              exact ⟨.slice A 0 0, w, G, .inl (by rw [run, hux, hvy, hrun]; rfl), .oslz _ _ _ _, hs.hr.ghost s.nx hi true false e _, fun _ _ => rfl, EvoA.refl G w⟩
            · have hrun := append_zeros (P := P) (w := w) (ty := o.type) h6 h6' q1 q4 (A := A) (m := m) (by omega) (by omega) (by omega) (by rw [q3]; exact hby)
              have hzv : vrs G w cs z.cells.toList := by rw [q5]; exact hv G w
              have hmade := made_flatten cs z.cells G w hzv (by omega) m.toNat
              have hzs : z.cells.size = cs.length := by have := hzv.1; simpa using this.symm
              have hzc : Builtin.zeroCells z.cells m.toNat = (Array.range (m.toNat * cs.length)).map (z.cells[· % z.cells.size]!) := by rw [← hzs]; rfl
              rw [← hzc] at hmade
              have hrow : ∀ x, x ∈ List.replicate m.toNat cs → x.length = (T e).size := fun x hx => by rw [List.eq_of_mem_replicate hx, hlen]
              obtain ⟨w', hw', g1, g2, g3⟩ := grown_ok hT ht hpos hs.hr hi q5 hz1 (olds := []) (rows := []) (n := 0) (cap := 0) (ys := List.replicate m.toNat cs) true (by simp) hrow rfl ⟨by simp, by simp⟩ (by simp) hmade (hmade.one (fun v hv => by
                obtain ⟨x, hx, hv⟩ := List.mem_flatten.1 hv
                rw [List.eq_of_mem_replicate hx] at hv
                exact h1 v hv)) (by simp; unfold maxLen; omega)
              subst hw'
              simp only [List.length_replicate, Nat.zero_add] at g1 g2 g3
              refine ⟨_, _, _, .inl (by rw [run, hux, hvy, hrun]; rfl), ?_, by simpa using g2, fun b hb => Gh.with_other _ (by omega) _, ?_⟩
              · simpa using g1
              · simpa using g3
        · exact h.elim
      · exact h.elim
    · rename_i e k b sz n hk hk' hx
      split at h
      · rename_i m fr ex ty sz' rows hy hb
        rw [forceN_eq] at h
        obtain ⟨h', ht⟩ := szK_out h; clear h; have h := h'; clear h'
        obtain ⟨cs, h', hln, h1, hv⟩ := constsK_out h; clear h; have h := h'; clear h'
        split at h
        · rename_i hlen
          have hlen := lenIs_eq hlen
          obtain ⟨⟨rfl, rfl, rfl, hpos, h0⟩, hnr, hby, keep, h⟩ := h
          have facts : ∀ {G : Gh} {N : Nat} {a : Act} {w : World} {s' : St}, Sim G N s' a w → (∀ i ∈ otmps o.op, s'.get i = s.get i) → ∃ news, ApOk P T t t' o.type ty (a.eval y) w (List.replicate m.toNat cs).length news ∧ vrs G w (List.replicate m.toNat cs).flatten news ∧ (∀ u ∈ news, u.oneCell' = true) ∧
              ∀ x ∈ List.replicate m.toNat cs, x.length = (T ty).size := by
            intro G N a w s' hs ha
            have hvy := ev_vr hs y (otm o hym ha)
            rw [hy] at hvy
            have hvy := VR.int_iff.1 hvy
            obtain ⟨_, _, d, _, _, _, _, _, h6, h7⟩ := hT.at (t := t) (by rw [hk]; simp)
            rw [hk, DescOk] at h7
            subst h7
            obtain ⟨_, _, d', _, _, _, _, _, h6', h7'⟩ := hT.at (t := t') (by rw [hk']; simp)
            rw [hk', DescOk] at h7'
            subst h7'
            obtain ⟨i, z, _, q1, q2, q3, q4, q5, _, _⟩ := hT.at ht
            have hzv : vrs G w cs z.cells.toList := by rw [q5]; exact hv G w
            have hmade := made_flatten cs z.cells G w hzv (by omega) m.toNat
            have hzs : z.cells.size = cs.length := by have := hzv.1; simpa using this.symm
            have hzc : Builtin.zeroCells z.cells m.toNat = (Array.range (m.toNat * cs.length)).map (z.cells[· % z.cells.size]!) := by rw [← hzs]; rfl
            rw [← hzc] at hmade
            have hbm : m.toNat * (T ty).bytes ≤ (n + m.toNat) * (T ty).bytes := Nat.mul_le_mul_right _ (by omega)
            refine ⟨_, ⟨fun hm0 A => ?_, fun A n' cap w' hroom g1 g2 => ?_, fun A n' cap olds g1 g2 g3 => ⟨z, q5, ?_⟩⟩, hmade, hmade.one (fun v hv => by
                obtain ⟨x, hx, hv⟩ := List.mem_flatten.1 hv
                rw [List.eq_of_mem_replicate hx] at hv
                exact h1 v hv), fun x hx => by rw [List.eq_of_mem_replicate hx, hlen]⟩
            · rw [List.length_replicate] at hm0
              have : m = 0 := by omega
              subst this
              rw [hvy]
              cases A <;> simp [Builtin.append_, run_underlying h6, run_underlying h6', sizeOf, typeInfo, zeroValue, q1, q4, asInt, asIntOf, show IntKind.i64.wrap 0 = 0 by rfl, storeCells]
            · rw [List.length_replicate] at hroom ⊢
              rw [hvy]
              exact append_zroom h6 h6' q1 q4 h0 (by omega) hroom (by omega) (by rw [q3]; omega) (by rw [q2]; exact g1) g2
            · rw [List.length_replicate] at g2 g3 ⊢
              rw [hvy]
              exact append_zgrow h6 h6' q1 q4 (by rw [q2]; exact g1) h0 (by omega) g2 (by omega) (by rw [q3]; exact g3.1)
          cases keep with
          | false =>
            refine ⟨_, _, _, _, h, RdOk.new (.cons (.inl hb) (.nil _)), fun _ => ⟨by omega, fun G N a w s' hs ha hr hn => ?_⟩, fun hg => absurd rfl hg⟩
            have hi := hn s.nx (Nat.le_refl _) (by omega)
            have hvx := ev_vr hs x (otm o hxm ha)
            rw [hx] at hvx
            have hb' : hget s'.h b = some (.arr fr ex ty (T ty).size rows) := hr b _ (by simp)
            obtain ⟨news, ap, hvn, h1n, hry⟩ := facts hs ha
            have hz1 := (hv G w).one h1
            have := append_osl hT ht hpos hz1 run ap hvn h1n hry hnr (by rw [List.length_replicate]; exact hby) hs hi hvx hb'
            rwa [List.length_replicate] at this
          | true =>
            obtain ⟨⟨rfl, hno⟩, h⟩ := h
            refine ⟨_, _, _, _, h, RdOk.new (.cons (.inl hb) (.nil _)), fun _ => ⟨by omega, fun G N a w s' hs ha hr hn => ?_⟩, fun hg => absurd rfl hg⟩
            have hi := hn s.nx (Nat.le_refl _) (by omega)
            have hvx := ev_vr hs x (otm o hxm ha)
            rw [hx] at hvx
            have hb' : hget s'.h b = some (.arr fr true ty (T ty).size rows) := hr b _ (by simp)
            obtain ⟨news, ap, hvn, h1n, hry⟩ := facts hs ha
            have hz1 := (hv G w).one h1
            have := append_osl_new hT ht hpos hz1 run ap hvn h1n hry hnr (by rw [List.length_replicate]; exact hby) hs hi hvx hb' (by rw [List.length_replicate]; exact hno)
            rwa [List.length_replicate] at this
        · exact h.elim
      · exact h.elim
    · rename_i e e' b sz n hk hk' hx
      split at h
      · rename_i fr ex ty sz' rows hb
        rw [forceN_eq] at h
        obtain ⟨sz'', ys, rd, h', hrd0, hys⟩ := rowsK_out (P := P) (sz0 := 0) h; clear h; have h := h'; clear h'
        obtain ⟨h', ht⟩ := szK_out h; clear h; have h := h'; clear h'
        obtain ⟨cs0, h', _, hc1, hcv⟩ := constsK_out h; clear h; have h := h'; clear h'
        obtain ⟨⟨rfl, rfl, rfl, rfl, hpos⟩, hnr, hby, h⟩ := h
        refine ⟨_, _, _, _, h, RdOk.new (.cons (.inl hb) (fun b ob hm => .inl (hrd0 b ob hm))), fun _ => ⟨by omega, fun G N a w s' hs ha hr hn => ?_⟩, fun hg => absurd rfl hg⟩
        have hi := hn s.nx (Nat.le_refl _) (by omega)
        have hz1 := (hcv G w).one hc1
        have hvx := ev_vr hs x (otm o hxm ha)
        rw [hx] at hvx
        obtain ⟨news, hX, hvn, hry⟩ := hys G s'.h s'.nx w _ hs.hr (fun b ob hb => hr b ob (by simp [hb])) (ev_vr hs y (otm o hym ha))
        have hb' : hget s'.h b = some (.arr fr ex ty (T ty).size rows) := hr b _ (by simp)
        exact append_osl hT ht hpos hz1 run ⟨fun h0 A => by
            have hnil : ys = [] := List.eq_nil_of_length_eq_zero h0
            subst hnil
            exact append_ghost hT (ty := o.type) hk hk' ht (A := A) hX,
          fun A n cap w' hroom h1 h2 => by
            obtain ⟨d', h6', hd'⟩ := notInt hT hk'
            obtain ⟨_, _, d, _, _, _, _, _, h6x, h7x⟩ := hT.at (t := t) (by rw [hk]; simp)
            rw [hk, DescOk] at h7x
            subst h7x
            exact append_room (P := P) (ty := o.type) h6x h6' hd' (hT.sizeOf ht w) hX hroom h1 h2,
          fun A n cap olds h1 h2 h3 => append_new hT (ty := o.type) hk hk' ht hpos hX h1 h2 h3⟩ hvn hX.2.1 hry hnr hby hs hi hvx hb'
      · exact h.elim
    · exact h.elim
  · exact h.elim
theorem rowsK_shape {h : Heap} {v : V} {K : Nat → List (List V) → Heap → Prop} (hk : rowsK h v K) : (∃ fr sz xs, v = .sl fr sz xs) ∨ (∃ b sz row n, v = .osl b sz row n) ∨ v = .snil ∨ ∃ b sz row n, v = .psl b sz row n := by
  unfold rowsK at hk
  split at hk
  · exact .inl ⟨_, _, _, rfl⟩
  · exact .inr (.inl ⟨_, _, _, _, rfl⟩)
  · exact .inr (.inr (.inl rfl))
  · exact .inr (.inr (.inr ⟨_, _, _, _, rfl⟩))
  · exact hk.elim
theorem HR.congr {G : Gh} {h h' : Heap} {n n' : Nat} {w : World} (hr : HR G h n w) (hh : ∀ b, hget h' b = hget h b) (hn : n ≤ n') : HR G h' n' w :=
  ⟨hr.amb_lt, hr.B_le, fun b hb => hr.dom b (by omega), fun b blk hb => hr.own b blk (by rw [← hh]; exact hb), fun b b' k k' c h1 h2 => hr.inj b b' k k' c (by rw [← hh]; exact h1) (by rw [← hh]; exact h2),
   fun b k c hb => hr.apart b k c (by rw [← hh]; exact hb), hr.lt, fun b k hb => by have := hr.hdom b k (by rw [← hh]; exact hb); omega, hr.gl⟩
theorem load_world {w w' : World} {a : Addr} {v : Value} (h : (load a).run P w = .ok v w') : w' = w := by
  rw [run_load] at h
  split at h
  · cases h; rfl
  · split at h
    · cases h; rfl
    all_goals cases h
theorem lc_ext {w w' : World} {a : Addr} : ∀ {n i : Nat} {acc r : Array Value}, (loadCellsFrom a i n acc).run P w = .ok r w' → r.toList.take acc.size = acc.toList ∧ acc.size + n = r.size
  | 0, i, acc, r, h => by
    simp only [loadCellsFrom, Sem.run_pure, Result.ok.injEq] at h
    obtain ⟨rfl, _⟩ := h
    exact ⟨List.take_of_length_le (by simp), rfl⟩
  | n + 1, i, acc, r, h => by
    simp only [loadCellsFrom, Sem.run_bind] at h
    cases hl : (load (a.add i)).run P w with
    | ok v w1 =>
      rw [hl, Result.andThen_ok] at h
      have := load_world hl
      subst this
      obtain ⟨h1, h2⟩ := lc_ext (n := n) h
      refine ⟨?_, by simp at h2; omega⟩
      have h3 := congrArg (List.take acc.size) h1
      simp only [Array.size_push, List.take_take, Array.toList_push] at h3
      rw [Nat.min_eq_left (Nat.le_succ _)] at h3
      rw [h3, List.take_append_of_le_length (by simp), List.take_of_length_le (by simp)]
    | _ => rw [hl] at h; cases h
theorem lc_prefix {w w' : World} {a : Addr} : ∀ {k n i : Nat} {acc r : Array Value}, (loadCellsFrom a i (k + n) acc).run P w = .ok r w' → (loadCellsFrom a i k acc).run P w = .ok (r.toList.take (acc.size + k)).toArray w
  | 0, n, i, acc, r, h => by
    simp only [loadCellsFrom, Sem.run_pure, Nat.add_zero, (lc_ext h).1]
  | k + 1, n, i, acc, r, h => by
    rw [show k + 1 + n = (k + n) + 1 by omega] at h
    simp only [loadCellsFrom, Sem.run_bind] at h ⊢
    cases hl : (load (a.add i)).run P w with
    | ok v w1 =>
      rw [hl, Result.andThen_ok] at h
      have := load_world hl
      subst this
      have := lc_prefix (k := k) h
      rw [Result.andThen_ok, this]
      simp only [Array.size_push]
      rw [show acc.size + 1 + k = acc.size + (k + 1) by omega]
    | _ => rw [hl] at h; cases h
theorem firstCells_less {size : Nat} {w : World} {x : Value} {m : Nat} {news : List Value} (h : Xs P size w x m news) (hx : ∃ A n c, x = .slice A n c) {k : Nat} (hk : k ≤ m) : (Builtin.firstCells size k x).run P w = .ok (news.take (k * size)).toArray w := by
  obtain ⟨A, n, c, rfl⟩ := hx
  obtain ⟨h1, _, _, h4, _⟩ := h
  cases A with
  | none =>
    simp only [Builtin.firstCells, Sem.run_pure, Result.ok.injEq, and_true] at h4 ⊢
    have : news = [] := by simpa using h4.symm
    simp [this]
  | some a =>
    simp only [Builtin.firstCells, loadCells] at h4 ⊢
    rw [show m * size = k * size + (m - k) * size by rw [← Nat.add_mul]; congr 1; omega] at h4
    have := lc_prefix h4
    simpa using this
theorem take_flatten {rows : List (List V)} {sz : Nat} (hs : ∀ x, x ∈ rows → x.length = sz) {k : Nat} (hk : k ≤ rows.length) : (rows.take k).flatten = rows.flatten.take (k * sz) := by
  have e : rows.flatten = (rows.take k).flatten ++ (rows.drop k).flatten := by rw [← List.flatten_append, List.take_append_drop]
  have l : (rows.take k).flatten.length = k * sz := by rw [flatten_cells (fun x hx => hs x (List.mem_of_mem_take hx)), List.length_take, Nat.min_eq_left hk]
  rw [e, ← l, List.take_left]
theorem drop_flatten {rows : List (List V)} {sz : Nat} (hs : ∀ x, x ∈ rows → x.length = sz) {k : Nat} (hk : k ≤ rows.length) : (rows.drop k).flatten = rows.flatten.drop (k * sz) := by
  have e : rows.flatten = (rows.take k).flatten ++ (rows.drop k).flatten := by rw [← List.flatten_append, List.take_append_drop]
  have l : (rows.take k).flatten.length = k * sz := by rw [flatten_cells (fun x hx => hs x (List.mem_of_mem_take hx)), List.length_take, Nat.min_eq_left hk]
  rw [e, ← l, List.drop_left]
theorem ex_copy (hT : TabOk P T) {c : Call} (ho : o.op = .call c) (hc : c.callee = .builtin .copy) (h : exec T s g o K) : ExOk P s g o K := by
  simp only [exec, ho, hc] at h
  split at h
  · rename_i x y t t' hargs htys
    have hargs : c.args = #[x, y] := by apply Array.ext'; simp [hargs]
    have htys : c.argTypes = #[t, t'] := by apply Array.ext'; simp [htys]
    have hxm : x ∈ o.op.operands := by rw [ho]; simp [Op.operands, Call.operands, hc, hargs]
    have hym : y ∈ o.op.operands := by rw [ho]; simp [Op.operands, Call.operands, hc, hargs]
    have run : ∀ (a : Act) (w : World), (execOp a.eval o).run P w = ((Builtin.copy_ #[t, t'] o.type #[a.eval x, a.eval y]).run P w).andThen fun v w => .ok (.value v) w := by
      intro a w
      simp [execOp, ho, resolve, hc, hargs, htys, invoke, builtin]
    split at h
    · rename_i e b sz row n hk hx
      split at h
      · rename_i fr ex ty sz' rows hb
        have hsh := rowsK_shape h
        obtain ⟨sz'', ys, rd, h', hrd0, hys⟩ := rowsK_out (P := P) (sz0 := 0) h; clear h; have h := h'; clear h'
        obtain ⟨h', ht⟩ := szK_out h; clear h; have h := h'; clear h'
        obtain ⟨⟨rfl, rfl, rfl⟩, hnr, h⟩ := h
        refine ⟨_, _, _, _, h, .cons (.inl hb) (fun b ob hm => .inl (hrd0 b ob hm)), fun _ => ⟨Nat.le_refl _, fun G N a w s' hs ha hr hn => ?_⟩, fun hg => absurd rfl hg⟩
        obtain ⟨_, _, d, _, _, _, _, _, h6, h7⟩ := hT.at (t := t) (by rw [hk]; simp)
        rw [hk, DescOk] at h7
        subst h7
        have hvx := ev_vr hs x (otm o hxm ha)
        rw [hx] at hvx
        obtain ⟨news, hX, hvn, hry⟩ := hys G s'.h s'.nx w _ hs.hr (fun b ob hb => hr b ob (by simp [hb])) (ev_vr hs y (otm o hym ha))
        have hb' : hget s'.h b = some (.arr fr ex ty (T e).size rows) := hr b _ (by simp)
        obtain ⟨hro, hown⟩ := hs.hr.own b (.arr fr ex ty (T e).size rows) hb'
        have same : HR G s'.h s'.nx w → HR G ((b, some (.arr fr ex ty (T e).size rows)) :: s'.h) (max s'.nx s.nx) w := fun hh =>
          (hh.congr (fun b' => by rw [hget_cons]; split <;> simp_all) (Nat.le_refl _)).more (Nat.le_max_left _ _)
        have hsl : ∃ A n c, a.eval y = .slice A n c := by
          have hvy := ev_vr hs y (otm o hym ha)
          generalize a.eval y = uy at hvy
          rcases hsh with ⟨_, _, _, e⟩ | ⟨_, _, _, _, e⟩ | e | ⟨_, _, _, _, e⟩
          all_goals rw [e] at hvy; cases hvy <;> exact ⟨_, _, _, rfl⟩
        have hfc : ∀ k, k ≤ ys.length → (Builtin.firstCells (T e).size k (a.eval y)).run P w = .ok (news.take (k * (T e).size)).toArray w := fun k hk => firstCells_less hX hsl hk
        have hlen := hX.2.2.1
        generalize hux : a.eval x = ux at hvx
        have zero : min ys.length n = 0 → (ys.take n = []) := by
          intro h0
          apply List.eq_nil_of_length_eq_zero
          rw [List.length_take]; omega
        cases hvx with
        | oslz _ _ _ A =>
          refine ⟨_, w, G, .inl (by
            rw [run, hux]
            have h0 := hfc 0 (by omega)
            simp only [Nat.zero_mul, List.take_zero] at h0
            cases A <;> simp [Builtin.copy_, run_underlying h6, hlen, hT.sizeOf ht w, h0, storeCells, goInt]
            all_goals rfl), ?_, ?_, fun _ _ => rfl, EvoA.refl G w⟩
          · simp only [Nat.min_zero]; exact .int _ _
          · simp only [Nat.min_zero, List.take_zero, List.append_nil, Nat.add_zero, List.take_append_drop]
            simpa using same hs.hr
        | osl _ _ _ _ c2 cap m hcb hz he hncap hm =>
          rcases hown with ⟨h1, _⟩ | hown
          · rw [h1] at hcb; cases hcb
          obtain ⟨c3, cs, e1, hh, hln, hex, hfr, h6x, h7x⟩ := id hown
          rw [hcb] at e1; cases e1
          have hap := hs.hr.apart b _ c2 hb' hcb
          have hfl := flatten_cells hro
          let k := min ys.length n
          have hk1 : k ≤ ys.length := Nat.min_le_left _ _
          have hk2 : k ≤ n := Nat.min_le_right _ _
          have hnl : news.length = ys.length * (T e).size := by rw [← hvn.1, flatten_cells hry]
          have hlt : (news.take (k * (T e).size)).length = k * (T e).size := by
            rw [List.length_take, hnl]
            exact Nat.min_eq_left (Nat.mul_le_mul_right _ hk1)
          have hys' : (ys.take n) = ys.take k := by
            rcases Nat.le_total ys.length n with h1 | h1
            · rw [show k = ys.length by simp [k]; omega, List.take_length, List.take_of_length_le h1]
            · rw [show k = n by simp [k]; omega]
          have hryk : ∀ x ∈ ys.take k, x.length = (T e).size := fun x hx => hry x (List.mem_of_mem_take hx)
          have hvk : vrs G w (ys.take k).flatten (news.take (k * (T e).size)) := by
            have htk : (ys.take k).flatten = ys.flatten.take (k * (T e).size) := by
              have e0 : ys.flatten = (ys.take k).flatten ++ (ys.drop k).flatten := by rw [← List.flatten_append, List.take_append_drop]
              have l : (ys.take k).flatten.length = k * (T e).size := by rw [flatten_cells hryk, List.length_take, Nat.min_eq_left hk1]
              rw [e0, ← l, List.take_left]
            rw [htk]
            exact hvn.take _
          have h1k : ∀ u ∈ news.take (k * (T e).size), u.oneCell' = true := fun u hu => hX.2.1 u (List.mem_of_mem_take hu)
          have hmul : (row + k) * (T e).size ≤ rows.length * (T e).size := Nat.mul_le_mul_right _ (by omega)
          rw [Nat.add_mul] at hmul
          have hst := run_storeCells_at P c2 (row * (T e).size) ty (news.take (k * (T e).size)) 0 cs w hh (by omega) h1k
          rw [Nat.add_zero, hlt] at hst
          have hsz : (cs.toList.take (row * (T e).size) ++ news.take (k * (T e).size) ++ cs.toList.drop (row * (T e).size + k * (T e).size)).toArray.size = cs.size := by
            simp only [List.size_toArray, List.length_append, List.length_take, List.length_drop, Array.length_toList] at *
            omega
          have hok := hown.splice hcb hh hap (o := row * (T e).size) hvk h1k (by rw [hvk.1, hlt]; omega)
          rw [hvk.1, hlt] at hok
          have heq : (rows.take row ++ ys.take n ++ rows.drop (row + k)).flatten = rows.flatten.take (row * (T e).size) ++ (ys.take k).flatten ++ rows.flatten.drop (row * (T e).size + k * (T e).size) := by
            rw [hys', List.flatten_append, List.flatten_append, ← Nat.add_mul]
            rw [take_flatten hro (by omega), drop_flatten hro (by omega)]
          have hR := HR.setRow hs.hr hb' hcb hh hsz (.arr fr ex ty (T e).size (rows.take row ++ ys.take n ++ rows.drop (row + k))) ⟨fun x hx => by
              rcases List.mem_append.1 hx with hx | hx
              · rcases List.mem_append.1 hx with hx | hx
                · exact hro x (List.mem_of_mem_take hx)
                · exact hry x (List.mem_of_mem_take hx)
              · exact hro x (List.mem_of_mem_drop hx), .inr (by rw [heq]; exact hok)⟩
          refine ⟨_, _, G, .inl ?_, .int _ _, hR.more (Nat.le_max_left _ _), fun _ _ => rfl, EvoA.setRow hh hsz hap hcb⟩
          rw [run, hux]
          simp only [Builtin.copy_, hlen, Sem.run_bind, List.getElem?_toArray, List.getElem?_cons_zero, List.getElem?_cons_succ, run_underlying h6, Result.andThen_ok, hT.sizeOf ht w, hfc k hk1, show Nat.min ys.length n = k from rfl, hst, Sem.run_pure, goInt]
      · exact h.elim
    · exact h.elim
  · exact h.elim
theorem run_forIn_u8 {P : Program} {w : World} (f : Value → ByteArray → Sem (ForInStep ByteArray))
    (hf : ∀ (n : Int) (r : ByteArray), (f (.int .u8 n) r).run P w = .ok (.yield (r.push (UInt8.ofNat n.toNat))) w) :
    ∀ (us : List Value) (bs : List UInt8) (s : ByteArray), us = bs.map (fun b => Value.int .u8 b.toNat) → (forIn us s f).run P w = .ok ⟨s.data ++ bs.toArray⟩ w := by
  intro us bs
  induction bs generalizing us with
  | nil => intro s e; subst e; simp [Sem.run_pure]
  | cons n ns ih =>
    intro s e
    subst e
    simp only [List.map_cons, List.forIn_cons, Sem.run_bind, hf, Result.andThen]
    rw [ih _ _ rfl]
    simp [ByteArray.push]
theorem ex_convert (hT : TabOk P T) {t d : TypeId} {x : Operand} (ho : o.op = .convert t d x) (h : exec T s g o K) : ExOk P s g o K := by
  simp only [exec, ho] at h
  obtain ⟨v, h, hv⟩ := argK_out h
  split at h
  · rename_i k' n k hk
    obtain ⟨h, ht⟩ := szK_out h
    obtain ⟨i, z, dd, _, _, _, _, _, h6, h7⟩ := hT.at (t := d) (by rw [hk]; simp)
    obtain ⟨i', z', dd', _, _, _, _, _, h6', _⟩ := hT.at ht
    rw [hk, DescOk] at h7
    subst h7
    refine .of_pure (rd := []) h fun hg G N a w s' hs ha _ => ⟨_, ?_, .int _ _⟩
    have hx := VR.int_iff.1 (hv hg G w _ (ev_vr hs x (otm o (by simp [ho, Op.operands]) ha)))
    simp [execOp, ho, hx, convert, run_underlying h6, run_underlying h6', Conv.intToInt]
  · rename_i hd
    split at h
    · rename_i e hk
      split at h
      · rename_i hke
        obtain ⟨_, _, dt, _, _, _, _, _, h6, h7⟩ := hT.at (t := t) (by rw [hk]; simp)
        rw [hk, DescOk] at h7
        subst h7
        obtain ⟨_, _, de, _, _, _, _, _, h6e, h7e⟩ := hT.at (t := e) (by rw [hke]; simp)
        rw [hke, DescOk] at h7e
        subst h7e
        obtain ⟨_, _, dd, _, _, _, _, _, h6d, h7d⟩ := hT.at (t := d) (by rw [hd]; simp)
        rw [hd, DescOk] at h7d
        subst h7d
        split at h
        · refine .of_pure (rd := []) h fun hg G N a w s' hs ha _ => ⟨_, ?_, .str _⟩
          have hx := hv hg G w _ (ev_vr hs x (otm o (by simp [ho, Op.operands]) ha))
          generalize hux : a.eval x = ux at hx
          cases hx with
          | snil A =>
            have : (Conv.bytesToString (.slice A 0 0)).run P w = .ok (.string ByteArray.empty) w := by
              cases A with
              | none => rfl
              | some ad => simp [Conv.bytesToString, loadCells, loadCellsFrom]
            simp only [execOp, ho, hux, Sem.run_bind, run_convert_bytes_string w t d e A 0 0 h6 h6e h6d, this, Result.andThen_ok, Sem.run_pure]
        · have hsh := rowsK_shape h
          obtain ⟨sz, rows, rd, h', hrd0, hys⟩ := rowsK_out (P := P) (sz0 := 0) h; clear h; have h := h'; clear h'
          obtain ⟨rfl, b, hrows, hK⟩ := h
          refine .of_pure (rd := rd) hK (fun hg G N a w s' hs ha hr => ⟨_, ?_, .str _⟩) (fun b ob hm => .inl (hrd0 b ob hm))
          have hx := hv hg G w _ (ev_vr hs x (otm o (by simp [ho, Op.operands]) ha))
          obtain ⟨news, hX, hvn, _⟩ := hys G s'.h s'.nx w _ hs.hr hr hx
          obtain ⟨_, _, hlen, hfc, _⟩ := hX
          have hnews : news = b.data.toList.map (fun b => Value.int .u8 b.toNat) := by
            have hfl : rows.flatten = b.data.toList.map (fun x => V.int .u8 x.toNat) := by
              rw [hrows]
              induction b.data.toList with
              | nil => rfl
              | cons x l ih => simp [ih]
            rw [hfl] at hvn
            apply List.ext_getElem?
            intro j
            have hl := hvn.1
            simp at hl
            have hbs : b.data.size = b.size := rfl
            by_cases hj : j < b.data.size
            · have h1 : j < news.length := by omega
              have := hvn.2 j _ news[j] (List.getElem?_eq_getElem (by simpa using hj)) (List.getElem?_eq_getElem h1)
              rw [List.getElem?_eq_getElem h1, List.getElem?_eq_getElem (by simpa using hj)]
              simp only [List.getElem_map] at this ⊢
              rw [VR.int_iff.1 this]
            · rw [List.getElem?_eq_none (by omega), List.getElem?_eq_none (by simpa using hj)]
          have hslice : ∃ A len cap, a.eval x = .slice A len cap := by
            rcases hsh with ⟨_, _, _, rfl⟩ | ⟨_, _, _, _, rfl⟩ | rfl | ⟨_, _, _, _, rfl⟩
            · generalize a.eval x = ux at hx
              cases hx; exact ⟨_, _, _, rfl⟩
            · generalize a.eval x = ux at hx
              cases hx
              · exact ⟨_, _, _, rfl⟩
              · exact ⟨_, _, _, rfl⟩
            · generalize a.eval x = ux at hx
              cases hx; exact ⟨_, _, _, rfl⟩
            · generalize a.eval x = ux at hx
              cases hx; exact ⟨_, _, _, rfl⟩
          generalize hux : a.eval x = ux at hx hlen hfc hslice
          obtain ⟨A, len, cap, rfl⟩ := hslice
          have hrun : (convert t d (.slice A len cap)).run P w = .ok (.string b) w := by
            have hl : len = rows.length := by simpa [Builtin.lenOf] using hlen
            rw [run_convert_bytes_string w t d e A len cap h6 h6e h6d]
            have hself : (⟨ByteArray.empty.data ++ b.data.toList.toArray⟩ : ByteArray) = b := by
              cases b with
              | mk dd => simp [show ByteArray.empty.data = #[] from rfl]
            cases A with
            | none =>
              simp only [Builtin.firstCells, Sem.run_pure, Result.ok.injEq, and_true] at hfc
              have : news = [] := by simpa using hfc.symm
              rw [this] at hnews
              have hb : b.data.toList = [] := by simpa using hnews.symm
              rw [hb] at hself
              rw [← hself]
              rfl
            | some ad =>
              simp only [Builtin.firstCells, Nat.mul_one, ← hl] at hfc
              unfold Conv.bytesToString
              simp only [Sem.run_bind, hfc, Result.andThen_ok, List.forIn_toArray]
              rw [run_forIn_u8 _ (by intro n r; simp [Sem.run_pure]) news b.data.toList ByteArray.empty hnews, hself]
              simp [Sem.run_pure]
          simp only [execOp, ho, hux, Sem.run_bind, hrun, Result.andThen_ok, Sem.run_pure]
      · exact h.elim
    · exact h.elim
  · exact h.elim
theorem exec_ok (hT : TabOk P T) (hs0 : ∃ G N a w, Sim G N s a w) (h : exec T s g o K) : ExOk P s g o K := by
  have h' := h
  unfold exec at h'
  split at h'
  · rename_i x ho; exact ex_move (.inl ho) h'
  · rename_i x ho; exact ex_move (.inr ho) h'
  · rename_i ho; exact ex_pick ho h
  · rename_i ho; exact ex_bin hT ho h
  · rename_i ho; exact ex_makeMap hT ho h
  · rename_i ho; exact ex_mapUpdate hT (.inl ho) h
  · rename_i ho; exact ex_mapUpdate hT (.inr ho) h
  · rename_i ho; exact ex_lookup hT ho h
  · rename_i ho; exact ex_range hT ho h
  · rename_i ho; exact ex_entry ho h
  · rename_i ho; exact ex_not ho h
  · rename_i ho; exact ex_neg ho h
  · rename_i ho; exact ex_convert hT ho h
  · rename_i ho; exact ex_extract ho h
  · rename_i ho; exact ex_nilCheck ho h
  · rename_i ho; exact ex_fieldAddr hT ho h
  · rename_i ho; exact ex_field hT ho h
  · rename_i ho; exact ex_indexAddr hT ho h
  · rename_i ho; exact ex_index hT ho h
  · rename_i ho; exact ex_load hT ho h
  · rename_i ho; exact ex_store hT ho h
  · rename_i ho; exact ex_alloc hT ho h
  · rename_i ho; exact ex_box hT ho h
  · rename_i ho; exact ex_build hT ho h
  · rename_i ho; exact ex_buildSlice hT ho h
  · rename_i ho; exact ex_makeFunc ho h
  · rename_i ho; exact ex_makeInterface hT ho h
  · rename_i ho; exact ex_makeSlice hT ho h
  · rename_i ho; exact ex_slice hT ho h
  · rename_i c ho
    split at h'
    · rename_i hc; exact ex_len hT hs0 ho hc h
    · rename_i hc; exact ex_delete hT ho hc h
    · rename_i hc; exact ex_minmax (.inl rfl) ho hc h
    · rename_i hc; exact ex_minmax (.inr rfl) ho hc h
    · rename_i hc; exact ex_cap hT ho hc h
    · rename_i hc; exact ex_copy hT ho hc h
    · rename_i hc; exact ex_append hT ho hc h
    · exact h'.elim
  · exact h'.elim
theorem exec_ok' (hT : TabOk P T) (hl : ∀ c, o.op = .call c → c.callee ≠ .builtin .len) (h : exec T s g o K) : ExOk P s g o K := by
  have h' := h
  unfold exec at h'
  split at h'
  · rename_i x ho; exact ex_move (.inl ho) h'
  · rename_i x ho; exact ex_move (.inr ho) h'
  · rename_i ho; exact ex_pick ho h
  · rename_i ho; exact ex_bin hT ho h
  · rename_i ho; exact ex_makeMap hT ho h
  · rename_i ho; exact ex_mapUpdate hT (.inl ho) h
  · rename_i ho; exact ex_mapUpdate hT (.inr ho) h
  · rename_i ho; exact ex_lookup hT ho h
  · rename_i ho; exact ex_range hT ho h
  · rename_i ho; exact ex_entry ho h
  · rename_i ho; exact ex_not ho h
  · rename_i ho; exact ex_neg ho h
  · rename_i ho; exact ex_convert hT ho h
  · rename_i ho; exact ex_extract ho h
  · rename_i ho; exact ex_nilCheck ho h
  · rename_i ho; exact ex_fieldAddr hT ho h
  · rename_i ho; exact ex_field hT ho h
  · rename_i ho; exact ex_indexAddr hT ho h
  · rename_i ho; exact ex_index hT ho h
  · rename_i ho; exact ex_load hT ho h
  · rename_i ho; exact ex_store hT ho h
  · rename_i ho; exact ex_alloc hT ho h
  · rename_i ho; exact ex_box hT ho h
  · rename_i ho; exact ex_build hT ho h
  · rename_i ho; exact ex_buildSlice hT ho h
  · rename_i ho; exact ex_makeFunc ho h
  · rename_i ho; exact ex_makeInterface hT ho h
  · rename_i ho; exact ex_makeSlice hT ho h
  · rename_i ho; exact ex_slice hT ho h
  · rename_i c ho
    split at h'
    · rename_i hc; exact absurd hc (hl c ho)
    · rename_i hc; exact ex_delete hT ho hc h
    · rename_i hc; exact ex_minmax (.inl rfl) ho hc h
    · rename_i hc; exact ex_minmax (.inr rfl) ho hc h
    · rename_i hc; exact ex_cap hT ho hc h
    · rename_i hc; exact ex_copy hT ho hc h
    · rename_i hc; exact ex_append hT ho hc h
    · exact h'.elim
  · exact h'.elim
end Go.Proofs.YtfaglgoanmcifaaGreat
namespace Go.Proofs.YtfaglgoanmcifaaGreat
open Go.RowKit
def FW (F : Fence) : Prop := F = Fence.wide ∨ ∃ l, F = Fence.wide.inRound l
theorem FW.fn {F : Fence} (h : FW F) (f : FuncId) : F.fn f := by rcases h with rfl | ⟨l, rfl⟩ <;> trivial
theorem FW.depth {F : Fence} (h : FW F) : F.depth = none := by rcases h with rfl | ⟨l, rfl⟩ <;> rfl
theorem FW.call {F : Fence} (h : FW F) {n : Nat} {P : Program} {f : FuncId} {args : Array Value} {w : World} {R : Ending → World → Prop} (hc : Calls P f args w R) : CallsIn F n P f args w R := by
  rcases h with rfl | ⟨l, rfl⟩
  · exact callsIn_wide.2 hc
  · exact CallsIn.inRound l (callsIn_wide.2 hc)
theorem FW.plain {F : Fence} (h : FW F) : FW F.plain := .inl (by rcases h with rfl | ⟨l, rfl⟩ <;> rfl)
def Cal (P : Program) (f : FuncId) (us : Array Value) (w : World) (R : Ending → World → Prop) : Prop :=
  ((∃ fn, P.funcs[f]? = some fn ∧ fn.body.isSome = true ∧ fn.name ≠ "runtime.NumGoroutine") ∧ Calls P f us w R) ∨
  (∃ fn, P.funcs[f]? = some fn ∧ fn.body.isSome = false) ∧ ∃ u w', (callFunc f us).run P w = .ok (.value u) w' ∧ R (.returned u) w'
theorem Cal.mono {P : Program} {f : FuncId} {us : Array Value} {w : World} {R R' : Ending → World → Prop} (h : Cal P f us w R) (hr : ∀ e w', R e w' → R' e w') : Cal P f us w R' := by
  rcases h with ⟨h1, h2⟩ | ⟨h0, u, w', h1, h2⟩
  · exact .inl ⟨h1, h2.mono hr⟩
  · exact .inr ⟨h0, u, w', h1, hr _ _ h2⟩
theorem Cal.calls {P : Program} {f : FuncId} {us : Array Value} {w : World} {R : Ending → World → Prop} (h : Cal P f us w R) (hb : (P.funcs[f]?.map (·.body.isSome)) = some true) : Calls P f us w R := by
  rcases h with ⟨h1, h2⟩ | ⟨⟨fn, h1, h2⟩, _⟩
  · exact h2
  · rw [h1] at hb
    simp only [Option.map_some, Option.some.injEq] at hb
    rw [h2] at hb; cases hb
def CallV (P : Program) (f : FuncId) (args : List V) (h : Heap) (nx : Nat) (R : V → Heap → Nat → Prop) : Prop :=
  (∃ fn, P.funcs[f]? = some fn) ∧
  ∀ (G : Gh) (w : World) (us : List Value), HR G h nx w → vrs G w args us →
    Cal P f us.toArray w fun e w' => ∃ u v h' nx' G', e = .returned u ∧ R v h' nx' ∧ vr G' w' v u ∧ HR G' h' nx' w' ∧ Evo nx G w G' w' ∧ nx ≤ nx'
theorem CallV.mono {P : Program} {f : FuncId} {args : List V} {h : Heap} {nx : Nat} {R R' : V → Heap → Nat → Prop} (hc : CallV P f args h nx R) (hr : ∀ v h' nx', R v h' nx' → R' v h' nx') : CallV P f args h nx R' :=
  ⟨hc.1, fun G w us hh hv => (hc.2 G w us hh hv).mono fun e w' ⟨u, v, h', nx', G', h1, h2, h3⟩ => ⟨u, v, h', nx', G', h1, hr _ _ _ h2, h3⟩⟩
inductive Ex where
  | normal | exit (id : Nat) | goto (l : Nat) | ret
def Ex.to : Ex → Exit
  | .normal => .normal
  | .exit id => .exit id
  | .goto l => .goto l
  | .ret => .ret
def Dfr (w0 : World) (G : Gh) (w : World) (D D' : List Deferred) : Prop :=
  ∃ ms : List Nat, D' = (ms.map fun r => { target := .collected r, args := #[] }) ++ D ∧ (∀ r ∈ ms, w0.heap.size ≤ r ∧ w.heap[r]? = some (.deferred (some [])) ∧ (∀ b, G.ι b ≠ some r) ∧ ¬ G.amb r) ∧ ms.Pairwise (· ≠ ·)
theorem Dfr.refl (w0 : World) (G : Gh) (w : World) (D : List Deferred) : Dfr w0 G w D D := ⟨[], rfl, by simp, .nil⟩
theorem Dfr.of_eq {w0 : World} {G : Gh} {w : World} {D D' : List Deferred} (h : D' = D) : Dfr w0 G w D D' := h ▸ Dfr.refl _ _ _ _
theorem lt_of_heap {w : World} {r : Nat} {o : Obj} (h : w.heap[r]? = some o) : r < w.heap.size := (Array.getElem?_eq_some_iff.1 h).1
theorem Dfr.evo {base : Nat} {w0 : World} {G G' : Gh} {w w' : World} {D D' : List Deferred} (h : Dfr w0 G w D D') (he : Evo base G w G' w') : Dfr w0 G' w' D D' := by
  obtain ⟨ms, h1, h2, h3⟩ := h
  refine ⟨ms, h1, fun r hr => ?_, h3⟩
  obtain ⟨q1, q2, q3, q4⟩ := h2 r hr
  have hlt := lt_of_heap q2
  refine ⟨q1, (he.keepu r hlt q3).trans q2, fun b hb => ?_, fun ha => ?_⟩
  · obtain ⟨b', hb'⟩ := he.idn b r hb hlt
    exact q3 b' hb'
  · rcases he.ambn r ha hlt with h | ⟨b, h⟩
    · exact q4 h
    · exact q3 b h
theorem Dfr.trans {base : Nat} {w0 : World} {G1 G2 : Gh} {w1 w2 : World} {D D1 D2 : List Deferred} (h : Dfr w0 G1 w1 D D1) (he : Evo base G1 w1 G2 w2) (hw : w0.heap.size ≤ w1.heap.size) (k : Dfr w1 G2 w2 D1 D2) : Dfr w0 G2 w2 D D2 := by
  have h' := h.evo he
  obtain ⟨ms, h1, h2, h3⟩ := h'
  obtain ⟨ms2, k1, k2, k3⟩ := k
  obtain ⟨ms0, h10, h20, _⟩ := h
  have hsz : ∀ r ∈ ms, r < w1.heap.size := by
    intro r hr
    have : ms0 = ms := by
      have e := h10.symm.trans h1
      have e2 := List.append_cancel_right e
      exact (List.map_inj_right (fun a b hab => by simpa using hab)).1 e2
    subst this
    exact lt_of_heap (h20 r hr).2.1
  refine ⟨ms2 ++ ms, by rw [k1, h1]; simp, fun r hr => ?_, List.pairwise_append.2 ⟨k3, h3, fun a ha b hb e => ?_⟩⟩
  · rcases List.mem_append.1 hr with hr | hr
    · have := k2 r hr
      exact ⟨by omega, this.2⟩
    · exact h2 r hr
  · have := (k2 a ha).1
    have := hsz b hb
    omega
def Post (N base : Nat) (G : Gh) (w : World) (D : List Deferred) (Q : Ex → St → Prop) (e : Exit) (a' : Act) (w' : World) : Prop :=
  ∃ e' s' G', e = e'.to ∧ Q e' s' ∧ Sim G' N s' a' w' ∧ Evo base G w G' w' ∧ base ≤ s'.nx ∧ Dfr w G' w' D a'.defers
def VC (P : Program) (F : Fence) (N base : Nat) (c : Code) (s : St) (Q : Ex → St → Prop) : Prop :=
  ∀ (n : Nat) (G : Gh) (a : Act) (w : World), Sim G N s a w → base ≤ s.nx → c.wpIn F n P (Post N base G w a.defers Q) a w
theorem Post.evo {N base : Nat} {G G1 : Gh} {w w1 : World} {D : List Deferred} {D1 : List Deferred} {Q : Ex → St → Prop} {e : Exit} {a' : Act} {w' : World} (h : Post N base G1 w1 D1 Q e a' w') (he : Evo base G w G1 w1) (hd : Dfr w G1 w1 D D1) : Post N base G w D Q e a' w' := by
  obtain ⟨e', s', G', h1, h2, h3, h4, h5, h6⟩ := h
  exact ⟨e', s', G', h1, h2, h3, he.trans h4, h5, hd.trans h4 he.size h6⟩
theorem VC.mono {P : Program} {F : Fence} {N base : Nat} {c : Code} {s : St} {Q Q' : Ex → St → Prop} (h : VC P F N base c s Q) (hq : ∀ e s, Q e s → Q' e s) : VC P F N base c s Q' :=
  fun n G a w hs hb => wpIn_mono (h n G a w hs hb) fun e a' w' ⟨e', s', G', h1, h2, h3⟩ => ⟨e', s', G', h1, hq _ _ h2, h3⟩
theorem FW.round {F : Fence} (h : FW F) (l : Nat) : FW (F.inRound l) := by rcases h with rfl | ⟨l0, rfl⟩ <;> exact .inr ⟨l, rfl⟩
theorem csz_putObj {w : World} {c : Nat} {r r' : Loop} (hg : w.heap[c]? = some (.loop r)) {c' m : Nat} (h : csz w c' = some m) : csz (w.putObj c (.loop r')) c' = some m := by
  unfold csz at h ⊢
  by_cases e : c' = c
  · subst e; rw [hg] at h; cases h
  · rw [World.putObj_heap_other e]; exact h
theorem EvoA.putLoop {G : Gh} {w : World} {c : Nat} {r r' : Loop} (hg : w.heap[c]? = some (.loop r)) (ha : ¬ G.amb c) {b : Nat} (hb : G.ι b = some c) : EvoA G w G (w.putObj c (.loop r')) := fun base =>
  ⟨rfl, rfl, rfl, by simp, rfl, fun _ hc => hc, fun c' hc => World.putObj_heap_other (fun e => ha (e ▸ hc)), fun _ _ hm => csz_putObj hg hm, fun _ _ _ hc => hc,
   fun c' _ hn => World.putObj_heap_other (fun e => hn b (e ▸ hb)), fun _ h _ => .inl h, fun b _ h _ => ⟨b, h⟩⟩
theorem HR.putLoop {G : Gh} {hp : Heap} {n : Nat} {w : World} (h : HR G hp n w) {b c : Nat} {blk : Blk} (hb : hget hp b = some blk) (hc : G.ι b = some c) {r r' : Loop}
    (hg : w.heap[c]? = some (.loop r)) (blk' : Blk) (hok : BlkOk G (w.putObj c (.loop r')) b blk') : HR G ((b, some blk') :: hp) n (w.putObj c (.loop r')) := by
  have he : EvoA G w G (w.putObj c (.loop r')) := EvoA.putLoop hg (h.apart b blk c hb hc) hc
  have live : ∀ {b' k}, hget ((b, some blk') :: hp) b' = some k → ∃ k', hget hp b' = some k' := by
    intro b' k hk
    rw [hget_cons] at hk
    split at hk
    · rename_i e; subst e; exact ⟨_, hb⟩
    · exact ⟨k, hk⟩
  refine ⟨fun c hc => by have := h.amb_lt c hc; simpa using this, by simpa using h.B_le, h.dom, fun b' k hk => ?_, fun b1 b2 k1 k2 c' h1 h2 h3 h4 => ?_, fun b' k c' hk hc' => ?_, fun b' c' hc' => by simpa using h.lt b' c' hc', fun b' k hk => ?_, h.gl.evo (he 0)⟩
  · rw [hget_cons] at hk
    split at hk
    · rename_i e; subst e; cases hk; exact hok
    · rename_i e
      refine (h.own b' k hk).keep he (fun c' hc' => World.putObj_heap_other ?_) (fun hn => hn)
      rintro rfl
      exact e (h.inj b b' _ _ _ hb hk hc hc')
  · obtain ⟨_, g1⟩ := live h1
    obtain ⟨_, g2⟩ := live h2
    exact h.inj b1 b2 _ _ c' g1 g2 h3 h4
  · obtain ⟨_, g1⟩ := live hk
    exact h.apart b' _ c' g1 hc'
  · obtain ⟨_, g1⟩ := live hk
    exact h.hdom b' _ g1
theorem HR.loopTo {G : Gh} {hp : Heap} {n : Nat} {w : World} (h : HR G hp n w) {b N : Nat} {t : List (Nat × V)} {ps : List Nat} {asg body : Code} {st : LoopState} {pend : Option Code}
    (hb : hget hp b = some (.loop N t ps asg body st pend)) : ∃ c r, G.ι b = some c ∧ w.heap[c]? = some (.loop r) ∧ r.state = st ∧ r.pending = pend ∧ r.params = ps.toArray ∧ r.assign = asg ∧ r.body = body ∧ r.tmps.size = N ∧ (∀ i, vr G w (look t i) (r.tmps.getD i undef)) ∧
      ∀ st' pend', HR G ((b, some (.loop N t ps asg body st' pend')) :: hp) n (w.putObj c (.loop { r with state := st', pending := pend' })) ∧ EvoA G w G (w.putObj c (.loop { r with state := st', pending := pend' })) := by
  obtain ⟨c, r, h1, h2, h3, h4, h5, h6, h7, h8, h9⟩ : BlkOk G w b (.loop N t ps asg body st pend) := h.own b _ hb
  refine ⟨c, r, h1, h2, h3, h4, h5, h6, h7, h8, h9, fun st' pend' => ?_⟩
  have he : EvoA G w G (w.putObj c (.loop { r with state := st', pending := pend' })) := EvoA.putLoop h2 (h.apart b _ c hb h1) h1
  exact ⟨h.putLoop hb h1 h2 _ ⟨c, _, h1, World.putObj_heap_same (lt_of_heap h2), rfl, rfl, h5, h6, h7, h8, fun i => he.vr (h9 i)⟩, he⟩
def zipPs : List Nat → List V → List (Nat × V) → List (Nat × V)
  | p :: ps, v :: vs, t => zipPs ps vs ((p, v) :: t)
  | _, _, t => t
theorem zipPs_ok {G : Gh} {w : World} {N : Nat} : ∀ {ps : List Nat} {vs : List V} {us : List Value} {t : List (Nat × V)} {A : Array Value}, vrs G w vs us → (∀ p ∈ ps, p < N) → A.size = N → (∀ i, vr G w (look t i) (A.getD i undef)) →
    (((ps.zip us).foldl (fun (A : Array Value) (x : Nat × Value) => A.setIfInBounds x.1 x.2) A).size = N ∧ ∀ i, vr G w (look (zipPs ps vs t) i) (((ps.zip us).foldl (fun (A : Array Value) (x : Nat × Value) => A.setIfInBounds x.1 x.2) A).getD i undef))
  | [], vs, us, t, A, hv, hp, hA, ht => by cases vs <;> exact ⟨by simpa using hA, by simpa [zipPs] using ht⟩
  | p :: ps, [], us, t, A, hv, hp, hA, ht => by
    have : us = [] := List.eq_nil_of_length_eq_zero hv.1.symm
    subst this
    exact ⟨by simpa using hA, by simpa [zipPs] using ht⟩
  | p :: ps, v :: vs, [], t, A, hv, hp, hA, ht => by have := hv.1; simp at this
  | p :: ps, v :: vs, u :: us, t, A, hv, hp, hA, ht => by
    rw [List.zip_cons_cons, List.foldl_cons, zipPs]
    refine zipPs_ok (ps := ps) (vs := vs) (us := us) ⟨by simpa using hv.1, fun j v' u' h1 h2 => hv.2 (j + 1) v' u' (by simpa using h1) (by simpa using h2)⟩ (fun q hq => hp q (by simp [hq])) (by simpa using hA) fun i => ?_
    have h0 : look ((p, v) :: t) i = if p = i then v else look t i := by
      unfold look
      by_cases e : p = i
      · subst e; simp [Nat.beq_refl]
      · have : Nat.beq p i = false := by
          cases hb : Nat.beq p i with
          | false => rfl
          | true => exact absurd (Nat.eq_of_beq_eq_true hb) e
        simp [this, e]
        cases t <;> rfl
    rw [h0]
    simp only [Array.getD_eq_getD_getElem?] at ht ⊢
    by_cases e : p = i
    · subst e
      have := hp p (by simp)
      rw [Array.getElem?_setIfInBounds_self_of_lt (by omega)]
      simpa using hv.2 0 v u rfl rfl
    · rw [Array.getElem?_setIfInBounds_ne e]
      simpa [e] using ht i
def Ex.code : Ex → Code
  | .normal => .skip
  | .exit id => .exit id
  | .goto l => .goto l
  | .ret => .ret
def RoundV (P : Program) (N b : Nat) (t : List (Nat × V)) (ps : List Nat) (asg body : Code) (args : List V) (h : Heap) (nx : Nat) (K : V → Heap → Nat → Prop) : Prop :=
  args.length = ps.length ∧ (∀ p ∈ ps, p < N) ∧ b < nx ∧
  ∀ F, FW F → VC P F N nx asg ⟨zipPs ps args t, h, nx⟩ (fun e s1 => match e with
    | .normal => hget s1.h b = some (.loop N t ps asg body .ready none) ∧ VC P F N nx body ⟨s1.t, (b, some (.loop N t ps asg body .busy none)) :: s1.h, s1.nx⟩ (fun e2 s2 => hget s2.h b = some (.loop N t ps asg body .busy none) ∧
        match e2 with
        | .normal => K (.bool true) ((b, some (.loop N t ps asg body .ready none)) :: s2.h) s2.nx
        | e2 => K (.bool false) ((b, some (.loop N t ps asg body .done (some e2.code))) :: s2.h) s2.nx)
    | _ => False)
def nthO {α : Type} : List α → Nat → Option α
  | [], _ => none
  | x :: _, 0 => some x
  | _ :: r, n + 1 => nthO r n
def guardK (all : List Oper) (s : St) (o : Oper) (K : Option Bool → St → Prop) : Prop :=
  match o.guard with
  | none => K none s
  | some (j, want) => match nthO all j with
    | some oj => match oj.dst with
      | some d => match s.get d, s with
        | .bool b, ⟨t, h, nx⟩ => match b with
          | true => K (some want) ⟨(d, .bool true) :: t, h, nx⟩
          | false => K (some (!want)) ⟨(d, .bool false) :: t, h, nx⟩
        | .opt c _, s => match c with
          | false => K (some false) s
          | true => False
        | _, _ => False
      | none => False
    | none => False
def gtmps (all : List Oper) (o : Oper) : List Nat :=
  match o.guard with
  | none => []
  | some (j, _) => match nthO all j with
    | some oj => match oj.dst with
      | some d => [d]
      | none => []
    | none => []
def putK' (N : Nat) (s : St) (d : Option Nat) (v : V) (h : Heap) (nx : Nat) (K : St → Prop) : Prop :=
  match d with
  | some d => match Nat.blt d N, s with
    | true, ⟨t, _, _⟩ => forceV v fun v => forceN nx fun nx => K ⟨(d, v) :: t, h, nx⟩
    | false, _ => False
  | none => match s with | ⟨t, _, _⟩ => forceN nx fun nx => K ⟨t, h, nx⟩
def appendH : Heap → Heap → (Heap → Prop) → Prop
  | [], h, K => forceH h K
  | x :: r, h, K => appendH r h fun h' => K (x :: h')
def callK (P : Program) (s : St) (f : V) (args : List V) (K : V → Heap → Nat → Prop) : Prop :=
  match f with
  | .fn (.func fid) first cap => CallV P fid (first ++ args ++ cap) s.h s.nx K
  | .yld b => match hget s.h b with
    | some (.loop N t ps asg body .ready none) => RoundV P N b t ps asg body args s.h s.nx K
    | _ => False
  | _ => False
def skipK (g : Option Bool) (A B : Prop) : Prop :=
  match g with
  | some false => A
  | _ => B
def nextK (s : St) (x : Operand) (K : V → Heap → Prop) : Prop :=
  match ev s x with
  | .ptr b 0 => match hget s.h b with
    | some (.iter _ rest) => (rest = [] → K (.tup [.bool false]) s.h) ∧ ∀ (k : Nat) (kv : V × V), rest[k]? = some kv → K (.tup [.bool true, kv.1, kv.2]) ((b, some (.iter (some kv) (rest.eraseIdx k))) :: s.h)
    | _ => False
  | _ => False
def opK (P : Program) (T : Tab) (N : Nat) (all : List Oper) (o : Oper) (s : St) (K : St → Prop) : Prop :=
  guardK all s o fun g s => skipK g (putK' N s o.dst (.opt false .any) s.h s.nx K) (
    (fun (ex : Prop) => match o.op with
      | .call c => match c.callee with
        | .value f => argK none (ev s f) fun f => evs none s c.args.toList fun vs => callK P s f vs fun v h nx => putK' N s o.dst v h nx K
        | _ => ex
      | .next x false => nextK s x fun v h => putK' N s o.dst v h s.nx K
      | _ => ex) (exec T s none o fun val rd upd nx => appendH upd s.h fun h => putK' N s o.dst val h nx K))
def runOps (P : Program) (T : Tab) (N : Nat) (all : List Oper) : List Oper → St → (St → Prop) → Prop
  | [], s, K => K s
  | o :: r, s, K => opK P T N all o s fun s' => runOps P T N all r s' K
section sound
variable {P : Program} {T : Tab} {F : Fence} {N : Nat}
theorem get_put (t : List (Nat × V)) (h h' : Heap) (n n' : Nat) (d : Nat) (v : V) (i : Nat) : St.get ⟨(d, v) :: t, h', n'⟩ i = if d = i then v else St.get ⟨t, h, n⟩ i := by
  by_cases e : d = i
  · subst e; simp [St.get, look, Nat.beq_refl]
  · have : Nat.beq d i = false := by
      cases hb : Nat.beq d i with
      | false => rfl
      | true => exact absurd (Nat.eq_of_beq_eq_true hb) e
    simp [St.get, look, this, e]
theorem put_getD {a : Act} {d i : Nat} {u : Value} (hd : d < a.tmps.size) : (a.put (some d) u).tmps.getD i undef = if d = i then u else a.tmps.getD i undef := by
  simp only [Act.put, Array.getD_eq_getD_getElem?]
  by_cases e : d = i
  · subst e
    rw [Array.getElem?_setIfInBounds_self_of_lt hd]; simp
  · rw [Array.getElem?_setIfInBounds_ne e]; simp [e]
theorem guardK_out {all : List Oper} {s : St} {o : Oper} {K : Option Bool → St → Prop} (h : guardK all s o K) :
    ∃ g s1, K g s1 ∧ (∀ i, s1.get i = s.get i) ∧ s1.h = s.h ∧ s1.nx = s.nx ∧ (o.guard = none → g = none) ∧ ∀ (G : Gh) (a : Act) (w : World) (s' : St), Sim G N s' a w → (∀ i ∈ gtmps all o, s'.get i = s.get i) →
      (g = none → Region.wanted o (yielded all.toArray a.tmps) = true) ∧ ∀ b, g = some b → Region.wanted o (yielded all.toArray a.tmps) = b := by
  unfold guardK at h
  split at h
  · rename_i hg
    exact ⟨none, s, h, fun _ => rfl, rfl, rfl, fun _ => rfl, fun G a w s' hs hse => ⟨fun _ => by simp [Region.wanted, hg], fun b hb => by cases hb⟩⟩
  · rename_i j want hg
    split at h
    · rename_i oj hj
      split at h
      · rename_i d hd
        have hj' : all.toArray[j]? = some oj := by
          have key : ∀ (l : List Oper) (j : Nat), nthO l j = some oj → l[j]? = some oj := by
            intro l
            induction l with
            | nil => intro j h; simp [nthO] at h
            | cons x l ih =>
              intro j h
              cases j with
              | zero => simpa [nthO] using h
              | succ j => simpa [nthO] using ih j h
          simpa using key all j hj
        have hy1 : ∀ (a : Act) (b : Bool), a.tmps[d]? = some (.bool b) → yielded all.toArray a.tmps j = some b := by
          intro a b hb
          simp [yielded, hj', hd, hb]
        have hy0 : ∀ (a : Act), (∀ b, a.tmps[d]? ≠ some (.bool b)) → yielded all.toArray a.tmps j = none := by
          intro a hb
          unfold yielded
          rw [hj', Option.bind_some, hd, Option.bind_some]
          split
          · rename_i b hb'; exact absurd hb' (hb b)
          · rfl
        have hget : ∀ (G : Gh) (a : Act) (w : World) (s' : St), Sim G N s' a w → (∀ i ∈ gtmps all o, s'.get i = s.get i) → vr G w (s.get d) (a.tmps.getD d undef) := fun G a w s' hs hse => by
          have := hs.tmp d
          rw [hse d (by simp [gtmps, hg, hj, hd])] at this
          exact this
        have tm : ∀ (a : Act) (b : Bool), a.tmps.getD d undef = .bool b → a.tmps[d]? = some (.bool b) := by
          intro a b hb
          rw [Array.getD_eq_getD_getElem?] at hb
          cases hx : a.tmps[d]? with
          | none => rw [hx] at hb; simp [undef] at hb
          | some x => rw [hx] at hb; simp at hb; rw [hb]
        split at h
        · rename_i b t hp nx hb
          have h1 : ∀ (G : Gh) (a : Act) (w : World) (s' : St), Sim G N s' a w → (∀ i ∈ gtmps all o, s'.get i = (St.mk t hp nx).get i) → Region.wanted o (yielded all.toArray a.tmps) = (b == want) := by
            intro G a w s' hs hse
            have h1 := hget G a w s' hs hse
            rw [hb] at h1
            have h2 := tm a b (VR.bool_iff.1 h1)
            rw [Region.wanted, hg]
            simp only [hy1 a b h2]
            cases want <;> cases b <;> rfl
          have hsame : ∀ (x : Bool), x = b → ∀ i, (St.mk ((d, .bool x) :: t) hp nx).get i = (St.mk t hp nx).get i := by
            intro x hx i
            rw [get_put t hp hp nx nx d _ i]
            split
            · rename_i e; subst e; rw [hb, hx]
            · rfl
          split at h
          · exact ⟨_, _, h, hsame true rfl, rfl, rfl, (fun hn => by rw [hg] at hn; cases hn), fun G a w s' hs hse => ⟨(fun hn => by simp at hn), fun b' hb' => by cases hb'; rw [h1 G a w s' hs hse]; cases want <;> rfl⟩⟩
          · exact ⟨_, _, h, hsame false rfl, rfl, rfl, (fun hn => by rw [hg] at hn; cases hn), fun G a w s' hs hse => ⟨(fun hn => by simp at hn), fun b' hb' => by cases hb'; rw [h1 G a w s' hs hse]; cases want <;> rfl⟩⟩
        · rename_i c v s0 hb
          split at h
          · refine ⟨some false, _, h, fun _ => rfl, rfl, rfl, (fun hn => by rw [hg] at hn; cases hn), fun G a w s' hs hse => ⟨(fun hn => by simp at hn), fun b' hb' => ?_⟩⟩
            have h1 := hget G a w s' hs hse
            rw [hb] at h1
            cases hb'
            cases h1 with
            | opt _ _ _ hc h0 =>
              rw [Region.wanted, hg]
              have h2 := h0 rfl
              have h3 := hy0 a (fun b hb => by
                rw [Array.getD_eq_getD_getElem?, hb] at h2
                simp at h2)
              simp only [h3]
              rfl
          · exact h.elim
        · exact h.elim
      · exact h.elim
    · exact h.elim
theorem Sim.ext {G : Gh} {s s' : St} {a : Act} {w : World} (hs : Sim G N s a w) (h1 : ∀ i, s'.get i = s.get i) (h2 : s'.h = s.h) (h3 : s'.nx = s.nx) : Sim G N s' a w :=
  ⟨hs.size, fun i => by rw [h1]; exact hs.tmp i, by rw [h2, h3]; exact hs.hr⟩
theorem putK'_out {s : St} {d : Option Nat} {v : V} {h : Heap} {nx : Nat} {K : St → Prop} (hk : putK' N s d v h nx K) :
    ∃ s', K s' ∧ s'.h = h ∧ s'.nx = nx ∧ ∀ (G : Gh) (w : World) (a : Act) (u : Value), a.tmps.size = N → (∀ i, vr G w (s.get i) (a.tmps.getD i undef)) → vr G w v u → HR G h nx w → Sim G N s' (a.put d u) w := by
  obtain ⟨t, h0, n0⟩ := s
  unfold putK' at hk
  simp only [forceV_eq, forceN_eq] at hk
  cases d with
  | none => exact ⟨_, hk, rfl, rfl, fun G w a u hN hs hv hr => ⟨hN, hs, hr⟩⟩
  | some d' =>
    cases hlt : Nat.blt d' N with
    | false => simp only [hlt] at hk
    | true =>
      simp only [hlt] at hk
      have hlt : d' < N := by simpa [Nat.blt_eq] using hlt
      refine ⟨_, hk, rfl, rfl, fun G w a u hN hs hv hr => ⟨by simp [Act.put, hN], fun i => ?_, hr⟩⟩
      rw [put_getD (by omega), get_put t h0 h n0 nx]
      split
      · exact hv
      · exact hs i
theorem appendH_out : ∀ {u h : Heap} {K : Heap → Prop}, appendH u h K → K (u ++ h)
  | [], h, K, hk => by unfold appendH at hk; rw [forceH_eq] at hk; exact hk
  | x :: r, h, K, hk => appendH_out (u := r) (K := fun h' => K (x :: h')) hk
theorem vrs.nil {G : Gh} {w : World} : vrs G w [] [] := ⟨rfl, by simp⟩
theorem call_run {f : FuncId} (hc : ∃ fn, P.funcs[f]? = some fn ∧ fn.body.isSome = true ∧ fn.name ≠ "runtime.NumGoroutine") (us : List Value) (w : World) : (callFunc f us.toArray).run P w = .ok (.enter f us.toArray) w := by
  obtain ⟨fn, h1, h2, h3⟩ := hc
  have h4 : (fn.name == "runtime.NumGoroutine") = false := by simpa using h3
  have h5 : fn.body.isNone = false := by cases hb : fn.body <;> simp [hb] at h2 ⊢
  simp only [callFunc, Sem.run_bind, run_program, Result.andThen_ok, h1, h4, h5, Bool.false_eq_true, if_false, Sem.run_pure]
def Goes (F : Fence) (n : Nat) (P : Program) (all : List Oper) (o : Oper) (a : Act) (w : World) (next : Act → World → Prop) (Q : Exit → Act → World → Prop) : Prop :=
  if Region.wanted o (yielded all.toArray a.tmps) then o.wpIn F n P a w next Q else (∀ f, o.about P w a.eval = some f → F.fn f) ∧ next (a.put o.dst undef) w
theorem exec_not_defer {s : St} {g : Option Bool} {o : Oper} {K : OK} (h : exec T s g o K) : ∀ c, o.op ≠ .defer c := by
  intro c hc
  simp only [exec, hc] at h
theorem opK_ok (hT : TabOk P T) (hF : FW F) {all : List Oper} {o : Oper} {s : St} {K : St → Prop} (h : opK P T N all o s K) {base n : Nat} {G : Gh} {a : Act} {w : World} (hs : Sim G N s a w) (hb : base ≤ s.nx)
    {next : Act → World → Prop} {Q : Exit → Act → World → Prop} (hnext : ∀ s' a' w' G', K s' → Sim G' N s' a' w' → Evo base G w G' w' → base ≤ s'.nx → a'.defers = a.defers → next a' w') :
    Goes F n P all o a w next Q := by
  unfold opK at h
  obtain ⟨g, s1, h', hse1, hse2, hse3, hgn, hw⟩ := guardK_out (N := N) h; clear h; have h := h'; clear h'
  replace hw : ∀ (G : Gh) (a : Act) (w : World), Sim G N s1 a w → (g = none → Region.wanted o (yielded all.toArray a.tmps) = true) ∧ ∀ b, g = some b → Region.wanted o (yielded all.toArray a.tmps) = b := fun G a w hs => hw G a w s1 hs (fun i _ => hse1 i)
  replace hs : Sim G N s1 a w := hs.ext hse1 hse2 hse3
  replace hb : base ≤ s1.nx := by omega
  clear hse1 hse2 hse3
  clear s
  obtain ⟨s, rfl⟩ : ∃ s', s' = s1 := ⟨s1, rfl⟩
  have defs : ∀ u, (a.put o.dst u).defers = a.defers := by intro u; cases o.dst <;> rfl
  have hskip : g = some false → putK' N s o.dst (.opt false .any) s.h s.nx K → Goes F n P all o a w next Q := by
    rintro rfl hk
    obtain ⟨s', hKs, e1, e2, hput⟩ := putK'_out hk
    unfold Goes
    rw [if_neg (by rw [(hw G a w hs).2 false rfl]; simp)]
    exact ⟨fun f _ => hF.fn f, hnext s' _ w G hKs (hput G w a undef hs.size hs.tmp (.opt _ _ _ (fun h => by cases h) (fun _ => rfl)) hs.hr) (Evo.refl _ _ _) (by omega) (defs undef)⟩
  unfold skipK at h
  split at h
  · exact hskip rfl h
  rename_i hne
  have hwt : Region.wanted o (yielded all.toArray a.tmps) = true := by
    rcases g with _ | gb
    · exact (hw G a w hs).1 rfl
    · cases gb with
      | true => exact (hw G a w hs).2 true rfl
      | false => exact absurd rfl hne
  clear hskip hne hw hgn
  -- an operation that is no call
  have plain : (exec T s none o fun val rd upd nx => appendH upd s.h fun h => putK' N s o.dst val h nx K) → Goes F n P all o a w next Q := by
    intro h
    have hnd := exec_not_defer h
    obtain ⟨val, rd, upd, nx', hK, hrd, hop, _⟩ := exec_ok hT ⟨G, N, a, w, hs⟩ h
    have hK := appendH_out hK
    obtain ⟨s', hKs, e1, e2, hput⟩ := putK'_out hK
    unfold Goes
    rw [if_pos hwt]
    obtain ⟨hle, hop⟩ := hop (.inl rfl)
    have hmax : max s.nx nx' = nx' := Nat.max_eq_right hle
    have hrd : ∀ b ob, (b, ob) ∈ rd → hget s.h b = ob := by
      intro b ob hm
      rcases hrd b ob hm with h | ⟨rfl, h⟩
      · exact h
      · cases hx : hget s.h b with
        | none => rfl
        | some blk => have := hs.hr.hdom b blk hx; omega
    obtain ⟨u, w', G', hy, hv, hr, hid, he⟩ := hop G N a w s hs (fun _ _ => rfl) hrd (fun b hb1 _ => hs.hr.dom b hb1)
    rw [hmax] at hr
    refine ⟨fun f _ => hF.fn f, ?_⟩
    rw [Oper.semAt_eq _ _ _ hnd]
    have hsim : Sim G' N s' (a.put o.dst u) w' := hput G' w' a u hs.size (fun i => he.vr (hs.tmp i)) hv hr
    have hfin := hnext s' (a.put o.dst u) w' G' hKs hsim (he base) (by omega) (defs u)
    rcases hy with hy | ⟨hy, rfl⟩
    · rw [hy]; exact hfin
    · rw [hy]; exact hfin
  split at h
  · rename_i c ho
    split at h
    · rename_i f hcal
      obtain ⟨fv, h', hfv⟩ := argK_out h; clear h; have h := h'; clear h'
      obtain ⟨vs, h', hlen, hvs⟩ := evs_out h; clear h; have h := h'; clear h'
      have hfm : f ∈ o.op.operands := by rw [ho]; simp [Op.operands, Call.operands, hcal]
      have ham : ∀ x ∈ c.args.toList, x ∈ o.op.operands := by
        intro x hx
        have hx' := Array.mem_toList_iff.1 hx
        rw [ho]; simp [Op.operands, Call.operands, hcal, hx']
      unfold callK at h
      split at h
      · rename_i fid first cap
        have hnd : ∀ c', o.op ≠ .defer c' := by rw [ho]; simp
        -- the call, made
        have made : ∀ {R : V → Heap → Nat → Prop}, CallV P fid (first ++ vs ++ cap) s.h s.nx R →
            (∀ u v h' nx' G' w', R v h' nx' → vr G' w' v u → HR G' h' nx' w' → Evo s.nx G w G' w' → s.nx ≤ nx' → next (a.put o.dst u) w') → o.wpIn F n P a w next Q := by
          intro R hc hk
          refine ⟨fun f _ => hF.fn f, ?_⟩
          rw [Oper.semAt_eq _ _ _ hnd]
          have hfv := hfv (.inl rfl) G w _ (ev_vr hs f (fun _ _ => rfl))
          have hvs := hvs (.inl rfl) G N a w s hs (fun _ _ _ _ => rfl)
          generalize hfu : a.eval f = fu at hfv
          cases hfv with
          | fn _ _ _ us ws hf1 hc1 h1 h2 =>
            have hargs : vrs G w (first ++ vs ++ cap) (us ++ c.args.toList.map a.eval ++ ws) := by
              refine (vrs.append ⟨hf1, h1⟩ ⟨by rw [hlen]; simp, fun j v u q1 q2 => ?_⟩).append ⟨hc1, h2⟩
              rw [List.getElem?_map] at q2
              obtain ⟨x, hx, rfl⟩ := Option.map_eq_some_iff.1 q2
              exact hvs j v x q1 hx
            have e : us.toArray ++ c.args.map a.eval ++ ws.toArray = (us ++ c.args.toList.map a.eval ++ ws).toArray := by apply Array.ext'; simp
            rcases hc.2 G w _ hs.hr hargs with ⟨hbd, hcs⟩ | ⟨_, u, w', hext, ⟨u', v, h', nx', G', hu', hR, hv, hr, he, hle⟩⟩
            rotate_left
            · cases hu'
              have hrun : (execOp a.eval o).run P w = .ok (.value u) w' := by
                simp only [execOp, ho, Sem.run_bind, resolve, hcal, hfu, Deferred.ofValue, Sem.run_pure, Result.andThen_ok, invoke]
                rw [e, hext]
              rw [hrun]
              exact hk u v h' nx' G' w' hR hv hr he hle
            have hrun : (execOp a.eval o).run P w = .ok (.enter fid (us ++ c.args.toList.map a.eval ++ ws).toArray) w := by
              have := call_run hbd (us ++ c.args.toList.map a.eval ++ ws) w
              simp only [execOp, ho, Sem.run_bind, resolve, hcal, hfu, Deferred.ofValue, Sem.run_pure, Result.andThen_ok, invoke]
              rw [e, this]
            rw [hrun]
            refine ⟨fun hd => by rw [hF.depth] at hd; simp at hd, hF.call (hcs.mono ?_)⟩
            rintro e w' ⟨u, v, h', nx', G', rfl, hR, hv, hr, he, hle⟩
            exact hk u v h' nx' G' w' hR hv hr he hle
        have dm : ∀ b, s.nx ≤ b → G.ι b = none := hs.hr.dom
        unfold Goes
        rw [if_pos hwt]
        refine made h fun u v h' nx' G' w' hR hv hr he hle => ?_
        obtain ⟨s', hKs, e1, e2, hput⟩ := putK'_out hR
        exact hnext s' _ w' G' hKs (hput G' w' a u hs.size (fun i => he.vr dm (hs.tmp i)) hv hr) (he.less hb) (by omega) (defs u)
      · rename_i b
        split at h
        · rename_i N' t ps asg body hb'
          obtain ⟨hlen', hps, hlb, hR⟩ := h
          have hnd : ∀ c', o.op ≠ .defer c' := by rw [ho]; simp
          have hfv := hfv (.inl rfl) G w _ (ev_vr hs f (fun _ _ => rfl))
          have hvs := hvs (.inl rfl) G N a w s hs (fun _ _ _ _ => rfl)
          generalize hfu : a.eval f = fu at hfv
          cases hfv with
          | yld _ c1 hι =>
            obtain ⟨c2, r, r1, r2, r3, r4, r5, r6, r7, r8, r9, _⟩ := hs.hr.loopTo hb'
            rw [hι] at r1
            obtain rfl : c1 = c2 := Option.some.inj r1
            have hargs : vrs G w vs (c.args.toList.map a.eval) := ⟨by rw [hlen]; simp, fun j v u q1 q2 => by
              rw [List.getElem?_map] at q2
              obtain ⟨x, hx, rfl⟩ := Option.map_eq_some_iff.1 q2
              exact hvs j v x q1 hx⟩
            have hz := zipPs_ok (ps := ps) (t := t) hargs hps r8 r9
            have hrun : (execOp a.eval o).run P w = .ok (.round c1 r.fn ((ps.zip (c.args.toList.map a.eval)).foldl (fun (A : Array Value) (x : Nat × Value) => A.setIfInBounds x.1 x.2) r.tmps) r.assign r.body) w := by
              have e0 : (#[] ++ c.args.map a.eval : Array Value) = (c.args.toList.map a.eval).toArray := by apply Array.ext'; simp
              have := run_yield (P := P) (args := (c.args.toList.map a.eval).toArray) r2 (by rw [r5]; simp; rw [← hlen', hlen]; simp)
              simp only [execOp, ho, Sem.run_bind, resolve, hcal, hfu, Deferred.ofValue, Sem.run_pure, Result.andThen_ok, invoke]
              rw [e0, this]
              rw [r5]
              congr 2
              rw [← Array.foldl_toList]
              simp
            have dm : ∀ b, s.nx ≤ b → G.ι b = none := hs.hr.dom
            unfold Goes
            rw [if_pos hwt]
            refine ⟨fun f _ => hF.fn f, ?_⟩
            rw [Oper.semAt_eq _ _ _ hnd, hrun]
            refine ⟨fun hd => by rw [hF.depth] at hd; simp at hd, roundIn_of_wpIn (hF.fn _) ?_⟩
            rw [r6, r7]
            refine wpIn_mono (hR (F.inRound c1) (hF.round c1) (n - 1) G _ w ⟨hz.1, hz.2, hs.hr⟩ (Nat.le_refl _)) ?_
            rintro e1 a1 w1 ⟨e', s1, G1, rfl, hq, hs1, he1, hb1, hd1⟩
            cases e' with
            | exit id => exact hq.elim
            | goto l => exact hq.elim
            | ret => exact hq.elim
            | normal =>
              obtain ⟨hq1, hq2⟩ := hq
              obtain ⟨c3, r', p1, p2, p3, p4, p5, p6, p7, p8, p9, pto⟩ := hs1.hr.loopTo hq1
              have e3 := he1.ids b c1 hlb hι
              rw [e3] at p1
              obtain rfl : c1 = c3 := Option.some.inj p1
              obtain ⟨k1, k2⟩ := pto .busy none
              have e4 : ({ r' with state := .busy } : Loop) = { r' with state := .busy, pending := none } := by rw [← p4]
              refine ⟨_, run_beginRound p2 p3, ?_⟩
              rw [e4]
              refine wpIn_mono (hq2 (n - 1) G1 a1 _ ⟨hs1.size, fun i => k2.vr (hs1.tmp i), k1⟩ hb1) ?_
              rintro e2 a2 w2 ⟨e2', s2, G2, rfl, hq3, hs2, he2, hb2, hd2⟩
              obtain ⟨hq3, hK⟩ := hq3
              obtain ⟨c4, r'', z1, z2, z3, z4, z5, z6, z7, z8, z9, zto⟩ := hs2.hr.loopTo hq3
              have e5 := he2.ids b c1 hlb e3
              rw [e5] at z1
              obtain rfl : c1 = c4 := Option.some.inj z1
              have hend : ∀ (st : LoopState) (pend : Option Code) (v : Value), (Instr.endRound c1 pend).run P w2 = .ok v (w2.putObj c1 (.loop { r'' with state := st, pending := pend })) →
                  ∀ vv, vr G2 (w2.putObj c1 (.loop { r'' with state := st, pending := pend })) vv v → putK' N s o.dst vv ((b, some (.loop N' t ps asg body st pend)) :: s2.h) s2.nx K →
                  ∃ v' w', (Instr.endRound c1 pend).run P w2 = .ok v' w' ∧ next (a.put o.dst v') w' := by
                intro st pend v hr vv hv hk
                obtain ⟨y1, y2⟩ := zto st pend
                obtain ⟨s', hKs, q1, q2, hput⟩ := putK'_out hk
                have hev : Evo s.nx G w G2 (w2.putObj c1 (.loop { r'' with state := st, pending := pend })) := ((he1.trans (k2 s.nx)).trans he2).trans (y2 s.nx)
                exact ⟨v, _, hr, hnext s' _ _ G2 hKs (hput G2 _ a v hs.size (fun i => hev.vr dm (hs.tmp i)) hv y1) (hev.less hb) (by omega) (defs v)⟩
              cases e2' with
              | normal => exact hend .ready none (.bool true) (run_endRound none z2) _ (.bool true) hK
              | exit id => exact hend .done (some (.exit id)) (.bool false) (run_endRound (some (.exit id)) z2) _ (.bool false) hK
              | goto l => exact hend .done (some (.goto l)) (.bool false) (run_endRound (some (.goto l)) z2) _ (.bool false) hK
              | ret => exact hend .done (some .ret) (.bool false) (run_endRound (some .ret) z2) _ (.bool false) hK
        · exact h.elim
      · exact h.elim
    · exact plain h
  · rename_i x ho
    unfold nextK at h
    split at h
    case h_2 => exact h.elim
    rename_i b hx
    split at h
    case h_2 => exact h.elim
    rename_i cur rest hb0
    obtain ⟨h0, h1⟩ := h
    have hnd : ∀ c', o.op ≠ .defer c' := by rw [ho]; simp
    have hvx := ev_vr hs x (fun _ _ => rfl)
    rw [hx] at hvx
    generalize hux : a.eval x = ux at hvx
    cases hvx with
    | ptr _ _ c hι =>
      obtain ⟨c', g1, g2⟩ : IterH G w b cur rest := hs.hr.own b (.iter cur rest) hb0
      rw [hι] at g1
      obtain rfl : c = c' := Option.some.inj g1
      have over : rest = [] → (Instr.next (.pointer (some ⟨c, 0, none⟩)) false o.type).run P w = .ok (.tuple #[.bool false]) w → Goes F n P all o a w next Q := by
        intro hre hrun
        obtain ⟨s', hKs, e1, e2, hput⟩ := putK'_out (h0 hre)
        unfold Goes
        rw [if_pos hwt]
        refine ⟨fun f _ => hF.fn f, ?_⟩
        rw [Oper.semAt_eq _ _ _ hnd]
        have : (execOp a.eval o).run P w = .ok (.value (.tuple #[.bool false])) w := by simp only [execOp, ho, hux, Sem.run_bind, hrun, Result.andThen_ok, Sem.run_pure]
        rw [this]
        exact hnext s' _ w G hKs (hput G w a _ hs.size hs.tmp (.tup [.bool false] [.bool false] rfl fun j v u q1 q2 => by
          match j, q1, q2 with
          | 0, q1, q2 => cases q1; cases q2; exact .bool _) hs.hr) (Evo.refl _ _ _) (by omega) (defs _)
      rcases g2 with ⟨rfl, rfl, g2⟩ | ⟨cm, arr, clk, fr, seen, idx, g2, g3, g4, g5, g6, g7, g8, g9⟩
      · refine over rfl ?_
        simp only [Instr.next, Sem.run_bind, getObj, Sem.run, g2, Result.andThen]
        rfl
      · have hm := rd_map.1 g3.1
        rcases run_next_at (P := P) w o.type c cm clk clk seen arr clk g2 hm g4.2.1 (Nat.le_refl _) with ⟨q1, q2⟩ | ⟨e, he, w1, hw1, hrun⟩
        · refine over ?_ q2
          have hidx : idx = [] := by
            cases hi : idx with
            | nil => rfl
            | cons j r =>
              obtain ⟨e, he, hns⟩ := (g6 j).1 (by rw [hi]; simp)
              have : e ∈ (leftOf arr seen).toList := by
                have := List.mem_of_getElem? he
                simp [leftOf]
                exact ⟨by simpa using this, by simpa using hns⟩
              have hz : (leftOf arr seen).toList = [] := List.eq_nil_of_length_eq_zero (by simpa using q1)
              rw [hz] at this
              simp at this
          exact List.eq_nil_of_length_eq_zero (by rw [g7, hidx]; rfl)
        · have hel : e ∈ arr.toList ∧ e.born ∉ seen.toList := by
            simp [leftOf] at he
            exact ⟨by simpa using he.1, by simpa using he.2⟩
          obtain ⟨j, hj, hje⟩ := List.mem_iff_getElem.1 hel.1
          have hjm : j ∈ idx := (g6 j).2 ⟨e, by rw [List.getElem?_eq_getElem hj, hje], hel.2⟩
          obtain ⟨k, hk, hkj⟩ := List.mem_iff_getElem.1 hjm
          have hk' : k < rest.length := by omega
          have hK := h1 k _ (List.getElem?_eq_getElem hk')
          obtain ⟨s', hKs, e1, e2, hput⟩ := putK'_out hK
          have hr1 : HR G s.h s.nx w1 ∧ EvoA G w G w1 := by
            rcases hw1 with rfl | rfl
            · exact ⟨hs.hr, EvoA.refl _ _⟩
            · exact ⟨hs.hr.drew, EvoA.drew⟩
          have g2' : w1.heap[c]? = some (.mapIter (some cm) clk seen clk) := by rcases hw1 with rfl | rfl <;> exact g2
          have hcs : ∀ m, csz w1 c ≠ some m := fun m hm => by unfold csz at hm; rw [g2'] at hm; cases hm
          have hap := hs.hr.apart b _ c hb0 hι
          have he2 : EvoA G w1 G (w1.putObj c (.mapIter (some cm) clk (seen.push e.born) clk)) := EvoA.putO g2' hcs hap hι
          have he3 := hr1.2.trans he2
          have hkey := g8 k j _ e (by rw [List.getElem?_eq_getElem hk, hkj]) (List.getElem?_eq_getElem hk') (by rw [List.getElem?_eq_getElem hj, hje])
          have hr2 := HR.putO hr1.1 hb0 hι g2' hcs (.iter (some rest[k]) (rest.eraseIdx k)) (o' := .mapIter (some cm) clk (seen.push e.born) clk) ⟨c, hι, .inr ⟨cm, arr, clk, fr, seen.push e.born, idx.eraseIdx k, World.putObj_heap_same (lt_of_heap g2'), (he3 0).imm g3, g4, g5.sublist (List.eraseIdx_sublist _ _), fun j' => ?_, by simp [List.length_eraseIdx, g7, hk], fun i j' kv e' z1 z2 z3 => ?_, fun kv hkv => ?_⟩⟩
          rotate_left
          · have hb2 : ∀ {i1 i2 : Nat} {x1 x2 : MapEntry}, arr.toList[i1]? = some x1 → arr.toList[i2]? = some x2 → x1.born = x2.born → i1 = i2 := by
              intro i1 i2 x1 x2 y1 y2 y3
              obtain ⟨l1, rfl⟩ := List.getElem?_eq_some_iff.1 y1
              obtain ⟨l2, rfl⟩ := List.getElem?_eq_some_iff.1 y2
              have := g4.1
              rcases Nat.lt_trichotomy i1 i2 with hh | hh | hh
              · exact absurd (by simpa using y3) (by have := List.pairwise_iff_getElem.1 this i1 i2 (by simpa using l1) (by simpa using l2) hh; simpa using this)
              · exact hh
              · exact absurd (by simpa using y3.symm) (by have := List.pairwise_iff_getElem.1 this i2 i1 (by simpa using l2) (by simpa using l1) hh; simpa using this)
            rw [List.mem_eraseIdx_iff_getElem?]
            constructor
            · rintro ⟨i, hne, hi⟩
              obtain ⟨e', q1, q2⟩ := (g6 j').1 (List.mem_of_getElem? hi)
              refine ⟨e', q1, ?_⟩
              rw [Array.toList_push, List.mem_append, not_or]
              refine ⟨q2, fun hc => ?_⟩
              have hc : e'.born = e.born := by simpa using hc
              have : j' = j := hb2 q1 (by rw [List.getElem?_eq_getElem hj, hje]) hc
              subst this
              obtain ⟨l1, hl1⟩ := List.getElem?_eq_some_iff.1 hi
              rcases Nat.lt_or_gt_of_ne hne with hh | hh
              · exact List.pairwise_iff_getElem.1 g5 i k l1 hk hh (by rw [hl1, hkj])
              · exact List.pairwise_iff_getElem.1 g5 k i hk l1 hh (by rw [hl1, hkj])
            · rintro ⟨e', q1, q2⟩
              rw [Array.toList_push, List.mem_append, not_or] at q2
              have hm' := (g6 j').2 ⟨e', q1, q2.1⟩
              obtain ⟨i, hi, hij⟩ := List.mem_iff_getElem.1 hm'
              refine ⟨i, fun hik => ?_, by rw [List.getElem?_eq_getElem hi, hij]⟩
              subst hik
              have : j' = j := by rw [← hij, hkj]
              subst this
              rw [List.getElem?_eq_getElem hj, hje] at q1
              cases q1
              exact q2.2 (by simp)
          · rw [List.getElem?_eraseIdx] at z1 z2
            by_cases hik : i < k
            · rw [if_pos hik] at z1 z2
              have := g8 i j' kv e' z1 z2 z3
              exact ⟨he3.vr this.1, he3.vr this.2⟩
            · rw [if_neg hik] at z1 z2
              have := g8 (i + 1) j' kv e' z1 z2 z3
              exact ⟨he3.vr this.1, he3.vr this.2⟩
          · cases hkv
            exact ⟨j, e, by rw [List.getElem?_eq_getElem hj, hje], by simp, he3.vr hkey.1, he3.vr hkey.2⟩
          unfold Goes
          rw [if_pos hwt]
          refine ⟨fun f _ => hF.fn f, ?_⟩
          rw [Oper.semAt_eq _ _ _ hnd]
          have : (execOp a.eval o).run P w = .ok (.value (.tuple #[.bool true, e.key, e.val])) (w1.putObj c (.mapIter (some cm) clk (seen.push e.born) clk)) := by
            simp only [execOp, ho, hux, Sem.run_bind, hrun, Result.andThen_ok, Sem.run_pure]
            rfl
          rw [this]
          exact hnext s' _ _ G hKs (hput G _ a _ hs.size (fun i => he3.vr (hs.tmp i)) (.tup [.bool true, rest[k].1, rest[k].2] [.bool true, e.key, e.val] rfl fun i v u q1 q2 => by
            match i, q1, q2 with
            | 0, q1, q2 => cases q1; cases q2; exact .bool _
            | 1, q1, q2 => cases q1; cases q2; exact he3.vr hkey.1
            | 2, q1, q2 => cases q1; cases q2; exact he3.vr hkey.2) hr2) (he3 base) (by omega) (defs _)
  · exact plain h
theorem runOps_ok (hT : TabOk P T) (hF : FW F) {all : List Oper} {base n : Nat} {Q : Exit → Act → World → Prop} : ∀ {rest : List Oper} {k : Nat} {s : St} {K : St → Prop}, (∀ i, rest[i]? = all[k + i]?) → runOps P T N all rest s K →
    ∀ {G : Gh} {a : Act} {w : World}, Sim G N s a w → base ≤ s.nx →
      (∀ s' a' w' G', K s' → Sim G' N s' a' w' → Evo base G w G' w' → base ≤ s'.nx → a'.defers = a.defers → Q .normal a' w') → wpOpsIn F n P all.toArray Q (List.range' k rest.length) a w
  | [], k, s, K, hk, h, G, a, w, hs, hb, hQ => hQ s a w G h hs (Evo.refl _ _ _) hb rfl
  | o :: r, k, s, K, hk, h, G, a, w, hs, hb, hQ => by
    have ho : all.toArray[k]? = some o := by have := hk 0; simpa using this.symm
    have hg := opK_ok (n := n) hT hF (Q := Q) (next := wpOpsIn F n P all.toArray Q (List.range' (k + 1) r.length)) h hs hb (fun s' a' w' G' hK hs' he hb' hd =>
      runOps_ok hT hF (rest := r) (k := k + 1) (fun i => by have := hk (i + 1); simpa [Nat.add_assoc, Nat.add_comm 1 i] using this) hK hs' hb'
        (fun s2 a2 w2 G2 q1 q2 q3 q4 q5 => hQ s2 a2 w2 G2 q1 q2 (he.trans q3) q4 (q5.trans hd)))
    rw [List.length_cons, List.range'_succ]
    unfold Goes at hg
    simp only [wpOpsIn, ho]
    exact hg
theorem vc_skip {base : Nat} {s : St} {Q : Ex → St → Prop} (h : Q .normal s) : VC P F N base .skip s Q := fun n G a w hs hb => wpIn_skip ⟨.normal, s, G, rfl, h, hs, Evo.refl _ _ _, hb, Dfr.refl _ _ _ _⟩
theorem vc_exit {base id : Nat} {s : St} {Q : Ex → St → Prop} (h : Q (.exit id) s) : VC P F N base (.exit id) s Q := fun n G a w hs hb => wpIn_exit ⟨.exit id, s, G, rfl, h, hs, Evo.refl _ _ _, hb, Dfr.refl _ _ _ _⟩
theorem vc_goto {base id : Nat} {s : St} {Q : Ex → St → Prop} (h : Q (.goto id) s) : VC P F N base (.goto id) s Q := fun n G a w hs hb => wpIn_goto ⟨.goto id, s, G, rfl, h, hs, Evo.refl _ _ _, hb, Dfr.refl _ _ _ _⟩
theorem vc_ret {base : Nat} {s : St} {Q : Ex → St → Prop} (h : Q .ret s) : VC P F N base .ret s Q := fun n G a w hs hb => wpIn_ret ⟨.ret, s, G, rfl, h, hs, Evo.refl _ _ _, hb, Dfr.refl _ _ _ _⟩
def thenK (K : St → Prop) (Q : Ex → St → Prop) : Ex → St → Prop
  | .normal, s => K s
  | e, s => Q e s
theorem vc_seq {base : Nat} {x y : Code} {s : St} {Q : Ex → St → Prop} (h : VC P F N base x s (thenK (fun s' => VC P F N base y s' Q) Q)) : VC P F N base (.seq x y) s Q := by
  intro n G a w hs hb
  refine wpIn_seq (wpIn_mono (h n G a w hs hb) ?_)
  rintro e a' w' ⟨e', s', G', rfl, hq, hs', he, hb', hd⟩
  cases e' with
  | normal => exact wpIn_mono (hq n G' a' w' hs' hb') (fun e2 a2 w2 hp => hp.evo he hd)
  | exit id => exact ⟨.exit id, s', G', rfl, hq, hs', he, hb', hd⟩
  | goto l => exact ⟨.goto l, s', G', rfl, hq, hs', he, hb', hd⟩
  | ret => exact ⟨.ret, s', G', rfl, hq, hs', he, hb', hd⟩
theorem vc_cond {base : Nat} {c : Operand} {x y : Code} {s : St} {Q : Ex → St → Prop} {b : Bool} (hc : ev s c = .bool b) (h1 : b = true → VC P F N base x s Q) (h2 : b = false → VC P F N base y s Q) : VC P F N base (.cond c x y) s Q := by
  intro n G a w hs hb
  have hv := ev_vr hs c (fun _ _ => rfl)
  rw [hc] at hv
  exact wpIn_cond_split (VR.bool_iff.1 hv) (fun e => h1 e n G a w hs hb) (fun e => h2 e n G a w hs hb)
theorem vc_ucond {base : Nat} {c : Operand} {x y : Code} {s : St} {Q : Ex → St → Prop} (hc : ev s c = .ubool) (h1 : VC P F N base x s Q) (h2 : VC P F N base y s Q) : VC P F N base (.cond c x y) s Q := by
  intro n G a w hs hb
  have hv := ev_vr hs c (fun _ _ => rfl)
  rw [hc] at hv
  obtain ⟨b, hb'⟩ : ∃ b, a.eval c = .bool b := by
    generalize a.eval c = u at hv
    cases hv; exact ⟨_, rfl⟩
  exact wpIn_cond_split hb' (fun _ => h1 n G a w hs hb) (fun _ => h2 n G a w hs hb)
def blockK (id : Nat) (Q : Ex → St → Prop) : Ex → St → Prop
  | .exit j, s => match Nat.beq j id with | true => Q .normal s | false => Q (.exit j) s
  | e, s => Q e s
theorem vc_block {base id : Nat} {x : Code} {s : St} {Q : Ex → St → Prop} (h : VC P F N base x s (blockK id Q)) : VC P F N base (.block id x) s Q := by
  intro n G a w hs hb
  refine wpIn_block (wpIn_mono (h n G a w hs hb) ?_)
  rintro e a' w' ⟨e', s', G', rfl, hq, hs', he, hb', hd⟩
  cases e' with
  | normal => exact ⟨.normal, s', G', rfl, hq, hs', he, hb', hd⟩
  | exit j =>
    simp only [blockK] at hq
    by_cases hj : j = id
    · subst hj
      simp only [Nat.beq_refl] at hq
      simp only [Ex.to, Exit.inBlock, if_true]
      exact ⟨.normal, s', G', rfl, hq, hs', he, hb', hd⟩
    · have : Nat.beq j id = false := by
        cases hx : Nat.beq j id with
        | false => rfl
        | true => exact absurd (Nat.eq_of_beq_eq_true hx) hj
      simp only [this] at hq
      simp only [Ex.to, Exit.inBlock, hj, if_false]
      exact ⟨.exit j, s', G', rfl, hq, hs', he, hb', hd⟩
  | goto l => exact ⟨.goto l, s', G', rfl, hq, hs', he, hb', hd⟩
  | ret => exact ⟨.ret, s', G', rfl, hq, hs', he, hb', hd⟩
theorem vc_region (hT : TabOk P T) (hF : FW F) {base id : Nat} {ops : Array Oper} {s : St} {Q : Ex → St → Prop} (h : runOps P T N ops.toList ops.toList s (Q .normal)) : VC P F N base (.region id ops false) s Q := by
  intro n G a w hs hb
  refine wpIn_region ?_
  have := runOps_ok (n := n) hT hF (rest := ops.toList) (all := ops.toList) (k := 0) (base := base) (Q := Post N base G w a.defers Q) (fun i => by simp) h hs hb (fun s' a' w' G' q1 q2 q3 q4 q5 => ⟨.normal, s', G', rfl, q1, q2, q3, q4, Dfr.of_eq q5⟩)
  rw [List.range_eq_range']
  simpa using this
def Wk (base N : Nat) (s s' : St) : Prop := ∀ G a w, Sim G N s a w → base ≤ s.nx → ∃ G', Sim G' N s' a w ∧ Evo base G w G' w ∧ base ≤ s'.nx
theorem Wk.refl (base N : Nat) (s : St) : Wk base N s s := fun G a w hs hb => ⟨G, hs, Evo.refl _ _ _, hb⟩
theorem vc_loop {base : Nat} {c : Code} {s : St} {Q : Ex → St → Prop} {S : Type} (st : S → St) (μ : S → Nat) (i0 : S) (h0 : Wk base N s (st i0))
    (h : ∀ i, VC P F N base c (st i) (thenK (fun s' => ∃ j, Wk base N s' (st j) ∧ μ j < μ i) Q)) : VC P F N base (.loop c) s Q := by
  intro n G a w hs hb b k cs hro hfn hroom
  have key : ∀ m i (a1 : Act) (w1 : World) (G1 : Gh), μ i = m → Sim G1 N (st i) a1 w1 → Evo base G w G1 w1 → base ≤ (st i).nx → Dfr w G1 w1 a.defers a1.defers →
      ∃ e a' w', Post N base G w a.defers Q e a' w' ∧ ArrivesIn (Machine.fenced P F) P (lone (b.atR a1 (.code c :: .inLoop c :: k)) cs w1) b k cs e a' w' := by
    intro m
    induction m using Nat.strongRecOn with
    | _ m ih =>
      intro i a1 w1 G1 hm hs1 he1 hb1 hd1
      obtain ⟨e, a2, w2, ⟨e', s2, G2, rfl, hq, hs2, he2, hb2, hd2⟩, harr⟩ := h i n G1 a1 w1 hs1 hb1 b (.inLoop c :: k) cs hro hfn hroom
      cases e' with
      | normal =>
        obtain ⟨j, hw, hlt⟩ := hq
        obtain ⟨G3, hs3, he3, hb3⟩ := hw G2 a2 w2 hs2 hb2
        obtain ⟨e, a', w', hp, harr2⟩ := ih (μ j) (hm ▸ hlt) j a2 w2 G3 rfl hs3 ((he1.trans he2).trans he3) hb3 ((hd1.trans he2 he1.size hd2).evo he3)
        exact ⟨e, a', w', hp, .of_steps (StepsIn.trans harr (.one (fenced_calm hfn hroom rfl) stepR_inLoop)) harr2⟩
      | exit id => exact ⟨.exit id, a2, w2, ⟨.exit id, s2, G2, rfl, hq, hs2, he1.trans he2, hb2, hd1.trans he2 he1.size hd2⟩, .pass (x := .inLoop c) rfl (fun _ _ => .inl (by simp)) harr⟩
      | goto l => exact ⟨.goto l, a2, w2, ⟨.goto l, s2, G2, rfl, hq, hs2, he1.trans he2, hb2, hd1.trans he2 he1.size hd2⟩, .pass (x := .inLoop c) rfl (fun _ _ => .inl (by simp)) harr⟩
      | ret => exact ⟨.ret, a2, w2, ⟨.ret, s2, G2, rfl, hq, hs2, he1.trans he2, hb2, hd1.trans he2 he1.size hd2⟩, .pass (x := .inLoop c) rfl (fun _ _ => .inl (by simp)) harr⟩
  obtain ⟨G0, hs0, he0, hb0⟩ := h0 G a w hs hb
  obtain ⟨e, a', w', hp, harr⟩ := key _ i0 a w G0 rfl hs0 he0 hb0 (Dfr.refl _ _ _ _)
  exact ⟨e, a', w', hp, .of_steps (.one (fenced_calm hfn hroom rfl) stepR_loop) harr⟩
end sound
end Go.Proofs.YtfaglgoanmcifaaGreat
namespace Go.Proofs.YtfaglgoanmcifaaGreat
open Go.RowKit
def PureV (P : Program) (f : FuncId) (args : List V) (v : V) (h : Heap) (nx : Nat) : Prop :=
  (∃ fn, P.funcs[f]? = some fn) ∧
  ∀ (G : Gh) (w : World) (us : List Value), HR G h nx w → vrs G w args us →
    Cal P f us.toArray w fun e w' => ∃ u G', e = .returned u ∧ vr G' w' v u ∧ HR G' h nx w' ∧ EvoA G w G' w' ∧ G'.ι = G.ι
theorem PureV.call {P : Program} {f : FuncId} {args : List V} {v : V} {h : Heap} {nx : Nat} {K : V → Heap → Nat → Prop} (hp : PureV P f args v h nx) (hK : K v h nx) : CallV P f args h nx K :=
  ⟨hp.1, fun G w us hr hv => (hp.2 G w us hr hv).mono fun e w' ⟨u, G', h1, h2, h3, h4, _⟩ => ⟨u, v, h, nx, G', h1, hK, h2, h3, h4 nx, Nat.le_refl _⟩⟩
def UpdV (P : Program) (f : FuncId) (args : List V) (v : V) (upd : Heap) (h : Heap) (nx : Nat) : Prop :=
  (∃ fn, P.funcs[f]? = some fn) ∧
  ∀ (G : Gh) (w : World) (us : List Value), HR G h nx w → vrs G w args us →
    Cal P f us.toArray w fun e w' => ∃ u G', e = .returned u ∧ vr G' w' v u ∧ HR G' (upd ++ h) nx w' ∧ EvoA G w G' w' ∧ G'.ι = G.ι
theorem PureV.upd {P : Program} {f : FuncId} {args : List V} {v : V} {h : Heap} {nx : Nat} (hp : PureV P f args v h nx) : UpdV P f args v [] h nx := hp
def ptrArg (T : Tab) : List TypeId → Bool
  | [] => false
  | t :: r => match (T t).k with
    | .ptr _ => true
    | _ => ptrArg T r
def updCall (T : Tab) (o : Oper) (c : Call) : Bool := match c.callee with
  | .value (.func _) => match ptrArg T c.argTypes.toList with
    | true => match (T o.type).k with
      | .tuple => true
      | _ => false
    | false => false
  | _ => false
structure FP where
  rd : List Nat
  up : List Nat
  hi : Nat
instance : Inhabited FP := ⟨[], [], 0⟩
def rdsOf (all : List Oper) (o : Oper) : List Nat := otmps o.op ++ gtmps all o
def dput (N : Nat) (s : St) (d : Option Nat) (v : V) (upd rd : Heap) (nx : Nat) (K : FP → St → Prop) : Prop :=
  appendH upd s.h fun h => putK' N s d v h nx fun s1 => K ⟨rd.map Prod.fst, upd.map Prod.fst, s1.nx⟩ s1
def dcallK (P : Program) (s : St) (f : V) (args : List V) (K : V → Heap → Prop) : Prop :=
  match f with
  | .fn (.func fid) first cap => ∃ v rd, (∀ h nx, (∀ b ob, (b, ob) ∈ rd → hget h b = ob) → PureV P fid (first ++ args ++ cap) v h nx) ∧ (∀ b ob, (b, ob) ∈ rd → hget s.h b = ob) ∧ K v rd
  | _ => False
def dcallU (P : Program) (s : St) (f : V) (args : List V) (K : V → Heap → Heap → Prop) : Prop :=
  match f with
  | .fn (.func fid) first cap => ∃ v rd upd, (∀ h nx, (∀ b ob, (b, ob) ∈ rd → hget h b = ob) → UpdV P fid (first ++ args ++ cap) v upd h nx) ∧ (∀ b ob, (b, ob) ∈ rd → hget s.h b = ob) ∧ K v rd upd
  | _ => False
def dlenK (T : Tab) (s : St) (g : Option Bool) (c : Call) (K : OK) : Prop :=
  match c.args.toList, c.argTypes.toList with
  | [x], [t] => argK g (ev s x) fun a => match (T t).k, a with
    | .slice _, .sl _ _ xs => K (.int .i64 xs.length) [] [] s.nx
    | .slice _, .osl _ _ _ n => K (.int .i64 n) [] [] s.nx
    | .slice _, .snil => K (.int .i64 0) [] [] s.nx
    | .str, .str b => K (.int .i64 b.size) [] [] s.nx
    | _, _ => False
  | _, _ => False
def dopK (P : Program) (T : Tab) (N : Nat) (all : List Oper) (o : Oper) (s : St) (K : FP → St → Prop) : Prop :=
  guardK all s o fun g s => skipK g (dput N s o.dst (.opt false .any) [] [] s.nx K) (
    (fun (ex : Prop) => match o.op with
      | .call c => match c.callee with
        | .value f => argK none (ev s f) fun f => evs none s c.args.toList fun vs => match updCall T o c with
          | true => dcallU P s f vs fun v rd upd => dput N s o.dst v upd rd s.nx K
          | false => dcallK P s f vs fun v rd => dput N s o.dst v [] rd s.nx K
        | .builtin .len => dlenK T s none c fun val rd upd nx => dput N s o.dst val upd rd nx K
        | _ => ex
      | _ => ex) (exec T s none o fun val rd upd nx => dput N s o.dst val upd rd nx K))
def drawK (P : Program) (T : Tab) (N : Nat) (all : List Oper) : List Oper → St → List FP → (List FP → St → Prop) → Prop
  | [], s, fps, K => K fps s
  | o :: r, s, fps, K => dopK P T N all o s fun fp s' => drawK P T N all r s' (fps ++ [fp]) K
section
variable {P : Program} {T : Tab} {F : Fence} {N : Nat}
def StepOk (P : Program) (F : Fence) (N : Nat) (all : List Oper) (o : Oper) (s : St) (val : V) (rd upd : Heap) (nx' : Nat) : Prop :=
  s.nx ≤ nx' ∧ ∀ (n : Nat) (G : Gh) (a : Act) (w : World) (s' : St) (Q : Exit → Act → World → Prop) (next : Act → World → Prop), Sim G N s' a w → (∀ i ∈ rdsOf all o, s'.get i = s.get i) →
    (∀ b ob, (b, ob) ∈ rd → hget s'.h b = ob) → (∀ b, s.nx ≤ b → b < nx' → G.ι b = none) →
    (∀ a' w' G', a'.tmps.size = N → (∀ i, vr G' w' (if o.dst = some i then val else s'.get i) (a'.tmps.getD i undef)) → HR G' (upd ++ s'.h) (max s'.nx nx') w' →
      (∀ b, (b < s.nx ∨ nx' ≤ b) → G'.ι b = G.ι b) → EvoA G w G' w' → a'.defers = a.defers → next a' w') → Goes F n P all o a w next Q
structure Step (P : Program) (F : Fence) (N : Nat) (all : List Oper) (o : Oper) (s s1 : St) (fp : FP) : Prop where
  ex : ∃ val rd upd, fp.rd = rd.map Prod.fst ∧ fp.up = upd.map Prod.fst ∧ fp.hi = s1.nx ∧ (∀ i, s1.get i = if o.dst = some i then val else s.get i) ∧ (∀ b, hget s1.h b = hget (upd ++ s.h) b) ∧
    (∀ b ob, (b, ob) ∈ rd → hget s.h b = ob ∨ (ob = none ∧ s.nx ≤ b)) ∧ StepOk P F N all o s val rd upd s1.nx
theorem dput_out {s : St} {d : Option Nat} {v : V} {upd rd : Heap} {nx : Nat} {K : FP → St → Prop} (h : dput N s d v upd rd nx K) :
    ∃ s1, K ⟨rd.map Prod.fst, upd.map Prod.fst, s1.nx⟩ s1 ∧ s1.nx = nx ∧ s1.h = upd ++ s.h ∧ (∀ i, s1.get i = if d = some i then v else s.get i) ∧ ∀ d', d = some d' → d' < N := by
  unfold dput at h
  have h := appendH_out h
  obtain ⟨t, h0, n0⟩ := s
  unfold putK' at h
  simp only [forceV_eq, forceN_eq] at h
  cases d with
  | none => exact ⟨⟨t, upd ++ h0, nx⟩, h, rfl, rfl, fun i => by simp [St.get], by simp⟩
  | some d' =>
    cases hlt : Nat.blt d' N with
    | false => simp only [hlt] at h
    | true =>
      simp only [hlt] at h
      refine ⟨⟨(d', v) :: t, upd ++ h0, nx⟩, h, rfl, rfl, fun i => ?_, fun d'' e => by cases e; simpa [Nat.blt_eq] using hlt⟩
      rw [get_put t h0 _ n0 nx]
      simp
theorem put_vr {G : Gh} {w : World} {a : Act} {d : Option Nat} {u : Value} {v : V} {g : Nat → V} (hN : a.tmps.size = N) (hd : ∀ d', d = some d' → d' < N) (hv : vr G w v u) (hg : ∀ i, vr G w (g i) (a.tmps.getD i undef)) :
    (a.put d u).tmps.size = N ∧ ∀ i, vr G w (if d = some i then v else g i) ((a.put d u).tmps.getD i undef) := by
  cases d with
  | none => exact ⟨hN, fun i => by simpa [Act.put] using hg i⟩
  | some d' =>
    refine ⟨by simp [Act.put, hN], fun i => ?_⟩
    rw [put_getD (by rw [hN]; exact hd d' rfl)]
    by_cases e : d' = i
    · subst e; simpa using hv
    · simpa [e] using hg i
theorem ex_dlen (hT : TabOk P T) {s : St} {g : Option Bool} {o : Oper} {K : OK} {c : Call} (ho : o.op = .call c) (hc : c.callee = .builtin .len) (h : dlenK T s g c K) : ExOk P s g o K := by
  unfold dlenK at h
  split at h
  · rename_i x t hx ht
    obtain ⟨v, h', hv⟩ := argK_out h; clear h; have h := h'; clear h'
    have hxm : x ∈ o.op.operands := by rw [ho]; simp only [Op.operands, Call.operands, hc]; have : x ∈ c.args.toList := by simp [hx]
                                       simpa using this
    have hargs : c.args = #[x] := by apply Array.ext'; simp [hx]
    have htys : c.argTypes = #[t] := by apply Array.ext'; simp [ht]
    have run : ∀ (a : Act) (w : World), (execOp a.eval o).run P w = ((Builtin.len_ #[t] o.type #[a.eval x]).run P w).andThen fun v w => .ok (.value v) w := by
      intro a w
      simp [execOp, ho, resolve, hc, hargs, htys, invoke, builtin]
    split at h
    · rename_i e fr sz xs hk
      obtain ⟨_, _, d, _, _, _, _, _, h6, h7⟩ := hT.at (t := t) (by rw [hk]; simp)
      rw [hk, DescOk] at h7
      subst h7
      refine .of_pure (rd := []) h fun hg G N a w s' hs ha _ => ?_
      have hx := hv hg G w _ (ev_vr hs x (otm o hxm ha))
      generalize hux : a.eval x = ux at hx
      cases hx with
      | sl _ _ _ A cap us hcap hm hA hrow hc hval => exact ⟨_, by simp [run, hux, Builtin.len_, run_underlying h6, goInt], .int _ _⟩
    · rename_i e b sz row n hk
      obtain ⟨_, _, d, _, _, _, _, _, h6, h7⟩ := hT.at (t := t) (by rw [hk]; simp)
      rw [hk, DescOk] at h7
      subst h7
      refine .of_pure (rd := []) h fun hg G N a w s' hs ha _ => ?_
      have hx := hv hg G w _ (ev_vr hs x (otm o hxm ha))
      obtain ⟨A, cap, hux⟩ : ∃ A cap, a.eval x = .slice A n cap := by
        generalize a.eval x = ux at hx
        cases hx <;> exact ⟨_, _, rfl⟩
      exact ⟨_, by simp [run, hux, Builtin.len_, run_underlying h6, goInt], .int _ _⟩
    · rename_i e hk
      obtain ⟨_, _, d, _, _, _, _, _, h6, h7⟩ := hT.at (t := t) (by rw [hk]; simp)
      rw [hk, DescOk] at h7
      subst h7
      refine .of_pure (rd := []) h fun hg G N a w s' hs ha _ => ?_
      have hx := hv hg G w _ (ev_vr hs x (otm o hxm ha))
      generalize hux : a.eval x = ux at hx
      cases hx with
      | snil A => exact ⟨_, by simp [run, hux, Builtin.len_, run_underlying h6, goInt], .int _ _⟩
    · rename_i b hk
      obtain ⟨_, _, d, _, _, _, _, _, h6, h7⟩ := hT.at (t := t) (by rw [hk]; simp)
      rw [hk, DescOk] at h7
      subst h7
      refine .of_pure (rd := []) h fun hg G N a w s' hs ha _ => ?_
      have hux := VR.str_iff.1 (hv hg G w _ (ev_vr hs x (otm o hxm ha)))
      exact ⟨_, by simp [run, hux, Builtin.len_, run_underlying h6, goInt], .int _ _⟩
    · exact h.elim
  · exact h.elim
theorem hget_append : ∀ (u h : Heap) (b : Nat), hget (u ++ h) b = if b ∈ u.map Prod.fst then hget u b else hget h b
  | [], h, b => by simp
  | (i, ob) :: r, h, b => by
    rw [List.cons_append, hget_cons, hget_append r h b, hget_cons]
    by_cases e : i = b
    · subst e; simp
    · have e' : ¬ b = i := fun h => e h.symm
      simp only [e, if_false, List.map_cons, List.mem_cons, e', false_or]
theorem dopK_out (hT : TabOk P T) (hF : FW F) {all : List Oper} {o : Oper} {s : St} {K : FP → St → Prop} (h : dopK P T N all o s K) :
    ∃ fp s1, K fp s1 ∧ Step P F N all o s s1 fp := by
  unfold dopK at h
  obtain ⟨g, s2, h', hse1, hse2, hse3, hgn, hw⟩ := guardK_out (N := N) h; clear h; have h := h'; clear h'
  suffices hsuff : ∃ fp s1, K fp s1 ∧ Step P F N all o s2 s1 fp by
    obtain ⟨fp, s1, hK, ⟨val, rd, upd, q1, q2, q3, q4, q5, q6, q7⟩⟩ := hsuff
    exact ⟨fp, s1, hK, ⟨val, rd, upd, q1, q2, q3, fun i => by rw [q4, hse1], fun b => by rw [q5, hse2], fun b ob hm => by rw [← hse2, ← hse3]; exact q6 b ob hm, by rw [← hse3]; exact q7.1,
      fun n G a w s' Q next hs ha hr hn hnext => q7.2 n G a w s' Q next hs (fun i hi => by rw [hse1]; exact ha i hi) hr (by rw [hse3]; exact hn) (fun a' w' G' z1 z2 z3 z4 => hnext a' w' G' z1 z2 z3 (by rw [← hse3]; exact z4))⟩⟩
  replace hw : ∀ (G : Gh) (a : Act) (w : World) (s' : St), Sim G N s' a w → (∀ i ∈ gtmps all o, s'.get i = s2.get i) → (g = none → Region.wanted o (yielded all.toArray a.tmps) = true) ∧ ∀ b, g = some b → Region.wanted o (yielded all.toArray a.tmps) = b := fun G a w s' hs hh => hw G a w s' hs (fun i hi => by rw [← hse1]; exact hh i hi)
  clear hse1 hse2 hse3
  clear s
  obtain ⟨s, rfl⟩ : ∃ s', s' = s2 := ⟨s2, rfl⟩
  have defs : ∀ (a : Act) u, (a.put o.dst u).defers = a.defers := by intro a u; cases o.dst <;> rfl
  unfold skipK at h
  split at h
  · obtain ⟨s1, hK, e1, e2, e3, e4⟩ := dput_out h
    refine ⟨_, s1, hK, ⟨_, [], [], rfl, rfl, rfl, e3, fun b => by rw [e2], by simp, by omega, ?_⟩⟩
    intro n G a w s' Q next hs ha hr hn hnext
    have hgt : ∀ i ∈ gtmps all o, s'.get i = s.get i := fun i hi => ha i (by simp [rdsOf, hi])
    unfold Goes
    rw [if_neg (by rw [(hw G a w s' hs hgt).2 false rfl]; simp)]
    refine ⟨fun f _ => hF.fn f, ?_⟩
    obtain ⟨p1, p2⟩ := put_vr (G := G) (w := w) (a := a) (d := o.dst) (u := undef) (v := .opt false .any) (g := s'.get) hs.size e4 (.opt _ _ _ (fun h => by cases h) (fun _ => rfl)) hs.tmp
    exact hnext (a.put o.dst undef) w G p1 p2 (by simpa using hs.hr.more (Nat.le_max_left _ _)) (fun _ _ => rfl) (EvoA.refl _ _) (defs a undef)
  rename_i hne
  have hwt : ∀ (G : Gh) (a : Act) (w : World) (s' : St), Sim G N s' a w → (∀ i ∈ rdsOf all o, s'.get i = s.get i) → Region.wanted o (yielded all.toArray a.tmps) = true := by
    intro G a w s' hs ha
    have hgt : ∀ i ∈ gtmps all o, s'.get i = s.get i := fun i hi => ha i (by simp [rdsOf, hi])
    rcases g with _ | gb
    · exact (hw G a w s' hs hgt).1 rfl
    · cases gb with
      | true => exact (hw G a w s' hs hgt).2 true rfl
      | false => exact absurd rfl hne
  clear hne hw hgn
  have plain : (ExOk P s none o fun val rd upd nx => dput N s o.dst val upd rd nx K) → (∀ c, o.op ≠ .defer c) → ∃ fp s1, K fp s1 ∧ Step P F N all o s s1 fp := by
    rintro ⟨val, rd, upd, nx', hK, hrd, hop, _⟩ hnd
    obtain ⟨s1, hK2, e1, e2, e3, e4⟩ := dput_out hK
    subst e1
    refine ⟨_, s1, hK2, ⟨_, rd, upd, rfl, rfl, rfl, e3, fun b => by rw [e2], hrd, (hop (.inl rfl)).1, ?_⟩⟩
    intro n G a w s' Q next hs ha hr hn hnext
    have hot : ∀ i, i ∈ otmps o.op → s'.get i = s.get i := fun i hi => ha i (by simp [rdsOf, hi])
    unfold Goes
    rw [if_pos (hwt G a w s' hs ha)]
    obtain ⟨hle, hop⟩ := hop (.inl rfl)
    obtain ⟨u, w', G', hy, hv, hrr, hid, he⟩ := hop G N a w s' hs hot hr hn
    refine ⟨fun f _ => hF.fn f, ?_⟩
    rw [Oper.semAt_eq _ _ _ hnd]
    obtain ⟨p1, p2⟩ := put_vr (a := a) (d := o.dst) (g := s'.get) hs.size e4 hv (fun i => he.vr (hs.tmp i))
    have hfin := hnext (a.put o.dst u) w' G' p1 p2 hrr hid he (defs a u)
    rcases hy with hy | ⟨hy, rfl⟩
    · rw [hy]; exact hfin
    · rw [hy]; exact hfin
  have hex : (exec T s none o fun val rd upd nx => dput N s o.dst val upd rd nx K) → (∀ c, o.op = .call c → c.callee ≠ .builtin .len) → ∃ fp s1, K fp s1 ∧ Step P F N all o s s1 fp := by
    intro h hl
    exact plain (exec_ok' hT hl h) (exec_not_defer h)
  split at h
  · rename_i c ho
    split at h
    · rename_i f hcal
      obtain ⟨fv, h', hfv⟩ := argK_out h; clear h; have h := h'; clear h'
      obtain ⟨vs, h', hlen, hvs⟩ := evs_out h; clear h; have h := h'; clear h'
      have ham : ∀ x ∈ c.args.toList, x ∈ o.op.operands := by
        intro x hx
        have hx' := Array.mem_toList_iff.1 hx
        rw [ho]; simp [Op.operands, Call.operands, hcal, hx']
      have hfm : f ∈ o.op.operands := by rw [ho]; simp [Op.operands, Call.operands, hcal]
      have main : ∀ (fid : FuncId) (first cap : List V) (v : V) (rd upd : Heap), fv = .fn (.func fid) first cap → (∀ h nx, (∀ b ob, (b, ob) ∈ rd → hget h b = ob) → UpdV P fid (first ++ vs ++ cap) v upd h nx) → (∀ b ob, (b, ob) ∈ rd → hget s.h b = ob) → dput N s o.dst v upd rd s.nx K → ∃ fp s1, K fp s1 ∧ Step P F N all o s s1 fp := by
        clear h
        intro fid first cap v rd upd hfe hpure hrd h
        subst hfe
        have hnd : ∀ c', o.op ≠ .defer c' := by rw [ho]; simp
        obtain ⟨s1, hK, e1, e2, e3, e4⟩ := dput_out h
        refine ⟨_, s1, hK, ⟨_, rd, upd, rfl, rfl, rfl, e3, fun b => by rw [e2], fun b ob hm => .inl (hrd b ob hm), by omega, ?_⟩⟩
        intro n G a w s' Q next hs ha hr hn hnext
        have hot : ∀ i, i ∈ otmps o.op → s'.get i = s.get i := fun i hi => ha i (by simp [rdsOf, hi])
        unfold Goes
        rw [if_pos (hwt G a w s' hs ha)]
        have hp : UpdV P fid (first ++ vs ++ cap) v upd s'.h s'.nx := hpure s'.h s'.nx hr
        refine ⟨fun f _ => hF.fn f, ?_⟩
        rw [Oper.semAt_eq _ _ _ hnd]
        have hfv := hfv (.inl rfl) G w _ (ev_vr hs f (otm o hfm hot))
        have hvs := hvs (.inl rfl) G N a w s' hs (fun x hx i hi => otm o (ham x hx) hot i hi)
        generalize hfu : a.eval f = fu at hfv
        cases hfv with
        | fn _ _ _ us ws hf1 hc1 h1 h2 =>
          have hargs : vrs G w (first ++ vs ++ cap) (us ++ c.args.toList.map a.eval ++ ws) := by
            refine (vrs.append ⟨hf1, h1⟩ ⟨by rw [hlen]; simp, fun j v u q1 q2 => ?_⟩).append ⟨hc1, h2⟩
            rw [List.getElem?_map] at q2
            obtain ⟨x, hx, rfl⟩ := Option.map_eq_some_iff.1 q2
            exact hvs j v x q1 hx
          have e : us.toArray ++ c.args.map a.eval ++ ws.toArray = (us ++ c.args.toList.map a.eval ++ ws).toArray := by apply Array.ext'; simp
          rcases hp.2 G w _ hs.hr hargs with ⟨hbd, hcs⟩ | ⟨_, u, w', hext, ⟨u', G', hu', hv, hrr, he, hι⟩⟩
          rotate_left
          · cases hu'
            have hrun : (execOp a.eval o).run P w = .ok (.value u) w' := by
              simp only [execOp, ho, Sem.run_bind, resolve, hcal, hfu, Deferred.ofValue, Sem.run_pure, Result.andThen_ok, invoke]
              rw [e, hext]
            rw [hrun]
            obtain ⟨p1, p2⟩ := put_vr (a := a) (d := o.dst) (g := s'.get) hs.size e4 hv (fun i => he.vr (hs.tmp i))
            exact hnext (a.put o.dst u) w' G' p1 p2 (hrr.more (Nat.le_max_left _ _)) (fun b _ => by rw [hι]) he (defs a u)
          have hrun : (execOp a.eval o).run P w = .ok (.enter fid (us ++ c.args.toList.map a.eval ++ ws).toArray) w := by
            have := call_run hbd (us ++ c.args.toList.map a.eval ++ ws) w
            simp only [execOp, ho, Sem.run_bind, resolve, hcal, hfu, Deferred.ofValue, Sem.run_pure, Result.andThen_ok, invoke]
            rw [e, this]
          rw [hrun]
          refine ⟨fun hd => by rw [hF.depth] at hd; simp at hd, hF.call (hcs.mono ?_)⟩
          rintro e w' ⟨u, G', rfl, hv, hrr, he, hι⟩
          obtain ⟨p1, p2⟩ := put_vr (a := a) (d := o.dst) (g := s'.get) hs.size e4 hv (fun i => he.vr (hs.tmp i))
          exact hnext (a.put o.dst u) w' G' p1 p2 (hrr.more (Nat.le_max_left _ _)) (fun b _ => by rw [hι]) he (defs a u)
      split at h
      · unfold dcallU at h
        split at h
        · obtain ⟨v, rd, upd, hp, hrd, h⟩ := h
          exact main _ _ _ v rd upd rfl hp hrd h
        · exact h.elim
      · unfold dcallK at h
        split at h
        · obtain ⟨v, rd, hp, hrd, h⟩ := h
          exact main _ _ _ v rd [] rfl (fun h nx hh => (hp h nx hh).upd) hrd h
        · exact h.elim
    · rename_i hcal
      exact plain (ex_dlen hT ho hcal h) (by rw [ho]; simp)
    · rename_i h1 h2
      exact hex h (fun c' e hl => by rw [ho] at e; cases e; exact h2 hl)
  · rename_i hno
    exact hex h (fun c' e => absurd e (hno c'))
end
end Go.Proofs.YtfaglgoanmcifaaGreat
namespace Go.Proofs.YtfaglgoanmcifaaGreat
open Go.RowKit
def edgeRow (acc : List (List Nat)) (o : Oper) : List Nat := o.after.toList.flatMap fun e => if Region.binds .any e then e.on :: acc.getD e.on [] else []
def prAt (all : List Oper) : Nat → List (List Nat)
  | 0 => []
  | k + 1 => prAt all k ++ [match nthO all k with | some o => edgeRow (prAt all k) o | none => []]
def indep (all : List Oper) (oj : Oper) (fj : FP) (ok : Oper) (fk : FP) : Bool :=
  (match oj.dst with | some d => !(rdsOf all ok).contains d | none => true) && (match ok.dst with | some d => !(rdsOf all oj).contains d | none => true) &&
  (match oj.dst, ok.dst with | some d, some d' => !(Nat.beq d d') | _, _ => true) && fj.up.all (fun b => !fk.rd.contains b && !fk.up.contains b) && fk.up.all (fun b => !fj.rd.contains b)
def drawOk (all : List Oper) (fps : List FP) : Bool :=
  (fun ps : List (List Nat) => Nat.beq fps.length all.length && (List.range all.length).all fun k =>
    match nthO all k, nthO fps k with
    | some o, some fp => o.after.toList.all (fun e => !Region.binds .any e || Nat.blt e.on k) && fp.up.all (fun b => Nat.blt b fp.hi) && (List.range k).all fun j =>
      match nthO all j, nthO fps j with
      | some oj, some fj => (ps.getD k []).contains j || indep all oj fj o fp
      | _, _ => false
    | _, _ => false) (prAt all all.length)
theorem nthO_eq {α : Type} : ∀ (l : List α) (i : Nat), nthO l i = l[i]?
  | [], i => by simp [nthO]
  | x :: l, 0 => by simp [nthO]
  | x :: l, i + 1 => by simpa [nthO] using nthO_eq l i
theorem prAt_len (all : List Oper) : ∀ k, (prAt all k).length = k
  | 0 => rfl
  | k + 1 => by simp [prAt, prAt_len all k]
theorem prAt_get (all : List Oper) {i m n : Nat} (h : i < m) (hn : m ≤ n) : (prAt all n).getD i [] = (prAt all m).getD i [] := by
  induction n with
  | zero => omega
  | succ n ih =>
    by_cases e : m = n + 1
    · subst e; rfl
    · rw [← ih (by omega)]
      simp only [prAt, List.getD_eq_getElem?_getD]
      rw [List.getElem?_append_left (by rw [prAt_len]; omega)]
def pr (all : List Oper) (k : Nat) : List Nat := (prAt all (k + 1)).getD k []
theorem pr_eq (all : List Oper) {k : Nat} {o : Oper} (ho : all[k]? = some o) (hb : ∀ e ∈ o.after.toList, Region.binds .any e = true → e.on < k) {j : Nat} :
    j ∈ pr all k ↔ ∃ e ∈ o.after.toList, Region.binds .any e = true ∧ (j = e.on ∨ j ∈ pr all e.on) := by
  have h1 : pr all k = edgeRow (prAt all k) o := by
    simp only [pr, prAt, List.getD_eq_getElem?_getD]
    rw [List.getElem?_append_right (by rw [prAt_len]; omega), prAt_len, Nat.sub_self, nthO_eq, ho]
    rfl
  rw [h1, edgeRow, List.mem_flatMap]
  constructor
  · rintro ⟨e, he, hj⟩
    split at hj
    · rename_i hbd
      refine ⟨e, he, hbd, ?_⟩
      rcases List.mem_cons.1 hj with h | h
      · exact .inl h
      · right
        rw [prAt_get all (Nat.lt_succ_self e.on) (hb e he hbd)] at h
        exact h
    · simp at hj
  · rintro ⟨e, he, hbd, hj⟩
    refine ⟨e, he, ?_⟩
    rw [if_pos hbd]
    rcases hj with rfl | h
    · simp
    · refine List.mem_cons_of_mem _ ?_
      rw [prAt_get all (Nat.lt_succ_self e.on) (hb e he hbd)]
      exact h
structure Ind (all : List Oper) (oj : Oper) (fj : FP) (ok : Oper) (fk : FP) : Prop where
  r1 : ∀ d, oj.dst = some d → d ∉ rdsOf all ok
  r2 : ∀ d, ok.dst = some d → d ∉ rdsOf all oj
  r3 : ∀ d, oj.dst = some d → ok.dst ≠ some d
  r4 : ∀ b ∈ fj.up, b ∉ fk.rd ∧ b ∉ fk.up
  r5 : ∀ b ∈ fk.up, b ∉ fj.rd
theorem indep_out {all : List Oper} {oj ok : Oper} {fj fk : FP} (h : indep all oj fj ok fk = true) : Ind all oj fj ok fk := by
  simp only [indep, Bool.and_eq_true, List.all_eq_true, Bool.not_eq_true', List.contains_eq_mem, decide_eq_false_iff_not] at h
  obtain ⟨⟨⟨⟨h1, h2⟩, h3⟩, h4⟩, h5⟩ := h
  refine ⟨fun d hd => ?_, fun d hd => ?_, fun d hd hd' => ?_, h4, h5⟩
  · rw [hd] at h1; simpa using h1
  · rw [hd] at h2; simpa using h2
  · rw [hd, hd'] at h3
    simp at h3
section
variable {P : Program} {T : Tab} {F : Fence} {N : Nat}
theorem drawK_out (hT : TabOk P T) (hF : FW F) {all : List Oper} : ∀ {rest : List Oper} {s : St} {fps : List FP} {K : List FP → St → Prop}, drawK P T N all rest s fps K →
    ∃ (S : Nat → St) (fs : List FP), S 0 = s ∧ fs.length = rest.length ∧ K (fps ++ fs) (S rest.length) ∧ ∀ (k : Nat) (o : Oper), rest[k]? = some o → ∃ fp, fs[k]? = some fp ∧ Step P F N all o (S k) (S (k + 1)) fp
  | [], s, fps, K, h => ⟨fun _ => s, [], rfl, rfl, by simpa [drawK] using h, by simp⟩
  | o :: r, s, fps, K, h => by
    obtain ⟨fp, s1, h1, hst⟩ := dopK_out hT hF h
    obtain ⟨S, fs, e0, el, hK, hs⟩ := drawK_out hT hF h1
    refine ⟨fun k => match k with | 0 => s | k + 1 => S k, fp :: fs, rfl, by simp [el], by simpa using hK, fun k o' ho => ?_⟩
    cases k with
    | zero =>
      simp at ho; subst ho
      exact ⟨fp, rfl, by show Step P F N all o s (S 0) fp; rw [e0]; exact hst⟩
    | succ k => exact hs k o' (by simpa using ho)
def stE {α : Type} (w : Nat → Nat → Prop) [∀ k i, Decidable (w k i)] (val : Nat → Nat → α) (E : Nat → Bool) (v0 : Nat → α) : Nat → Nat → α
  | 0, i => v0 i
  | k + 1, i => if E k = true ∧ w k i then val k i else stE w val E v0 k i
section stE
variable {α : Type} {wr : Nat → Nat → Prop} [∀ k i, Decidable (wr k i)] {val : Nat → Nat → α} {E : Nat → Bool} {v0 : Nat → α}
theorem stE_succ (k i : Nat) : stE wr val E v0 (k + 1) i = if E k = true ∧ wr k i then val k i else stE wr val E v0 k i := rfl
def Txt (wr : Nat → Nat → Prop) (val : Nat → Nat → α) (v0 : Nat → α) (m : Nat) (tx : Nat → Nat → α) : Prop := (∀ i, tx 0 i = v0 i) ∧ ∀ k, k < m → ∀ i, (wr k i → tx (k + 1) i = val k i) ∧ (¬ wr k i → tx (k + 1) i = tx k i)
theorem stE_all {m : Nat} {tx : Nat → Nat → α} (ht : Txt wr val v0 m tx) (hE : ∀ k, k < m → E k = true) : ∀ j, j ≤ m → ∀ i, stE wr val E v0 j i = tx j i
  | 0, _, i => (ht.1 i).symm
  | j + 1, hj, i => by
    rw [stE_succ]
    by_cases h : wr j i
    · rw [if_pos ⟨hE j (by omega), h⟩, (ht.2 j (by omega) i).1 h]
    · rw [if_neg (fun h' => h h'.2), stE_all ht hE j (by omega) i, (ht.2 j (by omega) i).2 h]
theorem stE_agree {m k : Nat} {tx : Nat → Nat → α} (ht : Txt wr val v0 m tx) (hk : k < m) (hEk : E k = false) {i : Nat}
    (h1 : ∀ j, j < k → wr j i → E j = true) (h2 : ∀ j, k < j → j < m → wr j i → E j = false) : stE wr val E v0 m i = tx k i := by
  have a1 : ∀ j, j ≤ k → stE wr val E v0 j i = tx j i := by
    intro j
    induction j with
    | zero => intro _; exact (ht.1 i).symm
    | succ j ih =>
      intro hj
      rw [stE_succ]
      by_cases h : wr j i
      · rw [if_pos ⟨h1 j (by omega) h, h⟩, (ht.2 j (by omega) i).1 h]
      · rw [if_neg (fun h' => h h'.2), ih (by omega), (ht.2 j (by omega) i).2 h]
  have a2 : ∀ d, k + d ≤ m → stE wr val E v0 (k + d) i = stE wr val E v0 k i := by
    intro d
    induction d with
    | zero => intro _; rfl
    | succ d ih =>
      intro hd
      rw [show k + (d + 1) = (k + d) + 1 by omega]
      rw [stE_succ]
      rw [if_neg, ih (by omega)]
      rintro ⟨q1, q2⟩
      rcases Nat.eq_zero_or_pos d with rfl | hpos
      · rw [Nat.add_zero] at q1; rw [hEk] at q1; cases q1
      · rw [h2 (k + d) (by omega) (by omega) q2] at q1; cases q1
  have := a2 (m - k) (by omega)
  rw [show k + (m - k) = m by omega] at this
  rw [this, a1 k (Nat.le_refl _)]
theorem stE_after {m k : Nat} (hk : k < m) (hEk : E k = false) {i : Nat} (h2 : wr k i → ∀ j, k < j → j < m → wr j i → E j = false) :
    stE wr val (fun j => if j = k then true else E j) v0 m i = if wr k i then val k i else stE wr val E v0 m i := by
  have a1 : ∀ j, j ≤ k → stE wr val (fun j => if j = k then true else E j) v0 j i = stE wr val E v0 j i := by
    intro j
    induction j with
    | zero => intro _; rfl
    | succ j ih =>
      intro hj
      rw [stE_succ, stE_succ, ih (by omega)]
      have : ¬ j = k := by omega
      simp [this]
  have a2 : ∀ d, k + 1 + d ≤ m → stE wr val (fun j => if j = k then true else E j) v0 (k + 1 + d) i = if wr k i then val k i else stE wr val E v0 (k + 1 + d) i := by
    intro d
    induction d with
    | zero =>
      intro _
      rw [Nat.add_zero, stE_succ, stE_succ]
      by_cases h : wr k i
      · rw [if_pos ⟨by simp, h⟩, if_pos h]
      · rw [if_neg (fun h' => h h'.2), if_neg h, if_neg (fun h' => h h'.2), a1 k (Nat.le_refl _)]
    | succ d ih =>
      intro hd
      rw [show k + 1 + (d + 1) = (k + 1 + d) + 1 by omega]
      rw [stE_succ, stE_succ, ih (by omega)]
      have hne : ¬ k + 1 + d = k := by omega
      simp only [hne, if_false]
      by_cases h : wr k i
      · simp only [h, if_true]
        rw [if_neg]
        rintro ⟨q1, q2⟩
        rw [h2 h (k + 1 + d) (by omega) (by omega) q2] at q1; cases q1
      · simp only [h, if_false]
  have := a2 (m - k - 1) (by omega)
  rwa [show k + 1 + (m - k - 1) = m by omega] at this
end stE
end
end Go.Proofs.YtfaglgoanmcifaaGreat
namespace Go.Proofs.YtfaglgoanmcifaaGreat
open Go.RowKit
section
variable {P : Program} {T : Tab} {F : Fence} {N : Nat}
theorem stE_none {α : Type} {wr : Nat → Nat → Prop} [∀ k i, Decidable (wr k i)] {val : Nat → Nat → α} {E : Nat → Bool} {v0 : Nat → α} (hE : ∀ k, E k = false) (i : Nat) : ∀ m, stE wr val E v0 m i = v0 i
  | 0 => rfl
  | m + 1 => by
    rw [stE_succ, stE_none hE i m]
    simp [hE]
theorem count_set {l : List Bool} {i : Nat} (h : l[i]? = some false) : (l.set i true).count false + 1 = l.count false := by
  induction l generalizing i with
  | nil => simp at h
  | cons x l ih =>
    cases i with
    | zero => simp at h; subst h; simp
    | succ i =>
      have := ih (by simpa using h)
      simp only [List.set_cons_succ, List.count_cons]
      omega
theorem vc_draw (hT : TabOk P T) (hm : P.follows .mixedOrders = true) (hF : FW F) {base id : Nat} {ops : Array Oper} {s : St} {Q : Ex → St → Prop}
    (h : drawK P T N ops.toList ops.toList s [] (fun fps s' => drawOk ops.toList fps = true ∧ Q .normal s')) : VC P F N base (.region id ops true) s Q := by
  intro n G a w hs hb
  obtain ⟨S, fs, e0, el, ⟨hok, hQ⟩, hst⟩ := drawK_out hT hF h
  rw [List.nil_append] at hok
  simp only [drawOk, Bool.and_eq_true, List.all_eq_true, List.mem_range] at hok
  obtain ⟨_, hok⟩ := hok
  have hall : ∀ k o fp, ops.toList[k]? = some o → fs[k]? = some fp → k < ops.toList.length := fun k o fp ho _ => (List.getElem?_eq_some_iff.1 ho).1
  have hat : ∀ k o fp, ops.toList[k]? = some o → fs[k]? = some fp → (∀ e ∈ o.after.toList, Region.binds .any e = true → e.on < k) ∧ (∀ b ∈ fp.up, b < fp.hi) ∧ ∀ j, j < k → ∀ oj fj, ops.toList[j]? = some oj → fs[j]? = some fj → j ∈ pr ops.toList k ∨ Ind ops.toList oj fj o fp := by
    intro k o fp ho hf
    have hk := (List.getElem?_eq_some_iff.1 ho).1
    have := hok k hk
    rw [nthO_eq, nthO_eq, ho, hf] at this
    simp only [Bool.and_eq_true, List.all_eq_true, List.mem_range] at this
    obtain ⟨⟨h1, h2⟩, h3⟩ := this
    refine ⟨fun e he hbd => by have := h1 e he; rw [hbd] at this; simpa [Nat.blt_eq] using this, fun b hb => by simpa [Nat.blt_eq] using h2 b hb, fun j hj oj fj hoj hfj => ?_⟩
    have := h3 j hj
    rw [nthO_eq, nthO_eq, hoj, hfj] at this
    simp only [Bool.or_eq_true, List.contains_eq_mem, decide_eq_true_eq] at this
    rcases this with h4 | h4
    · left
      rw [prAt_get ops.toList (Nat.lt_succ_self k) hk] at h4
      exact h4
    · exact .inr (indep_out h4)
  have hstep : ∀ k, k < ops.toList.length → ∃ o fp, ops.toList[k]? = some o ∧ fs[k]? = some fp ∧ Step P F N ops.toList o (S k) (S (k + 1)) fp := by
    intro k hk
    obtain ⟨fp, h1, h2⟩ := hst k _ (List.getElem?_eq_getElem hk)
    exact ⟨_, fp, List.getElem?_eq_getElem hk, h1, h2⟩
  have mono1 : ∀ k, k < ops.toList.length → (S k).nx ≤ (S (k + 1)).nx := by
    intro k hk
    obtain ⟨o, fp, _, _, ⟨val, rd, upd, _, _, _, _, _, _, h⟩⟩ := hstep k hk
    exact h.1
  have mono : ∀ d j, j + d ≤ ops.toList.length → (S j).nx ≤ (S (j + d)).nx := by
    intro d
    induction d with
    | zero => intro j _; exact Nat.le_refl _
    | succ d ih =>
      intro j hj
      exact Nat.le_trans (ih j (by omega)) (mono1 (j + d) (by omega))
  have mono' : ∀ j k, j ≤ k → k ≤ ops.toList.length → (S j).nx ≤ (S k).nx := by
    intro j k h1 h2
    have := mono (k - j) j (by omega)
    rwa [show j + (k - j) = k by omega] at this
  let wrT : Nat → Nat → Prop := fun k i => (ops.toList[k]?).bind (·.dst) = some i
  let wrH : Nat → Nat → Prop := fun k b => b ∈ ((fs[k]?).map (·.up)).getD []
  let valT : Nat → Nat → V := fun k i => (S (k + 1)).get i
  let valH : Nat → Nat → Option Blk := fun k b => hget (S (k + 1)).h b
  have txT : Txt wrT valT s.get ops.toList.length (fun j i => (S j).get i) := by
    refine ⟨fun i => by show (S 0).get i = _; rw [e0], fun k hk i => ⟨fun _ => rfl, fun hn => ?_⟩⟩
    obtain ⟨o, fp, ho, hf, ⟨val, rd, upd, _, _, _, h4, _⟩⟩ := hstep k hk
    show (S (k + 1)).get i = (S k).get i
    rw [h4, if_neg]
    intro hd
    exact hn (by show (ops.toList[k]?).bind (·.dst) = some i; rw [ho]; exact hd)
  have txH : Txt wrH valH (hget s.h) ops.toList.length (fun j b => hget (S j).h b) := by
    refine ⟨fun i => by show hget (S 0).h i = _; rw [e0], fun k hk b => ⟨fun _ => rfl, fun hn => ?_⟩⟩
    obtain ⟨o, fp, ho, hf, ⟨val, rd, upd, _, h2, _, _, h5, _⟩⟩ := hstep k hk
    show hget (S (k + 1)).h b = hget (S k).h b
    rw [h5, hget_append, if_neg]
    intro hd
    exact hn (by show b ∈ ((fs[k]?).map (·.up)).getD []; rw [hf]; simpa [h2] using hd)
  have hnone : ∀ i, i ≤ ops.toList.length → ∀ j, j ≤ i → ∀ b, (S i).nx ≤ b → hget (S j).h b = none := by
    intro i hi j
    induction j with
    | zero =>
      intro _ b hb
      rw [e0]
      cases hg : hget s.h b with
      | none => rfl
      | some k =>
        have := hs.hr.hdom b k hg
        have := mono' 0 i (Nat.zero_le _) hi
        rw [e0] at this
        omega
    | succ j ih =>
      intro hj b hb
      obtain ⟨o, fp, ho, hf, ⟨val, rd, upd, _, h2, h3, _, h5, _⟩⟩ := hstep j (by omega)
      rw [h5, hget_append, if_neg]
      · exact ih (by omega) b hb
      · intro hm
        have := (hat j o fp ho hf).2.1 b (by rw [h2]; exact hm)
        have := mono' (j + 1) i hj hi
        omega
  have main : ∀ (fuel : Nat) (listed : Array Bool) (a1 : Act) (w1 : World) (G1 : Gh) (s' : St), listed.size = ops.size → listed.toList.count false = fuel →
      (∀ k, k < ops.toList.length → listed.getD k false = true → ∀ j ∈ pr ops.toList k, listed.getD j false = true) → Sim G1 N s' a1 w1 →
      (∀ i, s'.get i = stE wrT valT (fun k => listed.getD k false) s.get ops.toList.length i) → (∀ b, hget s'.h b = stE wrH valH (fun k => listed.getD k false) (hget s.h) ops.toList.length b) →
      s.nx ≤ s'.nx → s'.nx ≤ (S ops.toList.length).nx → (∀ k, k < ops.toList.length → listed.getD k false = false → ∀ b, (S k).nx ≤ b → b < (S (k + 1)).nx → G1.ι b = none) →
      EvoA G w G1 w1 → a1.defers = a.defers → wpAnyIn F n P .any ops (Post N base G w a.defers Q) fuel listed a1 w1 := by
    intro fuel
    induction fuel with
    | zero =>
      intro listed a1 w1 G1 s' hsz hcnt hcl hsim hT' hH' hn1 hn2 hnew hev hdf
      have hE : ∀ k, k < ops.toList.length → listed.getD k false = true := by
        intro k hk
        have hk' : k < listed.toList.length := by simpa [hsz] using hk
        have := List.count_eq_zero.1 hcnt
        have h1 : listed.toList[k] ≠ false := fun h => this (h ▸ List.getElem_mem hk')
        simp only [Array.getElem_toList] at h1
        simp [Array.getD, show k < listed.size by simpa using hk', h1]
      refine ⟨?_, .normal, S ops.toList.length, G1, rfl, hQ, ⟨hsim.size, fun i => ?_, ?_⟩, hev base, Nat.le_trans hb (Nat.le_trans hn1 hn2), Dfr.of_eq hdf⟩
      · unfold Region.ready
        rw [List.filter_eq_nil_iff]
        intro k hk
        have hk := List.mem_range.1 hk
        have := hE k (by simpa using hk)
        have h2 : listed.getD k true = true := by
          simp only [Array.getD] at this ⊢
          split
          · rename_i hh; simpa [hh] using this
          · rfl
        simp [h2]
      · have := hsim.tmp i
        rw [hT' i, stE_all txT hE _ (Nat.le_refl _)] at this
        exact this
      · exact hsim.hr.congr (fun b => by rw [hH' b, stE_all txH hE _ (Nat.le_refl _)]) hn2
    | succ fuel ih =>
      intro listed a1 w1 G1 s' hsz hcnt hcl hsim hT' hH' hn1 hn2 hnew hev hdf
      refine ⟨fun hrd => ?_, fun i hi => ?_⟩
      · exfalso
        have hE : ∀ k, k < ops.toList.length → listed.getD k false = true := by
          intro k
          induction k using Nat.strongRecOn with
          | _ k ihk =>
            intro hk
            cases hl : listed.getD k false with
            | true => rfl
            | false =>
              exfalso
              obtain ⟨o, fp, ho, hf, _⟩ := hstep k hk
              have hmem : k ∈ Region.ready .any ops listed := by
                unfold Region.ready
                rw [List.mem_filter]
                have hks : k < listed.size := by rw [hsz]; simpa using hk
                refine ⟨List.mem_range.2 (by simpa using hk), ?_⟩
                have h2 : listed.getD k true = false := by
                  simp only [Array.getD, hks, dif_pos] at hl ⊢
                  exact hl
                have ho' : ops[k]? = some o := by simpa using ho
                simp only [h2, ho', Bool.not_false, Option.map_some, Option.getD_some, Bool.true_and, Array.all_eq_true_iff_forall_mem, Bool.or_eq_true, Bool.not_eq_true']
                intro e he
                cases hbd : Region.binds .any e with
                | false => exact .inl rfl
                | true =>
                  right
                  have := (hat k o fp ho hf).1 e (by simpa using he) hbd
                  exact ihk e.on this (by omega)
              rw [hrd] at hmem
              simp at hmem
        have : listed.toList.count false = 0 := by
          rw [List.count_eq_zero]
          intro hmem
          obtain ⟨k, hk, hk'⟩ := List.mem_iff_getElem.1 hmem
          have := hE k (by simpa [hsz] using hk)
          have hks : k < listed.size := by simpa using hk
          simp only [Array.getElem_toList] at hk'
          rw [Array.getD_eq_getD_getElem?, Array.getElem?_eq_getElem hks, hk'] at this
          cases this
        omega
      · unfold Region.ready at hi
        rw [List.mem_filter] at hi
        obtain ⟨hi1, hi2⟩ := hi
        have hi1 : i < ops.toList.length := by simpa using List.mem_range.1 hi1
        have his : i < listed.size := by rw [hsz]; simpa using hi1
        obtain ⟨o, fp, ho, hf, ⟨val, rd, upd, q1, q2, q3, q4, q5, q6, q7⟩⟩ := hstep i hi1
        have ho' : ops[i]? = some o := by simpa using ho
        simp only [ho', Option.map_some, Option.getD_some, Bool.and_eq_true, Bool.not_eq_true', Array.all_eq_true_iff_forall_mem, Bool.or_eq_true] at hi2
        obtain ⟨hl, hed⟩ := hi2
        have hl' : listed.getD i false = false := by
          simp only [Array.getD, his, dif_pos] at hl ⊢
          exact hl
        have hli : listed.toList[i]? = some false := by
          simp only [Array.getD, his, dif_pos] at hl
          have hl2 : listed[i] = false := hl
          simp [his, hl2]
        have hpri : ∀ j ∈ pr ops.toList i, listed.getD j false = true := by
          intro j hj
          obtain ⟨e, he, hbd, hj⟩ := (pr_eq ops.toList ho (hat i o fp ho hf).1).1 hj
          have h1 := (hed e (by simpa using he)).resolve_left (by rw [hbd]; simp)
          rcases hj with rfl | hj
          · exact h1
          · exact hcl e.on (Nat.lt_trans ((hat i o fp ho hf).1 e he hbd) hi1) h1 j hj
        have hlate : ∀ j, i < j → j < ops.toList.length → ∀ oj fj, ops.toList[j]? = some oj → fs[j]? = some fj → listed.getD j false = true → Ind ops.toList o fp oj fj := by
          intro j hj hjm oj fj hoj hfj hlj
          rcases (hat j oj fj hoj hfj).2.2 i hj o fp ho hf with h1 | h1
          · have := hcl j hjm hlj i h1
            rw [hl'] at this; cases this
          · exact h1
        have wrT_iff : ∀ j oj x, ops.toList[j]? = some oj → (wrT j x ↔ oj.dst = some x) := fun j oj x hoj => by
          show (ops.toList[j]?).bind (·.dst) = some x ↔ _
          rw [hoj]; rfl
        have wrH_iff : ∀ j fj b, fs[j]? = some fj → (wrH j b ↔ b ∈ fj.up) := fun j fj b hfj => by
          show b ∈ ((fs[j]?).map (·.up)).getD [] ↔ _
          rw [hfj]; rfl
        have agT : ∀ x ∈ rdsOf ops.toList o, s'.get x = (S i).get x := by
          intro x hx
          rw [hT' x]
          refine stE_agree txT hi1 hl' (fun j hj hwj => ?_) (fun j hj hjm hwj => ?_)
          · obtain ⟨oj, fj, hoj, hfj, _⟩ := hstep j (by omega)
            rcases (hat i o fp ho hf).2.2 j hj oj fj hoj hfj with h1 | h1
            · exact hpri j h1
            · exact absurd hx (h1.r1 x ((wrT_iff j oj x hoj).1 hwj))
          · obtain ⟨oj, fj, hoj, hfj, _⟩ := hstep j hjm
            cases hlj : listed.getD j false with
            | false => rfl
            | true => exact absurd hx ((hlate j hj hjm oj fj hoj hfj hlj).r2 x ((wrT_iff j oj x hoj).1 hwj))
        have agH : ∀ b ∈ fp.rd, hget s'.h b = hget (S i).h b := by
          intro b hx
          rw [hH' b]
          refine stE_agree txH hi1 hl' (fun j hj hwj => ?_) (fun j hj hjm hwj => ?_)
          · obtain ⟨oj, fj, hoj, hfj, _⟩ := hstep j (by omega)
            rcases (hat i o fp ho hf).2.2 j hj oj fj hoj hfj with h1 | h1
            · exact hpri j h1
            · exact absurd hx (h1.r4 b ((wrH_iff j fj b hfj).1 hwj)).1
          · obtain ⟨oj, fj, hoj, hfj, _⟩ := hstep j hjm
            cases hlj : listed.getD j false with
            | false => rfl
            | true => exact absurd hx ((hlate j hj hjm oj fj hoj hfj hlj).r5 b ((wrH_iff j fj b hfj).1 hwj))
        have hE' : (fun k => (listed.setIfInBounds i true).getD k false) = fun k => if k = i then true else listed.getD k false := by
          funext k
          simp only [Array.getD_eq_getD_getElem?]
          by_cases e : k = i
          · subst e; rw [Array.getElem?_setIfInBounds_self_of_lt his]; simp
          · rw [Array.getElem?_setIfInBounds_ne (Ne.symm e)]; simp [e]
        have goes := q7.2 n G1 a1 w1 s' (Post N base G w a.defers Q) (wpAnyIn F n P .any ops (Post N base G w a.defers Q) fuel (listed.setIfInBounds i true)) hsim agT
          (fun b ob hm => by
            rw [agH b (by rw [q1]; exact List.mem_map_of_mem hm)]
            rcases q6 b ob hm with h1 | ⟨rfl, h1⟩
            · exact h1
            · exact hnone i (by omega) i (Nat.le_refl _) b h1) (hnew i hi1 hl') (fun a2 w2 G2 z1 z2 z3 z4 z5 z6 => by
            refine ih (listed.setIfInBounds i true) a2 w2 G2 ⟨match o.dst with | some d => (d, val) :: s'.t | none => s'.t, upd ++ s'.h, max s'.nx (S (i + 1)).nx⟩ (by simp [hsz]) ?_ ?_ ⟨z1, fun x => ?_, z3⟩ (fun x => ?_) (fun b => ?_) (by simp only; omega) ?_ ?_ (hev.trans z5) (z6.trans hdf)
            · rw [Array.toList_setIfInBounds]
              have := count_set hli
              omega
            · intro k hk hlk j hj
              have e1 : (listed.setIfInBounds i true).getD k false = if k = i then true else listed.getD k false := congrFun hE' k
              have e2 : (listed.setIfInBounds i true).getD j false = if j = i then true else listed.getD j false := congrFun hE' j
              rw [e1] at hlk
              rw [e2]
              by_cases ej : j = i
              · simp [ej]
              · simp only [ej, if_false]
                by_cases ek : k = i
                · subst ek; exact hpri j hj
                · simp only [ek, if_false] at hlk
                  exact hcl k hk hlk j hj
            · have := z2 x
              cases hd : o.dst with
              | none => simpa [hd, St.get] using this
              | some d =>
                rw [hd] at this
                simp only
                rw [get_put s'.t s'.h _ s'.nx _]
                simpa using this
            · rw [hE', stE_after hi1 hl' (fun hw j hj hjm hwj => by
                obtain ⟨oj, fj, hoj, hfj, _⟩ := hstep j hjm
                cases hlj : listed.getD j false with
                | false => rfl
                | true => exact absurd ((wrT_iff j oj x hoj).1 hwj) ((hlate j hj hjm oj fj hoj hfj hlj).r3 x ((wrT_iff i o x ho).1 hw)))]
              have e4 := q4 x
              by_cases hw : wrT i x
              · have hd := (wrT_iff i o x ho).1 hw
                rw [if_pos hw]
                show _ = (S (i + 1)).get x
                rw [e4, if_pos hd, hd]
                show look ((x, val) :: s'.t) x = val
                simp [look, Nat.beq_refl]
              · rw [if_neg hw, ← hT' x]
                have hd : ¬ o.dst = some x := fun h => hw ((wrT_iff i o x ho).2 h)
                cases hd' : o.dst with
                | none => rfl
                | some d =>
                  have hne : ¬ d = x := fun h => hd (by rw [hd', h])
                  simp only
                  rw [get_put s'.t s'.h _ s'.nx _]
                  simp [hne]
            · rw [hE', stE_after hi1 hl' (fun hw j hj hjm hwj => by
                obtain ⟨oj, fj, hoj, hfj, _⟩ := hstep j hjm
                cases hlj : listed.getD j false with
                | false => rfl
                | true => exact absurd ((wrH_iff j fj b hfj).1 hwj) ((hlate j hj hjm oj fj hoj hfj hlj).r4 b ((wrH_iff i fp b hf).1 hw)).2)]
              have e5 := q5 b
              rw [hget_append]
              by_cases hw : wrH i b
              · have hd := (wrH_iff i fp b hf).1 hw
                rw [q2] at hd
                rw [if_pos hw, if_pos hd]
                show _ = hget (S (i + 1)).h b
                rw [e5, hget_append, if_pos hd]
              · rw [if_neg hw, ← hH' b, if_neg]
                intro hd
                exact hw ((wrH_iff i fp b hf).2 (by rw [q2]; exact hd))
            · have := mono' (i + 1) ops.toList.length (by omega) (Nat.le_refl _)
              simp only
              omega
            · intro k hk hlk b h1 h2
              have e1 : (listed.setIfInBounds i true).getD k false = if k = i then true else listed.getD k false := congrFun hE' k
              rw [e1] at hlk
              by_cases ek : k = i
              · simp [ek] at hlk
              · simp only [ek, if_false] at hlk
                rw [z4 b]
                · exact hnew k hk hlk b h1 h2
                · rcases Nat.lt_or_gt_of_ne ek with hlt | hgt
                  · left
                    have := mono' (k + 1) i (by omega) (by omega)
                    omega
                  · right
                    have := mono' (i + 1) k (by omega) (by omega)
                    omega)
        unfold wpOpIn
        rw [ho']
        unfold Goes at goes
        simpa using goes
  refine wpIn_region_any hm (main ops.size _ a _ G s (by simp) (by simp) ?_ ⟨hs.size, fun i => (EvoA.drew (G := G) (w := w)).vr (hs.tmp i), hs.hr.drew⟩ (fun i => ?_) (fun b => ?_) (Nat.le_refl _) ?_ ?_ EvoA.drew rfl)
  · intro k hk hl
    exfalso
    simp [Array.getD] at hl
  · rw [stE_none (fun k => by simp [Array.getD])]
  · rw [stE_none (fun k => by simp [Array.getD])]
  · have := mono' 0 ops.toList.length (Nat.zero_le _) (Nat.le_refl _)
    rw [e0] at this
    exact this
  · intro k hk _ b h1 _
    have := mono' 0 k (Nat.zero_le _) (by omega)
    rw [e0] at this
    exact hs.hr.dom b (by omega)
end
end Go.Proofs.YtfaglgoanmcifaaGreat
namespace Go.Proofs.YtfaglgoanmcifaaGreat
open Go.RowKit
section
variable {P : Program} {T : Tab} {F : Fence} {N : Nat}
def tailOk (all : List Oper) (m : Nat) : Bool :=
  (fun ps : List (List Nat) => (List.range all.length).all fun k => Nat.blt k m ||
    match nthO all k with
    | some o => o.after.toList.all (fun e => !Region.binds .any e || Nat.blt e.on k) && (List.range k).all fun j => (ps.getD k []).contains j
    | none => false) (prAt all all.length)
def drawOkN (all : List Oper) (m : Nat) (fps : List FP) : Bool :=
  (fun ps : List (List Nat) => Nat.beq fps.length m && Nat.ble m all.length && (List.range m).all fun k =>
    match nthO all k, nthO fps k with
    | some o, some fp => o.after.toList.all (fun e => !Region.binds .any e || Nat.blt e.on k) && fp.up.all (fun b => Nat.blt b fp.hi) && (List.range k).all fun j =>
      match nthO all j, nthO fps j with
      | some oj, some fj => (ps.getD k []).contains j || indep all oj fj o fp
      | _, _ => false
    | _, _ => false) (prAt all all.length)
theorem cnt_split {listed : Array Bool} {L z m : Nat} (hz : L = z) (hm : m ≤ L) (hs : listed.size = z) (h : ∀ k, m ≤ k → k < L → listed.getD k false = false) : listed.toList.count false = (listed.toList.take m).count false + (L - m) := by
  have e : listed.toList = listed.toList.take m ++ listed.toList.drop m := (List.take_append_drop _ _).symm
  have h2 : (listed.toList.drop m).count false = (listed.toList.drop m).length := by
    rw [List.count_eq_length]
    intro b hb
    obtain ⟨j, hj, rfl⟩ := List.mem_iff_getElem.1 hb
    have hj2 : j < L - m := by simp at hj; omega
    have := h (m + j) (by omega) (by omega)
    have hlt : m + j < listed.size := by omega
    rw [Array.getD_eq_getD_getElem?, Array.getElem?_eq_getElem hlt] at this
    simp at this ⊢
    exact this
  have h3 : (listed.toList.drop m).length = L - m := by simp; omega
  have h4 := congrArg (List.count false) e
  rw [List.count_append] at h4
  omega
theorem cnt_zero {listed : Array Bool} {m : Nat} (h : (listed.toList.take m).count false = 0 ∧ m ≤ listed.size) : ∀ k, k < m → listed.getD k false = true := by
  intro k hk
  have := List.count_eq_zero.1 h.1
  have hks : k < listed.size := by omega
  rw [Array.getD_eq_getD_getElem?, Array.getElem?_eq_getElem hks]
  cases hb : listed[k] with
  | true => rfl
  | false =>
    exfalso
    apply this
    rw [List.mem_take_iff_getElem]
    exact ⟨k, by simp; omega, by simpa using hb⟩
theorem cnt_all {listed : Array Bool} {m : Nat} (h : ∀ k, k < m → listed.getD k false = true) : (listed.toList.take m).count false = 0 := by
  rw [List.count_eq_zero]
  intro hm
  obtain ⟨k, hk, hk'⟩ := List.mem_take_iff_getElem.1 hm
  have := h k (by omega)
  have hks : k < listed.size := by simp at hk; omega
  rw [Array.getD_eq_getD_getElem?, Array.getElem?_eq_getElem hks] at this
  simp at this hk'
  rw [this] at hk'; cases hk'
theorem pr_lt (all : List Oper) (h : ∀ (k : Nat) (o : Oper), all[k]? = some o → ∀ e ∈ o.after.toList, Region.binds .any e = true → e.on < k) {k j : Nat} (hj : j ∈ pr all k) : j < k := by
  induction k using Nat.strongRecOn generalizing j with
  | _ k ih =>
    cases ho : all[k]? with
    | none =>
      simp only [pr, prAt, List.getD_eq_getElem?_getD] at hj
      rw [List.getElem?_append_right (by rw [prAt_len]; omega), prAt_len, Nat.sub_self, nthO_eq, ho] at hj
      simp at hj
    | some o =>
      obtain ⟨e, he, hbd, hje⟩ := (pr_eq all ho (h k o ho)).1 hj
      have h1 := h k o ho e he hbd
      rcases hje with rfl | hje
      · exact h1
      · have := ih e.on h1 hje; omega
theorem runOps_drop {all : List Oper} {t : Nat} {s : St} {K : St → Prop} (h : runOps P T N all (all.drop t) s K) : (all.length ≤ t ∧ K s) ∨ ∃ o, all[t]? = some o ∧ opK P T N all o s fun s' => runOps P T N all (all.drop (t + 1)) s' K := by
  by_cases ht : t < all.length
  · right
    rw [List.drop_eq_getElem_cons ht] at h
    exact ⟨_, List.getElem?_eq_getElem ht, h⟩
  · left
    rw [List.drop_eq_nil_of_le (by omega)] at h
    exact ⟨by omega, h⟩
theorem vc_draw_cut (hT : TabOk P T) (hm : P.follows .mixedOrders = true) (hF : FW F) {base id : Nat} {ops : Array Oper} {s : St} {Q : Ex → St → Prop} {m : Nat} (hm0 : m ≤ ops.toList.length)
    (h : drawK P T N ops.toList (ops.toList.take m) s [] (fun fps s' => (drawOkN ops.toList m fps && tailOk ops.toList m) = true ∧ runOps P T N ops.toList (ops.toList.drop m) s' (Q .normal))) : VC P F N base (.region id ops true) s Q := by
  intro n G a w hs hb
  obtain ⟨S, fs, e0, el, ⟨hok, hQ⟩, hst⟩ := drawK_out hT hF h
  rw [List.nil_append] at hok
  rw [Bool.and_eq_true] at hok
  obtain ⟨hok, htl⟩ := hok
  simp only [drawOkN, Bool.and_eq_true, List.all_eq_true, List.mem_range] at hok
  obtain ⟨_, hok⟩ := hok
  simp only [tailOk, Bool.or_eq_true, Bool.and_eq_true, List.all_eq_true, List.mem_range] at htl
  have hlm : (ops.toList.take m).length = m := by rw [List.length_take]; omega
  rw [hlm] at hQ
  replace hst : ∀ k o, k < m → ops.toList[k]? = some o → ∃ fp, fs[k]? = some fp ∧ Step P F N ops.toList o (S k) (S (k + 1)) fp := fun k o hk ho => hst k o (by rw [List.getElem?_take_of_lt hk]; exact ho)
  have htail : ∀ k, m ≤ k → k < ops.toList.length → ∃ o, ops.toList[k]? = some o ∧ (∀ e ∈ o.after.toList, Region.binds .any e = true → e.on < k) ∧ ∀ j, j < k → j ∈ pr ops.toList k := by
    intro k hk hlt
    have := (htl k hlt).resolve_left (by simp [Nat.blt_eq]; omega)
    rw [nthO_eq, List.getElem?_eq_getElem hlt] at this
    simp only [Bool.and_eq_true, List.all_eq_true, List.mem_range] at this
    refine ⟨_, List.getElem?_eq_getElem hlt, fun e he hbd => by have := this.1 e he; rw [hbd] at this; simpa [Nat.blt_eq] using this, fun j hj => ?_⟩
    have := this.2 j hj
    rw [prAt_get ops.toList (Nat.lt_succ_self k) hlt] at this
    rw [List.contains_eq_mem, decide_eq_true_eq] at this
    exact this
  have hat : ∀ k o fp, k < m → ops.toList[k]? = some o → fs[k]? = some fp → (∀ e ∈ o.after.toList, Region.binds .any e = true → e.on < k) ∧ (∀ b ∈ fp.up, b < fp.hi) ∧ ∀ j, j < k → ∀ oj fj, ops.toList[j]? = some oj → fs[j]? = some fj → j ∈ pr ops.toList k ∨ Ind ops.toList oj fj o fp := by
    intro k o fp hk ho hf
    have hkl : k < ops.toList.length := by omega
    have := hok k hk
    rw [nthO_eq, nthO_eq, ho, hf] at this
    simp only [Bool.and_eq_true, List.all_eq_true, List.mem_range] at this
    obtain ⟨⟨h1, h2⟩, h3⟩ := this
    refine ⟨fun e he hbd => by have := h1 e he; rw [hbd] at this; simpa [Nat.blt_eq] using this, fun b hb => by simpa [Nat.blt_eq] using h2 b hb, fun j hj oj fj hoj hfj => ?_⟩
    have := h3 j hj
    rw [nthO_eq, nthO_eq, hoj, hfj] at this
    simp only [Bool.or_eq_true, List.contains_eq_mem, decide_eq_true_eq] at this
    rcases this with h4 | h4
    · left
      rw [prAt_get ops.toList (Nat.lt_succ_self k) hkl] at h4
      exact h4
    · exact .inr (indep_out h4)
  have hstep : ∀ k, k < m → ∃ o fp, ops.toList[k]? = some o ∧ fs[k]? = some fp ∧ Step P F N ops.toList o (S k) (S (k + 1)) fp := by
    intro k hk
    have hkl : k < ops.toList.length := by omega
    obtain ⟨fp, h1, h2⟩ := hst k _ hk (List.getElem?_eq_getElem hkl)
    exact ⟨_, fp, List.getElem?_eq_getElem hkl, h1, h2⟩
  have mono1 : ∀ k, k < m → (S k).nx ≤ (S (k + 1)).nx := by
    intro k hk
    obtain ⟨o, fp, _, _, ⟨val, rd, upd, _, _, _, _, _, _, h⟩⟩ := hstep k hk
    exact h.1
  have mono : ∀ d j, j + d ≤ m → (S j).nx ≤ (S (j + d)).nx := by
    intro d
    induction d with
    | zero => intro j _; exact Nat.le_refl _
    | succ d ih =>
      intro j hj
      exact Nat.le_trans (ih j (by omega)) (mono1 (j + d) (by omega))
  have mono' : ∀ j k, j ≤ k → k ≤ m → (S j).nx ≤ (S k).nx := by
    intro j k h1 h2
    have := mono (k - j) j (by omega)
    rwa [show j + (k - j) = k by omega] at this
  let wrT : Nat → Nat → Prop := fun k i => (ops.toList[k]?).bind (·.dst) = some i
  let wrH : Nat → Nat → Prop := fun k b => b ∈ ((fs[k]?).map (·.up)).getD []
  let valT : Nat → Nat → V := fun k i => (S (k + 1)).get i
  let valH : Nat → Nat → Option Blk := fun k b => hget (S (k + 1)).h b
  have txT : Txt wrT valT s.get m (fun j i => (S j).get i) := by
    refine ⟨fun i => by show (S 0).get i = _; rw [e0], fun k hk i => ⟨fun _ => rfl, fun hn => ?_⟩⟩
    obtain ⟨o, fp, ho, hf, ⟨val, rd, upd, _, _, _, h4, _⟩⟩ := hstep k hk
    show (S (k + 1)).get i = (S k).get i
    rw [h4, if_neg]
    intro hd
    exact hn (by show (ops.toList[k]?).bind (·.dst) = some i; rw [ho]; exact hd)
  have txH : Txt wrH valH (hget s.h) m (fun j b => hget (S j).h b) := by
    refine ⟨fun i => by show hget (S 0).h i = _; rw [e0], fun k hk b => ⟨fun _ => rfl, fun hn => ?_⟩⟩
    obtain ⟨o, fp, ho, hf, ⟨val, rd, upd, _, h2, _, _, h5, _⟩⟩ := hstep k hk
    show hget (S (k + 1)).h b = hget (S k).h b
    rw [h5, hget_append, if_neg]
    intro hd
    exact hn (by show b ∈ ((fs[k]?).map (·.up)).getD []; rw [hf]; simpa [h2] using hd)
  have hnone : ∀ i, i ≤ m → ∀ j, j ≤ i → ∀ b, (S i).nx ≤ b → hget (S j).h b = none := by
    intro i hi j
    induction j with
    | zero =>
      intro _ b hb
      rw [e0]
      cases hg : hget s.h b with
      | none => rfl
      | some k =>
        have := hs.hr.hdom b k hg
        have := mono' 0 i (Nat.zero_le _) hi
        rw [e0] at this
        omega
    | succ j ih =>
      intro hj b hb
      obtain ⟨o, fp, ho, hf, ⟨val, rd, upd, _, h2, h3, _, h5, _⟩⟩ := hstep j (by omega)
      rw [h5, hget_append, if_neg]
      · exact ih (by omega) b hb
      · intro hm
        have := (hat j o fp (by omega) ho hf).2.1 b (by rw [h2]; exact hm)
        have := mono' (j + 1) i hj hi
        omega
  have hsz0 : ops.toList.length = ops.size := by simp
  have hall : ∀ (k : Nat) (o : Oper), ops.toList[k]? = some o → ∀ e ∈ o.after.toList, Region.binds .any e = true → e.on < k := by
    intro k o ho
    rcases Nat.lt_or_ge k m with h | h
    · obtain ⟨o', fp, ho', hf, _⟩ := hstep k h
      rw [ho] at ho'; cases ho'
      exact (hat k o fp h ho hf).1
    · obtain ⟨o', ho', h2, _⟩ := htail k h (List.getElem?_eq_some_iff.1 ho).1
      rw [ho] at ho'; cases ho'
      exact h2
  have tail : ∀ (d : Nat) (listed : Array Bool) (a1 : Act) (w1 : World) (G1 : Gh) (s1 : St), d ≤ ops.toList.length - m → listed.size = ops.size →
      (∀ k, k < ops.toList.length → listed.getD k false = decide (k < ops.toList.length - d)) → Sim G1 N s1 a1 w1 → base ≤ s1.nx → Evo base G w G1 w1 → a1.defers = a.defers →
      runOps P T N ops.toList (ops.toList.drop (ops.toList.length - d)) s1 (Q .normal) → wpAnyIn F n P .any ops (Post N base G w a.defers Q) d listed a1 w1 := by
    intro d
    induction d with
    | zero =>
      intro listed a1 w1 G1 s1 hd hsz hE hsim hb1 hev hdf hrun
      rcases runOps_drop hrun with ⟨_, hQ⟩ | ⟨o, ho, _⟩
      · refine ⟨?_, .normal, s1, G1, rfl, hQ, hsim, hev, hb1, Dfr.of_eq hdf⟩
        unfold Region.ready
        rw [List.filter_eq_nil_iff]
        intro k hk
        have hk := List.mem_range.1 hk
        have := hE k (by simpa using hk)
        have h2 : listed.getD k true = true := by
          have hk2 : k < ops.toList.length := by simpa using hk
          simp only [Array.getD] at this ⊢
          split
          · rename_i hh; simpa [hh, hk] using this
          · rfl
        simp [h2]
      · have := (List.getElem?_eq_some_iff.1 ho).1; omega
    | succ d ih =>
      intro listed a1 w1 G1 s1 hd hsz hE hsim hb1 hev hdf hrun
      let t := ops.toList.length - (d + 1)
      have ht : t < ops.toList.length := by omega
      have htm : m ≤ t := by omega
      have hts : t < listed.size := by rw [hsz]; simpa using ht
      obtain ⟨o, ho, ho2, hpr⟩ := htail t htm ht
      have ho' : ops[t]? = some o := by simpa using ho
      have hlt : listed.getD t false = false := by rw [hE t ht]; simp [t]
      rcases runOps_drop hrun with ⟨h1, _⟩ | ⟨o2, ho2', hop⟩
      · omega
      have e2 : ops.toList[t]? = some o2 := ho2'
      rw [ho] at e2; cases e2
      refine ⟨fun hrd => ?_, fun i hi => ?_⟩
      · exfalso
        have hmem : t ∈ Region.ready .any ops listed := by
          unfold Region.ready
          rw [List.mem_filter]
          refine ⟨List.mem_range.2 (by simpa using ht), ?_⟩
          have h2 : listed.getD t true = false := by
            simp only [Array.getD, hts, dif_pos] at hlt ⊢
            exact hlt
          simp only [h2, ho', Bool.not_false, Option.map_some, Option.getD_some, Bool.true_and, Array.all_eq_true_iff_forall_mem, Bool.or_eq_true, Bool.not_eq_true']
          intro e he
          cases hbd : Region.binds .any e with
          | false => exact .inl rfl
          | true =>
            right
            have := ho2 e (by simpa using he) hbd
            rw [hE e.on (by omega)]
            simp; omega
        rw [hrd] at hmem
        simp at hmem
      · have hit : i = t := by
          unfold Region.ready at hi
          rw [List.mem_filter] at hi
          obtain ⟨hi1, hi2⟩ := hi
          have hi1 : i < ops.toList.length := by simpa using List.mem_range.1 hi1
          have his : i < listed.size := by rw [hsz]; simpa using hi1
          have ho3 : ops[i]? = some ops.toList[i] := by simp [List.getElem?_eq_getElem hi1]
          simp only [ho3, Option.map_some, Option.getD_some, Bool.and_eq_true, Bool.not_eq_true', Array.all_eq_true_iff_forall_mem, Bool.or_eq_true] at hi2
          obtain ⟨hl, hed⟩ := hi2
          have hl' : listed.getD i false = false := by
            simp only [Array.getD, his, dif_pos] at hl ⊢
            exact hl
          rw [hE i hi1] at hl'
          simp only [decide_eq_false_iff_not] at hl'
          rcases Nat.lt_or_ge t i with hlt2 | hge
          · exfalso
            obtain ⟨o4, ho4, hb4, hp4⟩ := htail i (by omega) hi1
            have ho4' : ops[i]? = some o4 := by simpa using ho4
            rw [ho3] at ho4'
            cases ho4'
            have : t ∈ pr ops.toList i := hp4 t hlt2
            have clos : ∀ k, k < ops.toList.length → listed.getD k false = true → ∀ j ∈ pr ops.toList k, j ≤ k → listed.getD j false = true := by
              intro k hk hk2 j hj hjk
              rw [hE k hk] at hk2
              rw [hE j (by omega)]
              simp at hk2 ⊢; omega
            obtain ⟨e, he, hbd, hj⟩ := (pr_eq ops.toList ho4 hb4).1 this
            have h1 := (hed e (by simpa using he)).resolve_left (by rw [hbd]; simp)
            have h5 := hb4 e he hbd
            rw [hE e.on (by omega)] at h1
            simp only [decide_eq_true_eq] at h1
            have : t ≤ e.on := by
              rcases hj with hj | hj
              · exact Nat.le_of_eq hj
              · rcases Nat.lt_or_ge e.on t with h6 | h6
                · exfalso
                  have := pr_lt ops.toList hall hj
                  omega
                · exact h6
            omega
          · omega
        subst hit
        have goes := opK_ok hT hF hop hsim hb1 (n := n) (next := wpAnyIn F n P .any ops (Post N base G w a.defers Q) d (listed.setIfInBounds t true)) (Q := Post N base G w a.defers Q) (fun s2 a2 w2 G2 hK hs2 he2 hb2 hdf2 => by
          refine ih (listed.setIfInBounds t true) a2 w2 G2 s2 (by omega) (by simp [hsz]) (fun k hk => ?_) hs2 hb2 (hev.trans he2) (hdf2.trans hdf) (by rw [show ops.toList.length - d = t + 1 by omega]; exact hK)
          simp only [Array.getD_eq_getD_getElem?]
          by_cases e : k = t
          · subst e; rw [Array.getElem?_setIfInBounds_self_of_lt hts]; simp; omega
          · rw [Array.getElem?_setIfInBounds_ne (Ne.symm e)]
            have := hE k hk
            rw [Array.getD_eq_getD_getElem?] at this
            rw [this]
            congr 1
            apply propext
            omega)
        unfold wpOpIn
        rw [ho']
        unfold Goes at goes
        simpa using goes
  have main : ∀ (fuel : Nat) (listed : Array Bool) (a1 : Act) (w1 : World) (G1 : Gh) (s' : St), listed.size = ops.size → listed.toList.count false = fuel + (ops.toList.length - m) →
      (∀ k, m ≤ k → k < ops.toList.length → listed.getD k false = false) →
      (∀ k, k < m → listed.getD k false = true → ∀ j ∈ pr ops.toList k, listed.getD j false = true) → Sim G1 N s' a1 w1 →
      (∀ i, s'.get i = stE wrT valT (fun k => listed.getD k false) s.get m i) → (∀ b, hget s'.h b = stE wrH valH (fun k => listed.getD k false) (hget s.h) m b) →
      s.nx ≤ s'.nx → s'.nx ≤ (S m).nx → (∀ k, k < m → listed.getD k false = false → ∀ b, (S k).nx ≤ b → b < (S (k + 1)).nx → G1.ι b = none) →
      EvoA G w G1 w1 → a1.defers = a.defers → wpAnyIn F n P .any ops (Post N base G w a.defers Q) (fuel + (ops.toList.length - m)) listed a1 w1 := by
    intro fuel
    induction fuel with
    | zero =>
      intro listed a1 w1 G1 s' hsz hcnt htf hcl hsim hT' hH' hn1 hn2 hnew hev hdf
      have hE : ∀ k, k < m → listed.getD k false = true := by
        have := cnt_split (listed := listed) hsz0 hm0 hsz htf
        exact cnt_zero (by omega)
      rw [Nat.zero_add]
      refine tail (ops.toList.length - m) listed a1 w1 G1 (S m) (Nat.le_refl _) hsz (fun k hk => ?_) ⟨hsim.size, fun i => ?_, ?_⟩ (Nat.le_trans hb (Nat.le_trans hn1 hn2)) (hev base) hdf (by rw [show ops.toList.length - (ops.toList.length - m) = m by omega]; exact hQ)
      · rw [show ops.toList.length - (ops.toList.length - m) = m by omega]
        by_cases hkm : k < m
        · rw [hE k hkm]; simp [hkm]
        · rw [htf k (by omega) hk]; simp [hkm]
      · have := hsim.tmp i
        rw [hT' i, stE_all txT hE _ (Nat.le_refl _)] at this
        exact this
      · exact hsim.hr.congr (fun b => by rw [hH' b, stE_all txH hE _ (Nat.le_refl _)]) hn2
    | succ fuel ih =>
      intro listed a1 w1 G1 s' hsz hcnt htf hcl hsim hT' hH' hn1 hn2 hnew hev hdf
      rw [show fuel + 1 + (ops.toList.length - m) = (fuel + (ops.toList.length - m)) + 1 by omega]
      have hsome : ∃ j, j < m ∧ listed.getD j false = false := by
        rcases Classical.em (∃ j, j < m ∧ listed.getD j false = false) with h | h
        · exact h
        · exfalso
          have h1 := cnt_split (listed := listed) hsz0 hm0 hsz htf
          have h2 : (listed.toList.take m).count false = 0 := cnt_all (fun k hk => by cases hh : listed.getD k false with | true => rfl | false => exact absurd ⟨k, hk, hh⟩ h)
          omega
      refine ⟨fun hrd => ?_, fun i hi => ?_⟩
      · exfalso
        have hE : ∀ k, k < m → listed.getD k false = true := by
          intro k
          induction k using Nat.strongRecOn with
          | _ k ihk =>
            intro hk
            cases hl : listed.getD k false with
            | true => rfl
            | false =>
              exfalso
              obtain ⟨o, fp, ho, hf, _⟩ := hstep k hk
              have hmem : k ∈ Region.ready .any ops listed := by
                unfold Region.ready
                rw [List.mem_filter]
                have hkl : k < ops.toList.length := by omega
                have hks : k < listed.size := by rw [hsz]; simpa using hkl
                refine ⟨List.mem_range.2 (by simpa using hkl), ?_⟩
                have h2 : listed.getD k true = false := by
                  simp only [Array.getD, hks, dif_pos] at hl ⊢
                  exact hl
                have ho' : ops[k]? = some o := by simpa using ho
                simp only [h2, ho', Bool.not_false, Option.map_some, Option.getD_some, Bool.true_and, Array.all_eq_true_iff_forall_mem, Bool.or_eq_true, Bool.not_eq_true']
                intro e he
                cases hbd : Region.binds .any e with
                | false => exact .inl rfl
                | true =>
                  right
                  have := (hat k o fp hk ho hf).1 e (by simpa using he) hbd
                  exact ihk e.on this (by omega)
              rw [hrd] at hmem
              simp at hmem
        obtain ⟨j, hj, hj2⟩ := hsome
        rw [hE j hj] at hj2; cases hj2
      · unfold Region.ready at hi
        rw [List.mem_filter] at hi
        obtain ⟨hi1, hi2⟩ := hi
        have hi0 : i < ops.toList.length := by simpa using List.mem_range.1 hi1
        have his : i < listed.size := by rw [hsz]; simpa using hi0
        have hi1 : i < m := by
          rcases Nat.lt_or_ge i m with h | h
          · exact h
          · exfalso
            obtain ⟨o4, ho4, hb4, hp4⟩ := htail i h hi0
            have ho4' : ops[i]? = some o4 := by simpa using ho4
            simp only [ho4', Option.map_some, Option.getD_some, Bool.and_eq_true, Bool.not_eq_true', Array.all_eq_true_iff_forall_mem, Bool.or_eq_true] at hi2
            obtain ⟨j, hj, hj2⟩ := hsome
            obtain ⟨e, he, hbd, hje⟩ := (pr_eq ops.toList ho4 hb4).1 (hp4 j (by omega))
            have h1 := (hi2.2 e (by simpa using he)).resolve_left (by rw [hbd]; simp)
            rcases Nat.lt_or_ge e.on m with h5 | h5
            · rcases hje with rfl | hje
              · rw [h1] at hj2; cases hj2
              · rw [hcl e.on h5 h1 j hje] at hj2; cases hj2
            · have := hb4 e he hbd
              rw [htf e.on h5 (by omega)] at h1; cases h1
        obtain ⟨o, fp, ho, hf, ⟨val, rd, upd, q1, q2, q3, q4, q5, q6, q7⟩⟩ := hstep i hi1
        have ho' : ops[i]? = some o := by simpa using ho
        simp only [ho', Option.map_some, Option.getD_some, Bool.and_eq_true, Bool.not_eq_true', Array.all_eq_true_iff_forall_mem, Bool.or_eq_true] at hi2
        obtain ⟨hl, hed⟩ := hi2
        have hl' : listed.getD i false = false := by
          simp only [Array.getD, his, dif_pos] at hl ⊢
          exact hl
        have hli : listed.toList[i]? = some false := by
          simp only [Array.getD, his, dif_pos] at hl
          have hl2 : listed[i] = false := hl
          simp [his, hl2]
        have hpri : ∀ j ∈ pr ops.toList i, listed.getD j false = true := by
          intro j hj
          obtain ⟨e, he, hbd, hj⟩ := (pr_eq ops.toList ho (hat i o fp hi1 ho hf).1).1 hj
          have h1 := (hed e (by simpa using he)).resolve_left (by rw [hbd]; simp)
          rcases hj with rfl | hj
          · exact h1
          · exact hcl e.on (Nat.lt_trans ((hat i o fp hi1 ho hf).1 e he hbd) hi1) h1 j hj
        have hlate : ∀ j, i < j → j < m → ∀ oj fj, ops.toList[j]? = some oj → fs[j]? = some fj → listed.getD j false = true → Ind ops.toList o fp oj fj := by
          intro j hj hjm oj fj hoj hfj hlj
          rcases (hat j oj fj hjm hoj hfj).2.2 i hj o fp ho hf with h1 | h1
          · have := hcl j hjm hlj i h1
            rw [hl'] at this; cases this
          · exact h1
        have wrT_iff : ∀ j oj x, ops.toList[j]? = some oj → (wrT j x ↔ oj.dst = some x) := fun j oj x hoj => by
          show (ops.toList[j]?).bind (·.dst) = some x ↔ _
          rw [hoj]; rfl
        have wrH_iff : ∀ j fj b, fs[j]? = some fj → (wrH j b ↔ b ∈ fj.up) := fun j fj b hfj => by
          show b ∈ ((fs[j]?).map (·.up)).getD [] ↔ _
          rw [hfj]; rfl
        have agT : ∀ x ∈ rdsOf ops.toList o, s'.get x = (S i).get x := by
          intro x hx
          rw [hT' x]
          refine stE_agree txT hi1 hl' (fun j hj hwj => ?_) (fun j hj hjm hwj => ?_)
          · obtain ⟨oj, fj, hoj, hfj, _⟩ := hstep j (by omega)
            rcases (hat i o fp hi1 ho hf).2.2 j hj oj fj hoj hfj with h1 | h1
            · exact hpri j h1
            · exact absurd hx (h1.r1 x ((wrT_iff j oj x hoj).1 hwj))
          · obtain ⟨oj, fj, hoj, hfj, _⟩ := hstep j hjm
            cases hlj : listed.getD j false with
            | false => rfl
            | true => exact absurd hx ((hlate j hj hjm oj fj hoj hfj hlj).r2 x ((wrT_iff j oj x hoj).1 hwj))
        have agH : ∀ b ∈ fp.rd, hget s'.h b = hget (S i).h b := by
          intro b hx
          rw [hH' b]
          refine stE_agree txH hi1 hl' (fun j hj hwj => ?_) (fun j hj hjm hwj => ?_)
          · obtain ⟨oj, fj, hoj, hfj, _⟩ := hstep j (by omega)
            rcases (hat i o fp hi1 ho hf).2.2 j hj oj fj hoj hfj with h1 | h1
            · exact hpri j h1
            · exact absurd hx (h1.r4 b ((wrH_iff j fj b hfj).1 hwj)).1
          · obtain ⟨oj, fj, hoj, hfj, _⟩ := hstep j hjm
            cases hlj : listed.getD j false with
            | false => rfl
            | true => exact absurd hx ((hlate j hj hjm oj fj hoj hfj hlj).r5 b ((wrH_iff j fj b hfj).1 hwj))
        have hE' : (fun k => (listed.setIfInBounds i true).getD k false) = fun k => if k = i then true else listed.getD k false := by
          funext k
          simp only [Array.getD_eq_getD_getElem?]
          by_cases e : k = i
          · subst e; rw [Array.getElem?_setIfInBounds_self_of_lt his]; simp
          · rw [Array.getElem?_setIfInBounds_ne (Ne.symm e)]; simp [e]
        have goes := q7.2 n G1 a1 w1 s' (Post N base G w a.defers Q) (wpAnyIn F n P .any ops (Post N base G w a.defers Q) (fuel + (ops.toList.length - m)) (listed.setIfInBounds i true)) hsim agT
          (fun b ob hm => by
            rw [agH b (by rw [q1]; exact List.mem_map_of_mem hm)]
            rcases q6 b ob hm with h1 | ⟨rfl, h1⟩
            · exact h1
            · exact hnone i (by omega) i (Nat.le_refl _) b h1) (hnew i hi1 hl') (fun a2 w2 G2 z1 z2 z3 z4 z5 z6 => by
            refine ih (listed.setIfInBounds i true) a2 w2 G2 ⟨match o.dst with | some d => (d, val) :: s'.t | none => s'.t, upd ++ s'.h, max s'.nx (S (i + 1)).nx⟩ (by simp [hsz]) ?_ ?_ ?_ ⟨z1, fun x => ?_, z3⟩ (fun x => ?_) (fun b => ?_) (by simp only; omega) ?_ ?_ (hev.trans z5) (z6.trans hdf)
            · rw [Array.toList_setIfInBounds]
              have := count_set hli
              omega
            · intro k hk hkl
              have e1 : (listed.setIfInBounds i true).getD k false = if k = i then true else listed.getD k false := congrFun hE' k
              rw [e1, if_neg (by omega)]
              exact htf k hk hkl
            · intro k hk hlk j hj
              have e1 : (listed.setIfInBounds i true).getD k false = if k = i then true else listed.getD k false := congrFun hE' k
              have e2 : (listed.setIfInBounds i true).getD j false = if j = i then true else listed.getD j false := congrFun hE' j
              rw [e1] at hlk
              rw [e2]
              by_cases ej : j = i
              · simp [ej]
              · simp only [ej, if_false]
                by_cases ek : k = i
                · subst ek; exact hpri j hj
                · simp only [ek, if_false] at hlk
                  exact hcl k hk hlk j hj
            · have := z2 x
              cases hd : o.dst with
              | none => simpa [hd, St.get] using this
              | some d =>
                rw [hd] at this
                simp only
                rw [get_put s'.t s'.h _ s'.nx _]
                simpa using this
            · rw [hE', stE_after hi1 hl' (fun hw j hj hjm hwj => by
                obtain ⟨oj, fj, hoj, hfj, _⟩ := hstep j hjm
                cases hlj : listed.getD j false with
                | false => rfl
                | true => exact absurd ((wrT_iff j oj x hoj).1 hwj) ((hlate j hj hjm oj fj hoj hfj hlj).r3 x ((wrT_iff i o x ho).1 hw)))]
              have e4 := q4 x
              by_cases hw : wrT i x
              · have hd := (wrT_iff i o x ho).1 hw
                rw [if_pos hw]
                show _ = (S (i + 1)).get x
                rw [e4, if_pos hd, hd]
                show look ((x, val) :: s'.t) x = val
                simp [look, Nat.beq_refl]
              · rw [if_neg hw, ← hT' x]
                have hd : ¬ o.dst = some x := fun h => hw ((wrT_iff i o x ho).2 h)
                cases hd' : o.dst with
                | none => rfl
                | some d =>
                  have hne : ¬ d = x := fun h => hd (by rw [hd', h])
                  simp only
                  rw [get_put s'.t s'.h _ s'.nx _]
                  simp [hne]
            · rw [hE', stE_after hi1 hl' (fun hw j hj hjm hwj => by
                obtain ⟨oj, fj, hoj, hfj, _⟩ := hstep j hjm
                cases hlj : listed.getD j false with
                | false => rfl
                | true => exact absurd ((wrH_iff j fj b hfj).1 hwj) ((hlate j hj hjm oj fj hoj hfj hlj).r4 b ((wrH_iff i fp b hf).1 hw)).2)]
              have e5 := q5 b
              rw [hget_append]
              by_cases hw : wrH i b
              · have hd := (wrH_iff i fp b hf).1 hw
                rw [q2] at hd
                rw [if_pos hw, if_pos hd]
                show _ = hget (S (i + 1)).h b
                rw [e5, hget_append, if_pos hd]
              · rw [if_neg hw, ← hH' b, if_neg]
                intro hd
                exact hw ((wrH_iff i fp b hf).2 (by rw [q2]; exact hd))
            · have := mono' (i + 1) m (by omega) (Nat.le_refl _)
              simp only
              omega
            · intro k hk hlk b h1 h2
              have e1 : (listed.setIfInBounds i true).getD k false = if k = i then true else listed.getD k false := congrFun hE' k
              rw [e1] at hlk
              by_cases ek : k = i
              · simp [ek] at hlk
              · simp only [ek, if_false] at hlk
                rw [z4 b]
                · exact hnew k hk hlk b h1 h2
                · rcases Nat.lt_or_gt_of_ne ek with hlt | hgt
                  · left
                    have := mono' (k + 1) i (by omega) (by omega)
                    omega
                  · right
                    have := mono' (i + 1) k (by omega) (by omega)
                    omega)
        unfold wpOpIn
        rw [ho']
        unfold Goes at goes
        simpa using goes
  have hmain := main m (Array.replicate ops.size false) a w.drew G s (by simp) (by simp [hsz0]; omega) (fun k _ _ => by simp [Array.getD]) (fun k hk hl => by
    exfalso
    simp [Array.getD] at hl) ⟨hs.size, fun i => (EvoA.drew (G := G) (w := w)).vr (hs.tmp i), hs.hr.drew⟩ (fun i => ?_) (fun b => ?_) (Nat.le_refl _) ?_ ?_ EvoA.drew rfl
  · rw [show m + (ops.toList.length - m) = ops.size by simp only [Array.length_toList] at *; omega] at hmain
    exact wpIn_region_any hm hmain
  · rw [stE_none (fun k => by simp [Array.getD])]
  · rw [stE_none (fun k => by simp [Array.getD])]
  · have := mono' 0 m (Nat.zero_le _) (Nat.le_refl _)
    rw [e0] at this
    exact this
  · intro k hk _ b h1 _
    have := mono' 0 k (Nat.zero_le _) (by omega)
    rw [e0] at this
    exact hs.hr.dom b (by omega)
end
end Go.Proofs.YtfaglgoanmcifaaGreat
