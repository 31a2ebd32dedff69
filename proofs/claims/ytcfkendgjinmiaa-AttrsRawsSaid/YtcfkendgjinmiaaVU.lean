/- The rule of regions that draw their order. -/
import Derived.Test.YtcfkendgjinmiaaVQ
set_option linter.unusedVariables false
set_option linter.unusedSimpArgs false
namespace Go.Proofs.Ytcfkendgjinmiaa
open Go.RowKit

section
variable {P : Program} {T : Tab} {F : Fence} {N : Nat}
theorem stE_none {α : Type} {wr : Nat → Nat → Prop} [∀ k i, Decidable (wr k i)] {val : Nat → Nat → α} {E : Nat → Bool} {v0 : Nat → α} (hE : ∀ k, E k = false) (i : Nat) : ∀ m, stE wr val E v0 m i = v0 i
  | 0 => rfl
  | m + 1 => by
    rw [stE_succ, stE_none hE i m]
    simp [hE]
theorem count_set {l : List Bool} {i : Nat} (h : l[i]? = some false) : (l.set i true).count false + 1 = l.count false := by
  induction l generalizing i with
  | nil => simp at h
  | cons x l ih =>
    cases i with
    | zero => simp at h; subst h; simp
    | succ i =>
      have := ih (by simpa using h)
      simp only [List.set_cons_succ, List.count_cons]
      omega

theorem vc_draw (hT : TabOk P T) (hm : P.follows .mixedOrders = true) (hF : FW F) {base id : Nat} {ops : Array Oper} {s : St} {Q : Ex → St → Prop}
    (h : drawK P T N ops.toList ops.toList s [] (fun fps s' => drawOk ops.toList fps = true ∧ Q .normal s')) : VC P F N base (.region id ops true) s Q := by
  intro n G a w hs hb
  obtain ⟨S, fs, e0, el, ⟨hok, hQ⟩, hst⟩ := drawK_out hT hF h
  rw [List.nil_append] at hok
  simp only [drawOk, Bool.and_eq_true, List.all_eq_true, List.mem_range] at hok
  obtain ⟨_, hok⟩ := hok
  have hall : ∀ k o fp, ops.toList[k]? = some o → fs[k]? = some fp → k < ops.toList.length := fun k o fp ho _ => (List.getElem?_eq_some_iff.1 ho).1
  have hat : ∀ k o fp, ops.toList[k]? = some o → fs[k]? = some fp → (∀ e ∈ o.after.toList, Region.binds .any e = true → e.on < k) ∧ (∀ b ∈ fp.up, b < fp.hi) ∧ ∀ j, j < k → ∀ oj fj, ops.toList[j]? = some oj → fs[j]? = some fj → j ∈ pr ops.toList k ∨ Ind ops.toList oj fj o fp := by
    intro k o fp ho hf
    have hk := (List.getElem?_eq_some_iff.1 ho).1
    have := hok k hk
    rw [nthO_eq, nthO_eq, ho, hf] at this
    simp only [Bool.and_eq_true, List.all_eq_true, List.mem_range] at this
    obtain ⟨⟨h1, h2⟩, h3⟩ := this
    refine ⟨fun e he hbd => by have := h1 e he; rw [hbd] at this; simpa [Nat.blt_eq] using this, fun b hb => by simpa [Nat.blt_eq] using h2 b hb, fun j hj oj fj hoj hfj => ?_⟩
    have := h3 j hj
    rw [nthO_eq, nthO_eq, hoj, hfj] at this
    simp only [Bool.or_eq_true, List.contains_eq_mem, decide_eq_true_eq] at this
    rcases this with h4 | h4
    · left
      rw [prAt_get ops.toList (Nat.lt_succ_self k) hk] at h4
      exact h4
    · exact .inr (indep_out h4)
  have hstep : ∀ k, k < ops.toList.length → ∃ o fp, ops.toList[k]? = some o ∧ fs[k]? = some fp ∧ Step P F N ops.toList o (S k) (S (k + 1)) fp := by
    intro k hk
    obtain ⟨fp, h1, h2⟩ := hst k _ (List.getElem?_eq_getElem hk)
    exact ⟨_, fp, List.getElem?_eq_getElem hk, h1, h2⟩
  have mono1 : ∀ k, k < ops.toList.length → (S k).nx ≤ (S (k + 1)).nx := by
    intro k hk
    obtain ⟨o, fp, _, _, ⟨val, rd, upd, _, _, _, _, _, _, h⟩⟩ := hstep k hk
    exact h.1
  have mono : ∀ d j, j + d ≤ ops.toList.length → (S j).nx ≤ (S (j + d)).nx := by
    intro d
    induction d with
    | zero => intro j _; exact Nat.le_refl _
    | succ d ih =>
      intro j hj
      exact Nat.le_trans (ih j (by omega)) (mono1 (j + d) (by omega))
  have mono' : ∀ j k, j ≤ k → k ≤ ops.toList.length → (S j).nx ≤ (S k).nx := by
    intro j k h1 h2
    have := mono (k - j) j (by omega)
    rwa [show j + (k - j) = k by omega] at this
  let wrT : Nat → Nat → Prop := fun k i => (ops.toList[k]?).bind (·.dst) = some i
  let wrH : Nat → Nat → Prop := fun k b => b ∈ ((fs[k]?).map (·.up)).getD []
  let valT : Nat → Nat → V := fun k i => (S (k + 1)).get i
  let valH : Nat → Nat → Option Blk := fun k b => hget (S (k + 1)).h b
  have txT : Txt wrT valT s.get ops.toList.length (fun j i => (S j).get i) := by
    refine ⟨fun i => by show (S 0).get i = _; rw [e0], fun k hk i => ⟨fun _ => rfl, fun hn => ?_⟩⟩
    obtain ⟨o, fp, ho, hf, ⟨val, rd, upd, _, _, _, h4, _⟩⟩ := hstep k hk
    show (S (k + 1)).get i = (S k).get i
    rw [h4, if_neg]
    intro hd
    exact hn (by show (ops.toList[k]?).bind (·.dst) = some i; rw [ho]; exact hd)
  have txH : Txt wrH valH (hget s.h) ops.toList.length (fun j b => hget (S j).h b) := by
    refine ⟨fun i => by show hget (S 0).h i = _; rw [e0], fun k hk b => ⟨fun _ => rfl, fun hn => ?_⟩⟩
    obtain ⟨o, fp, ho, hf, ⟨val, rd, upd, _, h2, _, _, h5, _⟩⟩ := hstep k hk
    show hget (S (k + 1)).h b = hget (S k).h b
    rw [h5, hget_append, if_neg]
    intro hd
    exact hn (by show b ∈ ((fs[k]?).map (·.up)).getD []; rw [hf]; simpa [h2] using hd)
  have hnone : ∀ i, i ≤ ops.toList.length → ∀ j, j ≤ i → ∀ b, (S i).nx ≤ b → hget (S j).h b = none := by
    intro i hi j
    induction j with
    | zero =>
      intro _ b hb
      rw [e0]
      cases hg : hget s.h b with
      | none => rfl
      | some k =>
        have := hs.hr.hdom b k hg
        have := mono' 0 i (Nat.zero_le _) hi
        rw [e0] at this
        omega
    | succ j ih =>
      intro hj b hb
      obtain ⟨o, fp, ho, hf, ⟨val, rd, upd, _, h2, h3, _, h5, _⟩⟩ := hstep j (by omega)
      rw [h5, hget_append, if_neg]
      · exact ih (by omega) b hb
      · intro hm
        have := (hat j o fp ho hf).2.1 b (by rw [h2]; exact hm)
        have := mono' (j + 1) i hj hi
        omega
  have main : ∀ (fuel : Nat) (listed : Array Bool) (a1 : Act) (w1 : World) (G1 : Gh) (s' : St), listed.size = ops.size → listed.toList.count false = fuel →
      (∀ k, k < ops.toList.length → listed.getD k false = true → ∀ j ∈ pr ops.toList k, listed.getD j false = true) → Sim G1 N s' a1 w1 →
      (∀ i, s'.get i = stE wrT valT (fun k => listed.getD k false) s.get ops.toList.length i) → (∀ b, hget s'.h b = stE wrH valH (fun k => listed.getD k false) (hget s.h) ops.toList.length b) →
      s.nx ≤ s'.nx → s'.nx ≤ (S ops.toList.length).nx → (∀ k, k < ops.toList.length → listed.getD k false = false → ∀ b, (S k).nx ≤ b → b < (S (k + 1)).nx → G1.ι b = none) →
      EvoA G w G1 w1 → a1.defers = a.defers → wpAnyIn F n P .any ops (Post N base G w a.defers Q) fuel listed a1 w1 := by
    intro fuel
    induction fuel with
    | zero =>
      intro listed a1 w1 G1 s' hsz hcnt hcl hsim hT' hH' hn1 hn2 hnew hev hdf
      have hE : ∀ k, k < ops.toList.length → listed.getD k false = true := by
        intro k hk
        have hk' : k < listed.toList.length := by simpa [hsz] using hk
        have := List.count_eq_zero.1 hcnt
        have h1 : listed.toList[k] ≠ false := fun h => this (h ▸ List.getElem_mem hk')
        simp only [Array.getElem_toList] at h1
        simp [Array.getD, show k < listed.size by simpa using hk', h1]
      refine ⟨?_, .normal, S ops.toList.length, G1, rfl, hQ, ⟨hsim.size, fun i => ?_, ?_⟩, hev base, Nat.le_trans hb (Nat.le_trans hn1 hn2), Dfr.of_eq hdf⟩
      · unfold Region.ready
        rw [List.filter_eq_nil_iff]
        intro k hk
        have hk := List.mem_range.1 hk
        have := hE k (by simpa using hk)
        have h2 : listed.getD k true = true := by
          simp only [Array.getD] at this ⊢
          split
          · rename_i hh; simpa [hh] using this
          · rfl
        simp [h2]
      · have := hsim.tmp i
        rw [hT' i, stE_all txT hE _ (Nat.le_refl _)] at this
        exact this
      · exact hsim.hr.congr (fun b => by rw [hH' b, stE_all txH hE _ (Nat.le_refl _)]) hn2
    | succ fuel ih =>
      intro listed a1 w1 G1 s' hsz hcnt hcl hsim hT' hH' hn1 hn2 hnew hev hdf
      refine ⟨fun hrd => ?_, fun i hi => ?_⟩
      · exfalso
        have hE : ∀ k, k < ops.toList.length → listed.getD k false = true := by
          intro k
          induction k using Nat.strongRecOn with
          | _ k ihk =>
            intro hk
            cases hl : listed.getD k false with
            | true => rfl
            | false =>
              exfalso
              obtain ⟨o, fp, ho, hf, _⟩ := hstep k hk
              have hmem : k ∈ Region.ready .any ops listed := by
                unfold Region.ready
                rw [List.mem_filter]
                have hks : k < listed.size := by rw [hsz]; simpa using hk
                refine ⟨List.mem_range.2 (by simpa using hk), ?_⟩
                have h2 : listed.getD k true = false := by
                  simp only [Array.getD, hks, dif_pos] at hl ⊢
                  exact hl
                have ho' : ops[k]? = some o := by simpa using ho
                simp only [h2, ho', Bool.not_false, Option.map_some, Option.getD_some, Bool.true_and, Array.all_eq_true_iff_forall_mem, Bool.or_eq_true, Bool.not_eq_true']
                intro e he
                cases hbd : Region.binds .any e with
                | false => exact .inl rfl
                | true =>
                  right
                  have := (hat k o fp ho hf).1 e (by simpa using he) hbd
                  exact ihk e.on this (by omega)
              rw [hrd] at hmem
              simp at hmem
        have : listed.toList.count false = 0 := by
          rw [List.count_eq_zero]
          intro hmem
          obtain ⟨k, hk, hk'⟩ := List.mem_iff_getElem.1 hmem
          have := hE k (by simpa [hsz] using hk)
          have hks : k < listed.size := by simpa using hk
          simp only [Array.getElem_toList] at hk'
          rw [Array.getD_eq_getD_getElem?, Array.getElem?_eq_getElem hks, hk'] at this
          cases this
        omega
      · unfold Region.ready at hi
        rw [List.mem_filter] at hi
        obtain ⟨hi1, hi2⟩ := hi
        have hi1 : i < ops.toList.length := by simpa using List.mem_range.1 hi1
        have his : i < listed.size := by rw [hsz]; simpa using hi1
        obtain ⟨o, fp, ho, hf, ⟨val, rd, upd, q1, q2, q3, q4, q5, q6, q7⟩⟩ := hstep i hi1
        have ho' : ops[i]? = some o := by simpa using ho
        simp only [ho', Option.map_some, Option.getD_some, Bool.and_eq_true, Bool.not_eq_true', Array.all_eq_true_iff_forall_mem, Bool.or_eq_true] at hi2
        obtain ⟨hl, hed⟩ := hi2
        have hl' : listed.getD i false = false := by
          simp only [Array.getD, his, dif_pos] at hl ⊢
          exact hl
        have hli : listed.toList[i]? = some false := by
          simp only [Array.getD, his, dif_pos] at hl
          have hl2 : listed[i] = false := hl
          simp [his, hl2]
        have hpri : ∀ j ∈ pr ops.toList i, listed.getD j false = true := by
          intro j hj
          obtain ⟨e, he, hbd, hj⟩ := (pr_eq ops.toList ho (hat i o fp ho hf).1).1 hj
          have h1 := (hed e (by simpa using he)).resolve_left (by rw [hbd]; simp)
          rcases hj with rfl | hj
          · exact h1
          · exact hcl e.on (Nat.lt_trans ((hat i o fp ho hf).1 e he hbd) hi1) h1 j hj
        have hlate : ∀ j, i < j → j < ops.toList.length → ∀ oj fj, ops.toList[j]? = some oj → fs[j]? = some fj → listed.getD j false = true → Ind ops.toList o fp oj fj := by
          intro j hj hjm oj fj hoj hfj hlj
          rcases (hat j oj fj hoj hfj).2.2 i hj o fp ho hf with h1 | h1
          · have := hcl j hjm hlj i h1
            rw [hl'] at this; cases this
          · exact h1
        have wrT_iff : ∀ j oj x, ops.toList[j]? = some oj → (wrT j x ↔ oj.dst = some x) := fun j oj x hoj => by
          show (ops.toList[j]?).bind (·.dst) = some x ↔ _
          rw [hoj]; rfl
        have wrH_iff : ∀ j fj b, fs[j]? = some fj → (wrH j b ↔ b ∈ fj.up) := fun j fj b hfj => by
          show b ∈ ((fs[j]?).map (·.up)).getD [] ↔ _
          rw [hfj]; rfl
        have agT : ∀ x ∈ rdsOf ops.toList o, s'.get x = (S i).get x := by
          intro x hx
          rw [hT' x]
          refine stE_agree txT hi1 hl' (fun j hj hwj => ?_) (fun j hj hjm hwj => ?_)
          · obtain ⟨oj, fj, hoj, hfj, _⟩ := hstep j (by omega)
            rcases (hat i o fp ho hf).2.2 j hj oj fj hoj hfj with h1 | h1
            · exact hpri j h1
            · exact absurd hx (h1.r1 x ((wrT_iff j oj x hoj).1 hwj))
          · obtain ⟨oj, fj, hoj, hfj, _⟩ := hstep j hjm
            cases hlj : listed.getD j false with
            | false => rfl
            | true => exact absurd hx ((hlate j hj hjm oj fj hoj hfj hlj).r2 x ((wrT_iff j oj x hoj).1 hwj))
        have agH : ∀ b ∈ fp.rd, hget s'.h b = hget (S i).h b := by
          intro b hx
          rw [hH' b]
          refine stE_agree txH hi1 hl' (fun j hj hwj => ?_) (fun j hj hjm hwj => ?_)
          · obtain ⟨oj, fj, hoj, hfj, _⟩ := hstep j (by omega)
            rcases (hat i o fp ho hf).2.2 j hj oj fj hoj hfj with h1 | h1
            · exact hpri j h1
            · exact absurd hx (h1.r4 b ((wrH_iff j fj b hfj).1 hwj)).1
          · obtain ⟨oj, fj, hoj, hfj, _⟩ := hstep j hjm
            cases hlj : listed.getD j false with
            | false => rfl
            | true => exact absurd hx ((hlate j hj hjm oj fj hoj hfj hlj).r5 b ((wrH_iff j fj b hfj).1 hwj))
        have hE' : (fun k => (listed.setIfInBounds i true).getD k false) = fun k => if k = i then true else listed.getD k false := by
          funext k
          simp only [Array.getD_eq_getD_getElem?]
          by_cases e : k = i
          · subst e; rw [Array.getElem?_setIfInBounds_self_of_lt his]; simp
          · rw [Array.getElem?_setIfInBounds_ne (Ne.symm e)]; simp [e]
        have goes := q7.2 n G1 a1 w1 s' (Post N base G w a.defers Q) (wpAnyIn F n P .any ops (Post N base G w a.defers Q) fuel (listed.setIfInBounds i true)) hsim agT
          (fun b ob hm => by
            rw [agH b (by rw [q1]; exact List.mem_map_of_mem hm)]
            rcases q6 b ob hm with h1 | ⟨rfl, h1⟩
            · exact h1
            · exact hnone i (by omega) i (Nat.le_refl _) b h1) (hnew i hi1 hl') (fun a2 w2 G2 z1 z2 z3 z4 z5 z6 => by
            refine ih (listed.setIfInBounds i true) a2 w2 G2 ⟨match o.dst with | some d => (d, val) :: s'.t | none => s'.t, upd ++ s'.h, max s'.nx (S (i + 1)).nx⟩ (by simp [hsz]) ?_ ?_ ⟨z1, fun x => ?_, z3⟩ (fun x => ?_) (fun b => ?_) (by simp only; omega) ?_ ?_ (hev.trans z5) (z6.trans hdf)
            · rw [Array.toList_setIfInBounds]
              have := count_set hli
              omega
            · intro k hk hlk j hj
              have e1 : (listed.setIfInBounds i true).getD k false = if k = i then true else listed.getD k false := congrFun hE' k
              have e2 : (listed.setIfInBounds i true).getD j false = if j = i then true else listed.getD j false := congrFun hE' j
              rw [e1] at hlk
              rw [e2]
              by_cases ej : j = i
              · simp [ej]
              · simp only [ej, if_false]
                by_cases ek : k = i
                · subst ek; exact hpri j hj
                · simp only [ek, if_false] at hlk
                  exact hcl k hk hlk j hj
            · have := z2 x
              cases hd : o.dst with
              | none => simpa [hd, St.get] using this
              | some d =>
                rw [hd] at this
                simp only
                rw [get_put s'.t s'.h _ s'.nx _]
                simpa using this
            · rw [hE', stE_after hi1 hl' (fun hw j hj hjm hwj => by
                obtain ⟨oj, fj, hoj, hfj, _⟩ := hstep j hjm
                cases hlj : listed.getD j false with
                | false => rfl
                | true => exact absurd ((wrT_iff j oj x hoj).1 hwj) ((hlate j hj hjm oj fj hoj hfj hlj).r3 x ((wrT_iff i o x ho).1 hw)))]
              have e4 := q4 x
              by_cases hw : wrT i x
              · have hd := (wrT_iff i o x ho).1 hw
                rw [if_pos hw]
                show _ = (S (i + 1)).get x
                rw [e4, if_pos hd, hd]
                show look ((x, val) :: s'.t) x = val
                simp [look, Nat.beq_refl]
              · rw [if_neg hw, ← hT' x]
                have hd : ¬ o.dst = some x := fun h => hw ((wrT_iff i o x ho).2 h)
                cases hd' : o.dst with
                | none => rfl
                | some d =>
                  have hne : ¬ d = x := fun h => hd (by rw [hd', h])
                  simp only
                  rw [get_put s'.t s'.h _ s'.nx _]
                  simp [hne]
            · rw [hE', stE_after hi1 hl' (fun hw j hj hjm hwj => by
                obtain ⟨oj, fj, hoj, hfj, _⟩ := hstep j hjm
                cases hlj : listed.getD j false with
                | false => rfl
                | true => exact absurd ((wrH_iff j fj b hfj).1 hwj) ((hlate j hj hjm oj fj hoj hfj hlj).r4 b ((wrH_iff i fp b hf).1 hw)).2)]
              have e5 := q5 b
              rw [hget_append]
              by_cases hw : wrH i b
              · have hd := (wrH_iff i fp b hf).1 hw
                rw [q2] at hd
                rw [if_pos hw, if_pos hd]
                show _ = hget (S (i + 1)).h b
                rw [e5, hget_append, if_pos hd]
              · rw [if_neg hw, ← hH' b, if_neg]
                intro hd
                exact hw ((wrH_iff i fp b hf).2 (by rw [q2]; exact hd))
            · have := mono' (i + 1) ops.toList.length (by omega) (Nat.le_refl _)
              simp only
              omega
            · intro k hk hlk b h1 h2
              have e1 : (listed.setIfInBounds i true).getD k false = if k = i then true else listed.getD k false := congrFun hE' k
              rw [e1] at hlk
              by_cases ek : k = i
              · simp [ek] at hlk
              · simp only [ek, if_false] at hlk
                rw [z4 b]
                · exact hnew k hk hlk b h1 h2
                · rcases Nat.lt_or_gt_of_ne ek with hlt | hgt
                  · left
                    have := mono' (k + 1) i (by omega) (by omega)
                    omega
                  · right
                    have := mono' (i + 1) k (by omega) (by omega)
                    omega)
        unfold wpOpIn
        rw [ho']
        unfold Goes at goes
        simpa using goes
  refine wpIn_region_any hm (main ops.size _ a _ G s (by simp) (by simp) ?_ ⟨hs.size, fun i => (EvoA.drew (G := G) (w := w)).vr (hs.tmp i), hs.hr.drew⟩ (fun i => ?_) (fun b => ?_) (Nat.le_refl _) ?_ ?_ EvoA.drew rfl)
  · intro k hk hl
    exfalso
    simp [Array.getD] at hl
  · rw [stE_none (fun k => by simp [Array.getD])]
  · rw [stE_none (fun k => by simp [Array.getD])]
  · have := mono' 0 ops.toList.length (Nat.zero_le _) (Nat.le_refl _)
    rw [e0] at this
    exact this
  · intro k hk _ b h1 _
    have := mono' 0 k (Nat.zero_le _) (by omega)
    rw [e0] at this
    exact hs.hr.dom b (by omega)
end
end Go.Proofs.Ytcfkendgjinmiaa
