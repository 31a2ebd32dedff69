/- The rule of regions that draw their order, where the last operations stand behind all others. -/
import Derived.Test.YtcfkendgjinmiaaVU
set_option linter.unusedVariables false
set_option linter.unusedSimpArgs false
namespace Go.Proofs.Ytcfkendgjinmiaa
open Go.RowKit

section
variable {P : Program} {T : Tab} {F : Fence} {N : Nat}
/-- The last operations each stand behind all that is ahead of them. -/
def tailOk (all : List Oper) (m : Nat) : Bool :=
  (fun ps : List (List Nat) => (List.range all.length).all fun k => Nat.blt k m ||
    match nthO all k with
    | some o => o.after.toList.all (fun e => !Region.binds .any e || Nat.blt e.on k) && (List.range k).all fun j => (ps.getD k []).contains j
    | none => false) (prAt all all.length)
def drawOkN (all : List Oper) (m : Nat) (fps : List FP) : Bool :=
  (fun ps : List (List Nat) => Nat.beq fps.length m && Nat.ble m all.length && (List.range m).all fun k =>
    match nthO all k, nthO fps k with
    | some o, some fp => o.after.toList.all (fun e => !Region.binds .any e || Nat.blt e.on k) && fp.up.all (fun b => Nat.blt b fp.hi) && (List.range k).all fun j =>
      match nthO all j, nthO fps j with
      | some oj, some fj => (ps.getD k []).contains j || indep all oj fj o fp
      | _, _ => false
    | _, _ => false) (prAt all all.length)
theorem cnt_split {listed : Array Bool} {L z m : Nat} (hz : L = z) (hm : m ≤ L) (hs : listed.size = z) (h : ∀ k, m ≤ k → k < L → listed.getD k false = false) : listed.toList.count false = (listed.toList.take m).count false + (L - m) := by
  have e : listed.toList = listed.toList.take m ++ listed.toList.drop m := (List.take_append_drop _ _).symm
  have h2 : (listed.toList.drop m).count false = (listed.toList.drop m).length := by
    rw [List.count_eq_length]
    intro b hb
    obtain ⟨j, hj, rfl⟩ := List.mem_iff_getElem.1 hb
    have hj2 : j < L - m := by simp at hj; omega
    have := h (m + j) (by omega) (by omega)
    have hlt : m + j < listed.size := by omega
    rw [Array.getD_eq_getD_getElem?, Array.getElem?_eq_getElem hlt] at this
    simp at this ⊢
    exact this
  have h3 : (listed.toList.drop m).length = L - m := by simp; omega
  have h4 := congrArg (List.count false) e
  rw [List.count_append] at h4
  omega
theorem cnt_zero {listed : Array Bool} {m : Nat} (h : (listed.toList.take m).count false = 0 ∧ m ≤ listed.size) : ∀ k, k < m → listed.getD k false = true := by
  intro k hk
  have := List.count_eq_zero.1 h.1
  have hks : k < listed.size := by omega
  rw [Array.getD_eq_getD_getElem?, Array.getElem?_eq_getElem hks]
  cases hb : listed[k] with
  | true => rfl
  | false =>
    exfalso
    apply this
    rw [List.mem_take_iff_getElem]
    exact ⟨k, by simp; omega, by simpa using hb⟩
theorem cnt_all {listed : Array Bool} {m : Nat} (h : ∀ k, k < m → listed.getD k false = true) : (listed.toList.take m).count false = 0 := by
  rw [List.count_eq_zero]
  intro hm
  obtain ⟨k, hk, hk'⟩ := List.mem_take_iff_getElem.1 hm
  have := h k (by omega)
  have hks : k < listed.size := by simp at hk; omega
  rw [Array.getD_eq_getD_getElem?, Array.getElem?_eq_getElem hks] at this
  simp at this hk'
  rw [this] at hk'; cases hk'
theorem pr_lt (all : List Oper) (h : ∀ (k : Nat) (o : Oper), all[k]? = some o → ∀ e ∈ o.after.toList, Region.binds .any e = true → e.on < k) {k j : Nat} (hj : j ∈ pr all k) : j < k := by
  induction k using Nat.strongRecOn generalizing j with
  | _ k ih =>
    cases ho : all[k]? with
    | none =>
      simp only [pr, prAt, List.getD_eq_getElem?_getD] at hj
      rw [List.getElem?_append_right (by rw [prAt_len]; omega), prAt_len, Nat.sub_self, nthO_eq, ho] at hj
      simp at hj
    | some o =>
      obtain ⟨e, he, hbd, hje⟩ := (pr_eq all ho (h k o ho)).1 hj
      have h1 := h k o ho e he hbd
      rcases hje with rfl | hje
      · exact h1
      · have := ih e.on h1 hje; omega
theorem runOps_drop {all : List Oper} {t : Nat} {s : St} {K : St → Prop} (h : runOps P T N all (all.drop t) s K) : (all.length ≤ t ∧ K s) ∨ ∃ o, all[t]? = some o ∧ opK P T N all o s fun s' => runOps P T N all (all.drop (t + 1)) s' K := by
  by_cases ht : t < all.length
  · right
    rw [List.drop_eq_getElem_cons ht] at h
    exact ⟨_, List.getElem?_eq_getElem ht, h⟩
  · left
    rw [List.drop_eq_nil_of_le (by omega)] at h
    exact ⟨by omega, h⟩

theorem vc_draw_cut (hT : TabOk P T) (hm : P.follows .mixedOrders = true) (hF : FW F) {base id : Nat} {ops : Array Oper} {s : St} {Q : Ex → St → Prop} {m : Nat} (hm0 : m ≤ ops.toList.length)
    (h : drawK P T N ops.toList (ops.toList.take m) s [] (fun fps s' => (drawOkN ops.toList m fps && tailOk ops.toList m) = true ∧ runOps P T N ops.toList (ops.toList.drop m) s' (Q .normal))) : VC P F N base (.region id ops true) s Q := by
  intro n G a w hs hb
  obtain ⟨S, fs, e0, el, ⟨hok, hQ⟩, hst⟩ := drawK_out hT hF h
  rw [List.nil_append] at hok
  rw [Bool.and_eq_true] at hok
  obtain ⟨hok, htl⟩ := hok
  simp only [drawOkN, Bool.and_eq_true, List.all_eq_true, List.mem_range] at hok
  obtain ⟨_, hok⟩ := hok
  simp only [tailOk, Bool.or_eq_true, Bool.and_eq_true, List.all_eq_true, List.mem_range] at htl
  have hlm : (ops.toList.take m).length = m := by rw [List.length_take]; omega
  rw [hlm] at hQ
  replace hst : ∀ k o, k < m → ops.toList[k]? = some o → ∃ fp, fs[k]? = some fp ∧ Step P F N ops.toList o (S k) (S (k + 1)) fp := fun k o hk ho => hst k o (by rw [List.getElem?_take_of_lt hk]; exact ho)
  have htail : ∀ k, m ≤ k → k < ops.toList.length → ∃ o, ops.toList[k]? = some o ∧ (∀ e ∈ o.after.toList, Region.binds .any e = true → e.on < k) ∧ ∀ j, j < k → j ∈ pr ops.toList k := by
    intro k hk hlt
    have := (htl k hlt).resolve_left (by simp [Nat.blt_eq]; omega)
    rw [nthO_eq, List.getElem?_eq_getElem hlt] at this
    simp only [Bool.and_eq_true, List.all_eq_true, List.mem_range] at this
    refine ⟨_, List.getElem?_eq_getElem hlt, fun e he hbd => by have := this.1 e he; rw [hbd] at this; simpa [Nat.blt_eq] using this, fun j hj => ?_⟩
    have := this.2 j hj
    rw [prAt_get ops.toList (Nat.lt_succ_self k) hlt] at this
    rw [List.contains_eq_mem, decide_eq_true_eq] at this
    exact this
  have hat : ∀ k o fp, k < m → ops.toList[k]? = some o → fs[k]? = some fp → (∀ e ∈ o.after.toList, Region.binds .any e = true → e.on < k) ∧ (∀ b ∈ fp.up, b < fp.hi) ∧ ∀ j, j < k → ∀ oj fj, ops.toList[j]? = some oj → fs[j]? = some fj → j ∈ pr ops.toList k ∨ Ind ops.toList oj fj o fp := by
    intro k o fp hk ho hf
    have hkl : k < ops.toList.length := by omega
    have := hok k hk
    rw [nthO_eq, nthO_eq, ho, hf] at this
    simp only [Bool.and_eq_true, List.all_eq_true, List.mem_range] at this
    obtain ⟨⟨h1, h2⟩, h3⟩ := this
    refine ⟨fun e he hbd => by have := h1 e he; rw [hbd] at this; simpa [Nat.blt_eq] using this, fun b hb => by simpa [Nat.blt_eq] using h2 b hb, fun j hj oj fj hoj hfj => ?_⟩
    have := h3 j hj
    rw [nthO_eq, nthO_eq, hoj, hfj] at this
    simp only [Bool.or_eq_true, List.contains_eq_mem, decide_eq_true_eq] at this
    rcases this with h4 | h4
    · left
      rw [prAt_get ops.toList (Nat.lt_succ_self k) hkl] at h4
      exact h4
    · exact .inr (indep_out h4)
  have hstep : ∀ k, k < m → ∃ o fp, ops.toList[k]? = some o ∧ fs[k]? = some fp ∧ Step P F N ops.toList o (S k) (S (k + 1)) fp := by
    intro k hk
    have hkl : k < ops.toList.length := by omega
    obtain ⟨fp, h1, h2⟩ := hst k _ hk (List.getElem?_eq_getElem hkl)
    exact ⟨_, fp, List.getElem?_eq_getElem hkl, h1, h2⟩
  have mono1 : ∀ k, k < m → (S k).nx ≤ (S (k + 1)).nx := by
    intro k hk
    obtain ⟨o, fp, _, _, ⟨val, rd, upd, _, _, _, _, _, _, h⟩⟩ := hstep k hk
    exact h.1
  have mono : ∀ d j, j + d ≤ m → (S j).nx ≤ (S (j + d)).nx := by
    intro d
    induction d with
    | zero => intro j _; exact Nat.le_refl _
    | succ d ih =>
      intro j hj
      exact Nat.le_trans (ih j (by omega)) (mono1 (j + d) (by omega))
  have mono' : ∀ j k, j ≤ k → k ≤ m → (S j).nx ≤ (S k).nx := by
    intro j k h1 h2
    have := mono (k - j) j (by omega)
    rwa [show j + (k - j) = k by omega] at this
  let wrT : Nat → Nat → Prop := fun k i => (ops.toList[k]?).bind (·.dst) = some i
  let wrH : Nat → Nat → Prop := fun k b => b ∈ ((fs[k]?).map (·.up)).getD []
  let valT : Nat → Nat → V := fun k i => (S (k + 1)).get i
  let valH : Nat → Nat → Option Blk := fun k b => hget (S (k + 1)).h b
  have txT : Txt wrT valT s.get m (fun j i => (S j).get i) := by
    refine ⟨fun i => by show (S 0).get i = _; rw [e0], fun k hk i => ⟨fun _ => rfl, fun hn => ?_⟩⟩
    obtain ⟨o, fp, ho, hf, ⟨val, rd, upd, _, _, _, h4, _⟩⟩ := hstep k hk
    show (S (k + 1)).get i = (S k).get i
    rw [h4, if_neg]
    intro hd
    exact hn (by show (ops.toList[k]?).bind (·.dst) = some i; rw [ho]; exact hd)
  have txH : Txt wrH valH (hget s.h) m (fun j b => hget (S j).h b) := by
    refine ⟨fun i => by show hget (S 0).h i = _; rw [e0], fun k hk b => ⟨fun _ => rfl, fun hn => ?_⟩⟩
    obtain ⟨o, fp, ho, hf, ⟨val, rd, upd, _, h2, _, _, h5, _⟩⟩ := hstep k hk
    show hget (S (k + 1)).h b = hget (S k).h b
    rw [h5, hget_append, if_neg]
    intro hd
    exact hn (by show b ∈ ((fs[k]?).map (·.up)).getD []; rw [hf]; simpa [h2] using hd)
  have hnone : ∀ i, i ≤ m → ∀ j, j ≤ i → ∀ b, (S i).nx ≤ b → hget (S j).h b = none := by
    intro i hi j
    induction j with
    | zero =>
      intro _ b hb
      rw [e0]
      cases hg : hget s.h b with
      | none => rfl
      | some k =>
        have := hs.hr.hdom b k hg
        have := mono' 0 i (Nat.zero_le _) hi
        rw [e0] at this
        omega
    | succ j ih =>
      intro hj b hb
      obtain ⟨o, fp, ho, hf, ⟨val, rd, upd, _, h2, h3, _, h5, _⟩⟩ := hstep j (by omega)
      rw [h5, hget_append, if_neg]
      · exact ih (by omega) b hb
      · intro hm
        have := (hat j o fp (by omega) ho hf).2.1 b (by rw [h2]; exact hm)
        have := mono' (j + 1) i hj hi
        omega
  have hsz0 : ops.toList.length = ops.size := by simp
  have hall : ∀ (k : Nat) (o : Oper), ops.toList[k]? = some o → ∀ e ∈ o.after.toList, Region.binds .any e = true → e.on < k := by
    intro k o ho
    rcases Nat.lt_or_ge k m with h | h
    · obtain ⟨o', fp, ho', hf, _⟩ := hstep k h
      rw [ho] at ho'; cases ho'
      exact (hat k o fp h ho hf).1
    · obtain ⟨o', ho', h2, _⟩ := htail k h (List.getElem?_eq_some_iff.1 ho).1
      rw [ho] at ho'; cases ho'
      exact h2
  have tail : ∀ (d : Nat) (listed : Array Bool) (a1 : Act) (w1 : World) (G1 : Gh) (s1 : St), d ≤ ops.toList.length - m → listed.size = ops.size →
      (∀ k, k < ops.toList.length → listed.getD k false = decide (k < ops.toList.length - d)) → Sim G1 N s1 a1 w1 → base ≤ s1.nx → Evo base G w G1 w1 → a1.defers = a.defers →
      runOps P T N ops.toList (ops.toList.drop (ops.toList.length - d)) s1 (Q .normal) → wpAnyIn F n P .any ops (Post N base G w a.defers Q) d listed a1 w1 := by
    intro d
    induction d with
    | zero =>
      intro listed a1 w1 G1 s1 hd hsz hE hsim hb1 hev hdf hrun
      rcases runOps_drop hrun with ⟨_, hQ⟩ | ⟨o, ho, _⟩
      · refine ⟨?_, .normal, s1, G1, rfl, hQ, hsim, hev, hb1, Dfr.of_eq hdf⟩
        unfold Region.ready
        rw [List.filter_eq_nil_iff]
        intro k hk
        have hk := List.mem_range.1 hk
        have := hE k (by simpa using hk)
        have h2 : listed.getD k true = true := by
          have hk2 : k < ops.toList.length := by simpa using hk
          simp only [Array.getD] at this ⊢
          split
          · rename_i hh; simpa [hh, hk] using this
          · rfl
        simp [h2]
      · have := (List.getElem?_eq_some_iff.1 ho).1; omega
    | succ d ih =>
      intro listed a1 w1 G1 s1 hd hsz hE hsim hb1 hev hdf hrun
      let t := ops.toList.length - (d + 1)
      have ht : t < ops.toList.length := by omega
      have htm : m ≤ t := by omega
      have hts : t < listed.size := by rw [hsz]; simpa using ht
      obtain ⟨o, ho, ho2, hpr⟩ := htail t htm ht
      have ho' : ops[t]? = some o := by simpa using ho
      have hlt : listed.getD t false = false := by rw [hE t ht]; simp [t]
      rcases runOps_drop hrun with ⟨h1, _⟩ | ⟨o2, ho2', hop⟩
      · omega
      have e2 : ops.toList[t]? = some o2 := ho2'
      rw [ho] at e2; cases e2
      refine ⟨fun hrd => ?_, fun i hi => ?_⟩
      · exfalso
        have hmem : t ∈ Region.ready .any ops listed := by
          unfold Region.ready
          rw [List.mem_filter]
          refine ⟨List.mem_range.2 (by simpa using ht), ?_⟩
          have h2 : listed.getD t true = false := by
            simp only [Array.getD, hts, dif_pos] at hlt ⊢
            exact hlt
          simp only [h2, ho', Bool.not_false, Option.map_some, Option.getD_some, Bool.true_and, Array.all_eq_true_iff_forall_mem, Bool.or_eq_true, Bool.not_eq_true']
          intro e he
          cases hbd : Region.binds .any e with
          | false => exact .inl rfl
          | true =>
            right
            have := ho2 e (by simpa using he) hbd
            rw [hE e.on (by omega)]
            simp; omega
        rw [hrd] at hmem
        simp at hmem
      · have hit : i = t := by
          unfold Region.ready at hi
          rw [List.mem_filter] at hi
          obtain ⟨hi1, hi2⟩ := hi
          have hi1 : i < ops.toList.length := by simpa using List.mem_range.1 hi1
          have his : i < listed.size := by rw [hsz]; simpa using hi1
          have ho3 : ops[i]? = some ops.toList[i] := by simp [List.getElem?_eq_getElem hi1]
          simp only [ho3, Option.map_some, Option.getD_some, Bool.and_eq_true, Bool.not_eq_true', Array.all_eq_true_iff_forall_mem, Bool.or_eq_true] at hi2
          obtain ⟨hl, hed⟩ := hi2
          have hl' : listed.getD i false = false := by
            simp only [Array.getD, his, dif_pos] at hl ⊢
            exact hl
          rw [hE i hi1] at hl'
          simp only [decide_eq_false_iff_not] at hl'
          rcases Nat.lt_or_ge t i with hlt2 | hge
          · exfalso
            obtain ⟨o4, ho4, hb4, hp4⟩ := htail i (by omega) hi1
            have ho4' : ops[i]? = some o4 := by simpa using ho4
            rw [ho3] at ho4'
            cases ho4'
            have : t ∈ pr ops.toList i := hp4 t hlt2
            have clos : ∀ k, k < ops.toList.length → listed.getD k false = true → ∀ j ∈ pr ops.toList k, j ≤ k → listed.getD j false = true := by
              intro k hk hk2 j hj hjk
              rw [hE k hk] at hk2
              rw [hE j (by omega)]
              simp at hk2 ⊢; omega
            obtain ⟨e, he, hbd, hj⟩ := (pr_eq ops.toList ho4 hb4).1 this
            have h1 := (hed e (by simpa using he)).resolve_left (by rw [hbd]; simp)
            have h5 := hb4 e he hbd
            rw [hE e.on (by omega)] at h1
            simp only [decide_eq_true_eq] at h1
            have : t ≤ e.on := by
              rcases hj with hj | hj
              · exact Nat.le_of_eq hj
              · rcases Nat.lt_or_ge e.on t with h6 | h6
                · exfalso
                  have := pr_lt ops.toList hall hj
                  omega
                · exact h6
            omega
          · omega
        subst hit
        have goes := opK_ok hT hF hop hsim hb1 (n := n) (next := wpAnyIn F n P .any ops (Post N base G w a.defers Q) d (listed.setIfInBounds t true)) (Q := Post N base G w a.defers Q) (fun s2 a2 w2 G2 hK hs2 he2 hb2 hdf2 => by
          refine ih (listed.setIfInBounds t true) a2 w2 G2 s2 (by omega) (by simp [hsz]) (fun k hk => ?_) hs2 hb2 (hev.trans he2) (hdf2.trans hdf) (by rw [show ops.toList.length - d = t + 1 by omega]; exact hK)
          simp only [Array.getD_eq_getD_getElem?]
          by_cases e : k = t
          · subst e; rw [Array.getElem?_setIfInBounds_self_of_lt hts]; simp; omega
          · rw [Array.getElem?_setIfInBounds_ne (Ne.symm e)]
            have := hE k hk
            rw [Array.getD_eq_getD_getElem?] at this
            rw [this]
            congr 1
            apply propext
            omega)
        unfold wpOpIn
        rw [ho']
        unfold Goes at goes
        simpa using goes
  have main : ∀ (fuel : Nat) (listed : Array Bool) (a1 : Act) (w1 : World) (G1 : Gh) (s' : St), listed.size = ops.size → listed.toList.count false = fuel + (ops.toList.length - m) →
      (∀ k, m ≤ k → k < ops.toList.length → listed.getD k false = false) →
      (∀ k, k < m → listed.getD k false = true → ∀ j ∈ pr ops.toList k, listed.getD j false = true) → Sim G1 N s' a1 w1 →
      (∀ i, s'.get i = stE wrT valT (fun k => listed.getD k false) s.get m i) → (∀ b, hget s'.h b = stE wrH valH (fun k => listed.getD k false) (hget s.h) m b) →
      s.nx ≤ s'.nx → s'.nx ≤ (S m).nx → (∀ k, k < m → listed.getD k false = false → ∀ b, (S k).nx ≤ b → b < (S (k + 1)).nx → G1.ι b = none) →
      EvoA G w G1 w1 → a1.defers = a.defers → wpAnyIn F n P .any ops (Post N base G w a.defers Q) (fuel + (ops.toList.length - m)) listed a1 w1 := by
    intro fuel
    induction fuel with
    | zero =>
      intro listed a1 w1 G1 s' hsz hcnt htf hcl hsim hT' hH' hn1 hn2 hnew hev hdf
      have hE : ∀ k, k < m → listed.getD k false = true := by
        have := cnt_split (listed := listed) hsz0 hm0 hsz htf
        exact cnt_zero (by omega)
      rw [Nat.zero_add]
      refine tail (ops.toList.length - m) listed a1 w1 G1 (S m) (Nat.le_refl _) hsz (fun k hk => ?_) ⟨hsim.size, fun i => ?_, ?_⟩ (Nat.le_trans hb (Nat.le_trans hn1 hn2)) (hev base) hdf (by rw [show ops.toList.length - (ops.toList.length - m) = m by omega]; exact hQ)
      · rw [show ops.toList.length - (ops.toList.length - m) = m by omega]
        by_cases hkm : k < m
        · rw [hE k hkm]; simp [hkm]
        · rw [htf k (by omega) hk]; simp [hkm]
      · have := hsim.tmp i
        rw [hT' i, stE_all txT hE _ (Nat.le_refl _)] at this
        exact this
      · exact hsim.hr.congr (fun b => by rw [hH' b, stE_all txH hE _ (Nat.le_refl _)]) hn2
    | succ fuel ih =>
      intro listed a1 w1 G1 s' hsz hcnt htf hcl hsim hT' hH' hn1 hn2 hnew hev hdf
      rw [show fuel + 1 + (ops.toList.length - m) = (fuel + (ops.toList.length - m)) + 1 by omega]
      have hsome : ∃ j, j < m ∧ listed.getD j false = false := by
        rcases Classical.em (∃ j, j < m ∧ listed.getD j false = false) with h | h
        · exact h
        · exfalso
          have h1 := cnt_split (listed := listed) hsz0 hm0 hsz htf
          have h2 : (listed.toList.take m).count false = 0 := cnt_all (fun k hk => by cases hh : listed.getD k false with | true => rfl | false => exact absurd ⟨k, hk, hh⟩ h)
          omega
      refine ⟨fun hrd => ?_, fun i hi => ?_⟩
      · exfalso
        have hE : ∀ k, k < m → listed.getD k false = true := by
          intro k
          induction k using Nat.strongRecOn with
          | _ k ihk =>
            intro hk
            cases hl : listed.getD k false with
            | true => rfl
            | false =>
              exfalso
              obtain ⟨o, fp, ho, hf, _⟩ := hstep k hk
              have hmem : k ∈ Region.ready .any ops listed := by
                unfold Region.ready
                rw [List.mem_filter]
                have hkl : k < ops.toList.length := by omega
                have hks : k < listed.size := by rw [hsz]; simpa using hkl
                refine ⟨List.mem_range.2 (by simpa using hkl), ?_⟩
                have h2 : listed.getD k true = false := by
                  simp only [Array.getD, hks, dif_pos] at hl ⊢
                  exact hl
                have ho' : ops[k]? = some o := by simpa using ho
                simp only [h2, ho', Bool.not_false, Option.map_some, Option.getD_some, Bool.true_and, Array.all_eq_true_iff_forall_mem, Bool.or_eq_true, Bool.not_eq_true']
                intro e he
                cases hbd : Region.binds .any e with
                | false => exact .inl rfl
                | true =>
                  right
                  have := (hat k o fp hk ho hf).1 e (by simpa using he) hbd
                  exact ihk e.on this (by omega)
              rw [hrd] at hmem
              simp at hmem
        obtain ⟨j, hj, hj2⟩ := hsome
        rw [hE j hj] at hj2; cases hj2
      · unfold Region.ready at hi
        rw [List.mem_filter] at hi
        obtain ⟨hi1, hi2⟩ := hi
        have hi0 : i < ops.toList.length := by simpa using List.mem_range.1 hi1
        have his : i < listed.size := by rw [hsz]; simpa using hi0
        have hi1 : i < m := by
          rcases Nat.lt_or_ge i m with h | h
          · exact h
          · exfalso
            obtain ⟨o4, ho4, hb4, hp4⟩ := htail i h hi0
            have ho4' : ops[i]? = some o4 := by simpa using ho4
            simp only [ho4', Option.map_some, Option.getD_some, Bool.and_eq_true, Bool.not_eq_true', Array.all_eq_true_iff_forall_mem, Bool.or_eq_true] at hi2
            obtain ⟨j, hj, hj2⟩ := hsome
            obtain ⟨e, he, hbd, hje⟩ := (pr_eq ops.toList ho4 hb4).1 (hp4 j (by omega))
            have h1 := (hi2.2 e (by simpa using he)).resolve_left (by rw [hbd]; simp)
            rcases Nat.lt_or_ge e.on m with h5 | h5
            · rcases hje with rfl | hje
              · rw [h1] at hj2; cases hj2
              · rw [hcl e.on h5 h1 j hje] at hj2; cases hj2
            · have := hb4 e he hbd
              rw [htf e.on h5 (by omega)] at h1; cases h1
        obtain ⟨o, fp, ho, hf, ⟨val, rd, upd, q1, q2, q3, q4, q5, q6, q7⟩⟩ := hstep i hi1
        have ho' : ops[i]? = some o := by simpa using ho
        simp only [ho', Option.map_some, Option.getD_some, Bool.and_eq_true, Bool.not_eq_true', Array.all_eq_true_iff_forall_mem, Bool.or_eq_true] at hi2
        obtain ⟨hl, hed⟩ := hi2
        have hl' : listed.getD i false = false := by
          simp only [Array.getD, his, dif_pos] at hl ⊢
          exact hl
        have hli : listed.toList[i]? = some false := by
          simp only [Array.getD, his, dif_pos] at hl
          have hl2 : listed[i] = false := hl
          simp [his, hl2]
        have hpri : ∀ j ∈ pr ops.toList i, listed.getD j false = true := by
          intro j hj
          obtain ⟨e, he, hbd, hj⟩ := (pr_eq ops.toList ho (hat i o fp hi1 ho hf).1).1 hj
          have h1 := (hed e (by simpa using he)).resolve_left (by rw [hbd]; simp)
          rcases hj with rfl | hj
          · exact h1
          · exact hcl e.on (Nat.lt_trans ((hat i o fp hi1 ho hf).1 e he hbd) hi1) h1 j hj
        have hlate : ∀ j, i < j → j < m → ∀ oj fj, ops.toList[j]? = some oj → fs[j]? = some fj → listed.getD j false = true → Ind ops.toList o fp oj fj := by
          intro j hj hjm oj fj hoj hfj hlj
          rcases (hat j oj fj hjm hoj hfj).2.2 i hj o fp ho hf with h1 | h1
          · have := hcl j hjm hlj i h1
            rw [hl'] at this; cases this
          · exact h1
        have wrT_iff : ∀ j oj x, ops.toList[j]? = some oj → (wrT j x ↔ oj.dst = some x) := fun j oj x hoj => by
          show (ops.toList[j]?).bind (·.dst) = some x ↔ _
          rw [hoj]; rfl
        have wrH_iff : ∀ j fj b, fs[j]? = some fj → (wrH j b ↔ b ∈ fj.up) := fun j fj b hfj => by
          show b ∈ ((fs[j]?).map (·.up)).getD [] ↔ _
          rw [hfj]; rfl
        have agT : ∀ x ∈ rdsOf ops.toList o, s'.get x = (S i).get x := by
          intro x hx
          rw [hT' x]
          refine stE_agree txT hi1 hl' (fun j hj hwj => ?_) (fun j hj hjm hwj => ?_)
          · obtain ⟨oj, fj, hoj, hfj, _⟩ := hstep j (by omega)
            rcases (hat i o fp hi1 ho hf).2.2 j hj oj fj hoj hfj with h1 | h1
            · exact hpri j h1
            · exact absurd hx (h1.r1 x ((wrT_iff j oj x hoj).1 hwj))
          · obtain ⟨oj, fj, hoj, hfj, _⟩ := hstep j hjm
            cases hlj : listed.getD j false with
            | false => rfl
            | true => exact absurd hx ((hlate j hj hjm oj fj hoj hfj hlj).r2 x ((wrT_iff j oj x hoj).1 hwj))
        have agH : ∀ b ∈ fp.rd, hget s'.h b = hget (S i).h b := by
          intro b hx
          rw [hH' b]
          refine stE_agree txH hi1 hl' (fun j hj hwj => ?_) (fun j hj hjm hwj => ?_)
          · obtain ⟨oj, fj, hoj, hfj, _⟩ := hstep j (by omega)
            rcases (hat i o fp hi1 ho hf).2.2 j hj oj fj hoj hfj with h1 | h1
            · exact hpri j h1
            · exact absurd hx (h1.r4 b ((wrH_iff j fj b hfj).1 hwj)).1
          · obtain ⟨oj, fj, hoj, hfj, _⟩ := hstep j hjm
            cases hlj : listed.getD j false with
            | false => rfl
            | true => exact absurd hx ((hlate j hj hjm oj fj hoj hfj hlj).r5 b ((wrH_iff j fj b hfj).1 hwj))
        have hE' : (fun k => (listed.setIfInBounds i true).getD k false) = fun k => if k = i then true else listed.getD k false := by
          funext k
          simp only [Array.getD_eq_getD_getElem?]
          by_cases e : k = i
          · subst e; rw [Array.getElem?_setIfInBounds_self_of_lt his]; simp
          · rw [Array.getElem?_setIfInBounds_ne (Ne.symm e)]; simp [e]
        have goes := q7.2 n G1 a1 w1 s' (Post N base G w a.defers Q) (wpAnyIn F n P .any ops (Post N base G w a.defers Q) (fuel + (ops.toList.length - m)) (listed.setIfInBounds i true)) hsim agT
          (fun b ob hm => by
            rw [agH b (by rw [q1]; exact List.mem_map_of_mem hm)]
            rcases q6 b ob hm with h1 | ⟨rfl, h1⟩
            · exact h1
            · exact hnone i (by omega) i (Nat.le_refl _) b h1) (hnew i hi1 hl') (fun a2 w2 G2 z1 z2 z3 z4 z5 z6 => by
            refine ih (listed.setIfInBounds i true) a2 w2 G2 ⟨match o.dst with | some d => (d, val) :: s'.t | none => s'.t, upd ++ s'.h, max s'.nx (S (i + 1)).nx⟩ (by simp [hsz]) ?_ ?_ ?_ ⟨z1, fun x => ?_, z3⟩ (fun x => ?_) (fun b => ?_) (by simp only; omega) ?_ ?_ (hev.trans z5) (z6.trans hdf)
            · rw [Array.toList_setIfInBounds]
              have := count_set hli
              omega
            · intro k hk hkl
              have e1 : (listed.setIfInBounds i true).getD k false = if k = i then true else listed.getD k false := congrFun hE' k
              rw [e1, if_neg (by omega)]
              exact htf k hk hkl
            · intro k hk hlk j hj
              have e1 : (listed.setIfInBounds i true).getD k false = if k = i then true else listed.getD k false := congrFun hE' k
              have e2 : (listed.setIfInBounds i true).getD j false = if j = i then true else listed.getD j false := congrFun hE' j
              rw [e1] at hlk
              rw [e2]
              by_cases ej : j = i
              · simp [ej]
              · simp only [ej, if_false]
                by_cases ek : k = i
                · subst ek; exact hpri j hj
                · simp only [ek, if_false] at hlk
                  exact hcl k hk hlk j hj
            · have := z2 x
              cases hd : o.dst with
              | none => simpa [hd, St.get] using this
              | some d =>
                rw [hd] at this
                simp only
                rw [get_put s'.t s'.h _ s'.nx _]
                simpa using this
            · rw [hE', stE_after hi1 hl' (fun hw j hj hjm hwj => by
                obtain ⟨oj, fj, hoj, hfj, _⟩ := hstep j hjm
                cases hlj : listed.getD j false with
                | false => rfl
                | true => exact absurd ((wrT_iff j oj x hoj).1 hwj) ((hlate j hj hjm oj fj hoj hfj hlj).r3 x ((wrT_iff i o x ho).1 hw)))]
              have e4 := q4 x
              by_cases hw : wrT i x
              · have hd := (wrT_iff i o x ho).1 hw
                rw [if_pos hw]
                show _ = (S (i + 1)).get x
                rw [e4, if_pos hd, hd]
                show look ((x, val) :: s'.t) x = val
                simp [look, Nat.beq_refl]
              · rw [if_neg hw, ← hT' x]
                have hd : ¬ o.dst = some x := fun h => hw ((wrT_iff i o x ho).2 h)
                cases hd' : o.dst with
                | none => rfl
                | some d =>
                  have hne : ¬ d = x := fun h => hd (by rw [hd', h])
                  simp only
                  rw [get_put s'.t s'.h _ s'.nx _]
                  simp [hne]
            · rw [hE', stE_after hi1 hl' (fun hw j hj hjm hwj => by
                obtain ⟨oj, fj, hoj, hfj, _⟩ := hstep j hjm
                cases hlj : listed.getD j false with
                | false => rfl
                | true => exact absurd ((wrH_iff j fj b hfj).1 hwj) ((hlate j hj hjm oj fj hoj hfj hlj).r4 b ((wrH_iff i fp b hf).1 hw)).2)]
              have e5 := q5 b
              rw [hget_append]
              by_cases hw : wrH i b
              · have hd := (wrH_iff i fp b hf).1 hw
                rw [q2] at hd
                rw [if_pos hw, if_pos hd]
                show _ = hget (S (i + 1)).h b
                rw [e5, hget_append, if_pos hd]
              · rw [if_neg hw, ← hH' b, if_neg]
                intro hd
                exact hw ((wrH_iff i fp b hf).2 (by rw [q2]; exact hd))
            · have := mono' (i + 1) m (by omega) (Nat.le_refl _)
              simp only
              omega
            · intro k hk hlk b h1 h2
              have e1 : (listed.setIfInBounds i true).getD k false = if k = i then true else listed.getD k false := congrFun hE' k
              rw [e1] at hlk
              by_cases ek : k = i
              · simp [ek] at hlk
              · simp only [ek, if_false] at hlk
                rw [z4 b]
                · exact hnew k hk hlk b h1 h2
                · rcases Nat.lt_or_gt_of_ne ek with hlt | hgt
                  · left
                    have := mono' (k + 1) i (by omega) (by omega)
                    omega
                  · right
                    have := mono' (i + 1) k (by omega) (by omega)
                    omega)
        unfold wpOpIn
        rw [ho']
        unfold Goes at goes
        simpa using goes
  have hmain := main m (Array.replicate ops.size false) a w.drew G s (by simp) (by simp [hsz0]; omega) (fun k _ _ => by simp [Array.getD]) (fun k hk hl => by
    exfalso
    simp [Array.getD] at hl) ⟨hs.size, fun i => (EvoA.drew (G := G) (w := w)).vr (hs.tmp i), hs.hr.drew⟩ (fun i => ?_) (fun b => ?_) (Nat.le_refl _) ?_ ?_ EvoA.drew rfl
  · rw [show m + (ops.toList.length - m) = ops.size by simp only [Array.length_toList] at *; omega] at hmain
    exact wpIn_region_any hm hmain
  · rw [stE_none (fun k => by simp [Array.getD])]
  · rw [stE_none (fun k => by simp [Array.getD])]
  · have := mono' 0 m (Nat.zero_le _) (Nat.le_refl _)
    rw [e0] at this
    exact this
  · intro k hk _ b h1 _
    have := mono' 0 k (Nat.zero_le _) (by omega)
    rw [e0] at this
    exact hs.hr.dom b (by omega)
end
end Go.Proofs.Ytcfkendgjinmiaa
