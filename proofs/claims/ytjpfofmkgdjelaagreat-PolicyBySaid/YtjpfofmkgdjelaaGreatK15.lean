/- Joined: VZ5, VZ6, VZ7, N1, N2, N3, W1, W2. -/
import Derived.Test.YtjpfofmkgdjelaaGreatK2
import Derived.Test.YtjpfofmkgdjelaaGreatK3
import Derived.Test.YtjpfofmkgdjelaaGreatK4
import Derived.Test.YtjpfofmkgdjelaaGreatK6
import Derived.Test.YtjpfofmkgdjelaaGreatK7
/- Back to an earlier ghost: where the blocks of then read as they did, all reads as it did. -/
set_option linter.unusedVariables false
set_option linter.unusedSimpArgs false
namespace Go.Proofs.YtjpfofmkgdjelaaGreat
open Go.RowKit

/-- The world of then, but for what lies behind its end. -/
structure Back (w0 w : World) : Prop where
  os : w.os = w0.os
  tape : w.tape = w0.tape
  output : w.output = w0.output
  size : w0.heap.size ≤ w.heap.size
  keep : ∀ c, c < w0.heap.size → w.heap[c]? = w0.heap[c]?
theorem Back.refl (w : World) : Back w w := ⟨rfl, rfl, rfl, Nat.le_refl _, fun _ _ => rfl⟩
theorem Back.trans {w0 w1 w2 : World} (h : Back w0 w1) (k : Back w1 w2) : Back w0 w2 :=
  ⟨k.os.trans h.os, k.tape.trans h.tape, k.output.trans h.output, Nat.le_trans h.size k.size, fun c hc => (k.keep c (Nat.lt_of_lt_of_le hc h.size)).trans (h.keep c hc)⟩
theorem Back.evo {G : Gh} {w0 w : World} (h : Back w0 w) (hlt : ∀ c, G.amb c → c < w0.heap.size) : EvoA G w0 G w := fun base =>
  ⟨h.os, h.tape, h.output, h.size, rfl, fun _ hc => hc, fun c hc => h.keep c (hlt c hc), fun c m hm => by
    have hc : c < w0.heap.size := by
      unfold csz at hm
      cases hg : w0.heap[c]? with
      | none => rw [hg] at hm; cases hm
      | some o => exact (Array.getElem?_eq_some_iff.1 hg).1
    unfold csz at hm ⊢
    rw [h.keep c hc]
    exact hm, fun _ _ _ hb => hb, fun c hc _ => h.keep c hc, fun c hc _ => .inl hc, fun b c hb _ => ⟨b, hb⟩⟩
/-- What is owned, stays owned. -/
theorem HR.back {G : Gh} {h : Heap} {nx : Nat} {w0 w : World} (hr : HR G h nx w0) (hb : Back w0 w) : HR G h nx w := by
  have he := hb.evo hr.amb_lt
  exact ⟨fun c hc => Nat.lt_of_lt_of_le (hr.amb_lt c hc) hb.size, Nat.le_trans hr.B_le hb.size, hr.dom,
    fun b blk hblk => (hr.own b blk hblk).keep he (fun c hc => hb.keep c (hr.lt b c hc)) (fun hn => hn), hr.inj, hr.apart, fun b c hc => Nat.lt_of_lt_of_le (hr.lt b c hc) hb.size, hr.hdom⟩
theorem vr_back {G : Gh} {h : Heap} {nx : Nat} {w0 w : World} (hr : HR G h nx w0) (hb : Back w0 w) {v : V} {u : Value} (hv : vr G w0 v u) : vr G w v u :=
  Evo.vr (base := nx) (hb.evo hr.amb_lt nx) hr.dom hv
/-- A run that keeps all blocks of then (they were told as never turning). -/
theorem Back.of_evo {base : Nat} {G G' : Gh} {w0 w w' : World} (h : Back w0 w) (he : Evo base G w G' w') (hall : ∀ c, c < w0.heap.size → G.amb c) : Back w0 w' ∧ ∀ c, c < w0.heap.size → G'.amb c :=
  ⟨⟨he.os.trans h.os, he.tape.trans h.tape, he.output.trans h.output, Nat.le_trans h.size he.size, fun c hc => (he.keep c (hall c hc)).trans (h.keep c hc)⟩, fun c hc => he.amb c (hall c hc)⟩
end Go.Proofs.YtjpfofmkgdjelaaGreat
/- Code that writes into what was told as never turning; back to what was behind it. -/
set_option linter.unusedVariables false
set_option linter.unusedSimpArgs false
namespace Go.Proofs.YtjpfofmkgdjelaaGreat
open Go.RowKit

section
variable {P : Program} {T : Tab} {F : Fence} {N : Nat}
/-- A region that draws its order: the first operations, then whatever the last ones do. -/
theorem wp_draw_cut (hT : TabOk P T) (hm : P.follows .mixedOrders = true) (hF : FW F) {base id n : Nat} {ops : Array Oper} {s : St} {Qm : Exit → Act → World → Prop} {m : Nat} {G : Gh} {a : Act} {w : World} {KS : St → Prop} (hs : Sim G N s a w) (hb : base ≤ s.nx) (hm0 : m ≤ ops.toList.length)
    (h : drawK P T N ops.toList (ops.toList.take m) s [] (fun fps s' => (drawOkN ops.toList m fps && tailOk ops.toList m) = true ∧ KS s'))
    (hend : ∀ s' a1 w1 G1, KS s' → Sim G1 N s' a1 w1 → base ≤ s'.nx → Evo base G w G1 w1 → a1.defers = a.defers → wpOpsIn F n P ops Qm (List.range' m (ops.toList.length - m)) a1 w1) : (Code.region id ops true).wpIn F n P Qm a w := by
  obtain ⟨S, fs, e0, el, ⟨hok, hQ⟩, hst⟩ := drawK_out hT hF h
  rw [List.nil_append] at hok
  rw [Bool.and_eq_true] at hok
  obtain ⟨hok, htl⟩ := hok
  simp only [drawOkN, Bool.and_eq_true, List.all_eq_true, List.mem_range] at hok
  obtain ⟨_, hok⟩ := hok
  simp only [tailOk, Bool.or_eq_true, Bool.and_eq_true, List.all_eq_true, List.mem_range] at htl
  have hlm : (ops.toList.take m).length = m := by rw [List.length_take]; omega
  replace hst : ∀ k o, k < m → ops.toList[k]? = some o → ∃ fp, fs[k]? = some fp ∧ Step P F N ops.toList o (S k) (S (k + 1)) fp := fun k o hk ho => hst k o (by rw [List.getElem?_take_of_lt hk]; exact ho)
  have htail : ∀ k, m ≤ k → k < ops.toList.length → ∃ o, ops.toList[k]? = some o ∧ (∀ e ∈ o.after.toList, Region.binds .any e = true → e.on < k) ∧ ∀ j, j < k → j ∈ pr ops.toList k := by
    intro k hk hlt
    have := (htl k hlt).resolve_left (by simp [Nat.blt_eq]; omega)
    rw [nthO_eq, List.getElem?_eq_getElem hlt] at this
    simp only [Bool.and_eq_true, List.all_eq_true, List.mem_range] at this
    refine ⟨_, List.getElem?_eq_getElem hlt, fun e he hbd => by have := this.1 e he; rw [hbd] at this; simpa [Nat.blt_eq] using this, fun j hj => ?_⟩
    have := this.2 j hj
    rw [prAt_get ops.toList (Nat.lt_succ_self k) hlt] at this
    rw [List.contains_eq_mem, decide_eq_true_eq] at this
    exact this
  have hat : ∀ k o fp, k < m → ops.toList[k]? = some o → fs[k]? = some fp → (∀ e ∈ o.after.toList, Region.binds .any e = true → e.on < k) ∧ (∀ b ∈ fp.up, b < fp.hi) ∧ ∀ j, j < k → ∀ oj fj, ops.toList[j]? = some oj → fs[j]? = some fj → j ∈ pr ops.toList k ∨ Ind ops.toList oj fj o fp := by
    intro k o fp hk ho hf
    have hkl : k < ops.toList.length := by omega
    have := hok k hk
    rw [nthO_eq, nthO_eq, ho, hf] at this
    simp only [Bool.and_eq_true, List.all_eq_true, List.mem_range] at this
    obtain ⟨⟨h1, h2⟩, h3⟩ := this
    refine ⟨fun e he hbd => by have := h1 e he; rw [hbd] at this; simpa [Nat.blt_eq] using this, fun b hb => by simpa [Nat.blt_eq] using h2 b hb, fun j hj oj fj hoj hfj => ?_⟩
    have := h3 j hj
    rw [nthO_eq, nthO_eq, hoj, hfj] at this
    simp only [Bool.or_eq_true, List.contains_eq_mem, decide_eq_true_eq] at this
    rcases this with h4 | h4
    · left
      rw [prAt_get ops.toList (Nat.lt_succ_self k) hkl] at h4
      exact h4
    · exact .inr (indep_out h4)
  have hstep : ∀ k, k < m → ∃ o fp, ops.toList[k]? = some o ∧ fs[k]? = some fp ∧ Step P F N ops.toList o (S k) (S (k + 1)) fp := by
    intro k hk
    have hkl : k < ops.toList.length := by omega
    obtain ⟨fp, h1, h2⟩ := hst k _ hk (List.getElem?_eq_getElem hkl)
    exact ⟨_, fp, List.getElem?_eq_getElem hkl, h1, h2⟩
  have mono1 : ∀ k, k < m → (S k).nx ≤ (S (k + 1)).nx := by
    intro k hk
    obtain ⟨o, fp, _, _, ⟨val, rd, upd, _, _, _, _, _, _, h⟩⟩ := hstep k hk
    exact h.1
  have mono : ∀ d j, j + d ≤ m → (S j).nx ≤ (S (j + d)).nx := by
    intro d
    induction d with
    | zero => intro j _; exact Nat.le_refl _
    | succ d ih =>
      intro j hj
      exact Nat.le_trans (ih j (by omega)) (mono1 (j + d) (by omega))
  have mono' : ∀ j k, j ≤ k → k ≤ m → (S j).nx ≤ (S k).nx := by
    intro j k h1 h2
    have := mono (k - j) j (by omega)
    rwa [show j + (k - j) = k by omega] at this
  let wrT : Nat → Nat → Prop := fun k i => (ops.toList[k]?).bind (·.dst) = some i
  let wrH : Nat → Nat → Prop := fun k b => b ∈ ((fs[k]?).map (·.up)).getD []
  let valT : Nat → Nat → V := fun k i => (S (k + 1)).get i
  let valH : Nat → Nat → Option Blk := fun k b => hget (S (k + 1)).h b
  have txT : Txt wrT valT s.get m (fun j i => (S j).get i) := by
    refine ⟨fun i => by show (S 0).get i = _; rw [e0], fun k hk i => ⟨fun _ => rfl, fun hn => ?_⟩⟩
    obtain ⟨o, fp, ho, hf, ⟨val, rd, upd, _, _, _, h4, _⟩⟩ := hstep k hk
    show (S (k + 1)).get i = (S k).get i
    rw [h4, if_neg]
    intro hd
    exact hn (by show (ops.toList[k]?).bind (·.dst) = some i; rw [ho]; exact hd)
  have txH : Txt wrH valH (hget s.h) m (fun j b => hget (S j).h b) := by
    refine ⟨fun i => by show hget (S 0).h i = _; rw [e0], fun k hk b => ⟨fun _ => rfl, fun hn => ?_⟩⟩
    obtain ⟨o, fp, ho, hf, ⟨val, rd, upd, _, h2, _, _, h5, _⟩⟩ := hstep k hk
    show hget (S (k + 1)).h b = hget (S k).h b
    rw [h5, hget_append, if_neg]
    intro hd
    exact hn (by show b ∈ ((fs[k]?).map (·.up)).getD []; rw [hf]; simpa [h2] using hd)
  have hnone : ∀ i, i ≤ m → ∀ j, j ≤ i → ∀ b, (S i).nx ≤ b → hget (S j).h b = none := by
    intro i hi j
    induction j with
    | zero =>
      intro _ b hb
      rw [e0]
      cases hg : hget s.h b with
      | none => rfl
      | some k =>
        have := hs.hr.hdom b k hg
        have := mono' 0 i (Nat.zero_le _) hi
        rw [e0] at this
        omega
    | succ j ih =>
      intro hj b hb
      obtain ⟨o, fp, ho, hf, ⟨val, rd, upd, _, h2, h3, _, h5, _⟩⟩ := hstep j (by omega)
      rw [h5, hget_append, if_neg]
      · exact ih (by omega) b hb
      · intro hm
        have := (hat j o fp (by omega) ho hf).2.1 b (by rw [h2]; exact hm)
        have := mono' (j + 1) i hj hi
        omega
  have hsz0 : ops.toList.length = ops.size := by simp
  have hall : ∀ (k : Nat) (o : Oper), ops.toList[k]? = some o → ∀ e ∈ o.after.toList, Region.binds .any e = true → e.on < k := by
    intro k o ho
    rcases Nat.lt_or_ge k m with h | h
    · obtain ⟨o', fp, ho', hf, _⟩ := hstep k h
      rw [ho] at ho'; cases ho'
      exact (hat k o fp h ho hf).1
    · obtain ⟨o', ho', h2, _⟩ := htail k h (List.getElem?_eq_some_iff.1 ho).1
      rw [ho] at ho'; cases ho'
      exact h2
  have tail : ∀ (d : Nat) (listed : Array Bool) (a1 : Act) (w1 : World) (_ : Unit), d ≤ ops.toList.length - m → listed.size = ops.size →
      (∀ k, k < ops.toList.length → listed.getD k false = decide (k < ops.toList.length - d)) → wpOpsIn F n P ops Qm (List.range' (ops.toList.length - d) d) a1 w1 → wpAnyIn F n P .any ops (Qm) d listed a1 w1 := by
    intro d
    induction d with
    | zero =>
      intro listed a1 w1 _ hd hsz hE hrun
      · refine ⟨?_, hrun⟩
        unfold Region.ready
        rw [List.filter_eq_nil_iff]
        intro k hk
        have hk := List.mem_range.1 hk
        have := hE k (by simpa using hk)
        have h2 : listed.getD k true = true := by
          have hk2 : k < ops.toList.length := by simpa using hk
          simp only [Array.getD] at this ⊢
          split
          · rename_i hh; simpa [hh, hk] using this
          · rfl
        simp [h2]
    | succ d ih =>
      intro listed a1 w1 _ hd hsz hE hrun
      let t := ops.toList.length - (d + 1)
      have ht : t < ops.toList.length := by omega
      have htm : m ≤ t := by omega
      have hts : t < listed.size := by rw [hsz]; simpa using ht
      obtain ⟨o, ho, ho2, hpr⟩ := htail t htm ht
      have ho' : ops[t]? = some o := by simpa using ho
      have hlt : listed.getD t false = false := by rw [hE t ht]; simp [t]
      rw [show ops.toList.length - (d + 1) = t from rfl, List.range'_succ, wpOpsIn_cons] at hrun
      refine ⟨fun hrd => ?_, fun i hi => ?_⟩
      · exfalso
        have hmem : t ∈ Region.ready .any ops listed := by
          unfold Region.ready
          rw [List.mem_filter]
          refine ⟨List.mem_range.2 (by simpa using ht), ?_⟩
          have h2 : listed.getD t true = false := by
            simp only [Array.getD, hts, dif_pos] at hlt ⊢
            exact hlt
          simp only [h2, ho', Bool.not_false, Option.map_some, Option.getD_some, Bool.true_and, Array.all_eq_true_iff_forall_mem, Bool.or_eq_true, Bool.not_eq_true']
          intro e he
          cases hbd : Region.binds .any e with
          | false => exact .inl rfl
          | true =>
            right
            have := ho2 e (by simpa using he) hbd
            rw [hE e.on (by omega)]
            simp; omega
        rw [hrd] at hmem
        simp at hmem
      · have hit : i = t := by
          unfold Region.ready at hi
          rw [List.mem_filter] at hi
          obtain ⟨hi1, hi2⟩ := hi
          have hi1 : i < ops.toList.length := by simpa using List.mem_range.1 hi1
          have his : i < listed.size := by rw [hsz]; simpa using hi1
          have ho3 : ops[i]? = some ops.toList[i] := by simp [List.getElem?_eq_getElem hi1]
          simp only [ho3, Option.map_some, Option.getD_some, Bool.and_eq_true, Bool.not_eq_true', Array.all_eq_true_iff_forall_mem, Bool.or_eq_true] at hi2
          obtain ⟨hl, hed⟩ := hi2
          have hl' : listed.getD i false = false := by
            simp only [Array.getD, his, dif_pos] at hl ⊢
            exact hl
          rw [hE i hi1] at hl'
          simp only [decide_eq_false_iff_not] at hl'
          rcases Nat.lt_or_ge t i with hlt2 | hge
          · exfalso
            obtain ⟨o4, ho4, hb4, hp4⟩ := htail i (by omega) hi1
            have ho4' : ops[i]? = some o4 := by simpa using ho4
            rw [ho3] at ho4'
            cases ho4'
            have : t ∈ pr ops.toList i := hp4 t hlt2
            have clos : ∀ k, k < ops.toList.length → listed.getD k false = true → ∀ j ∈ pr ops.toList k, j ≤ k → listed.getD j false = true := by
              intro k hk hk2 j hj hjk
              rw [hE k hk] at hk2
              rw [hE j (by omega)]
              simp at hk2 ⊢; omega
            obtain ⟨e, he, hbd, hj⟩ := (pr_eq ops.toList ho4 hb4).1 this
            have h1 := (hed e (by simpa using he)).resolve_left (by rw [hbd]; simp)
            have h5 := hb4 e he hbd
            rw [hE e.on (by omega)] at h1
            simp only [decide_eq_true_eq] at h1
            have : t ≤ e.on := by
              rcases hj with hj | hj
              · exact Nat.le_of_eq hj
              · rcases Nat.lt_or_ge e.on t with h6 | h6
                · exfalso
                  have := pr_lt ops.toList hall hj
                  omega
                · exact h6
            omega
          · omega
        subst hit
        have hnx : ∀ a2 w2, wpOpsIn F n P ops Qm (List.range' (t + 1) d) a2 w2 → wpAnyIn F n P .any ops Qm d (listed.setIfInBounds t true) a2 w2 := fun a2 w2 hr2 => by
          refine ih (listed.setIfInBounds t true) a2 w2 () (by omega) (by simp [hsz]) (fun k hk => ?_) (by rw [show ops.toList.length - d = t + 1 by omega]; exact hr2)
          simp only [Array.getD_eq_getD_getElem?]
          by_cases e : k = t
          · subst e; rw [Array.getElem?_setIfInBounds_self_of_lt hts]; simp; omega
          · rw [Array.getElem?_setIfInBounds_ne (Ne.symm e)]
            have := hE k hk
            rw [Array.getD_eq_getD_getElem?] at this
            rw [this]
            congr 1
            apply propext
            omega
        unfold wpOpIn at hrun ⊢
        rw [ho'] at hrun ⊢
        simp only at hrun ⊢
        split at hrun
        · rename_i hwt
          rw [if_pos hwt]
          exact Oper.wpIn_mono hnx hrun
        · rename_i hwt
          rw [if_neg hwt]
          exact ⟨hrun.1, hnx _ _ hrun.2⟩
  have main : ∀ (fuel : Nat) (listed : Array Bool) (a1 : Act) (w1 : World) (G1 : Gh) (s' : St), listed.size = ops.size → listed.toList.count false = fuel + (ops.toList.length - m) →
      (∀ k, m ≤ k → k < ops.toList.length → listed.getD k false = false) →
      (∀ k, k < m → listed.getD k false = true → ∀ j ∈ pr ops.toList k, listed.getD j false = true) → Sim G1 N s' a1 w1 →
      (∀ i, s'.get i = stE wrT valT (fun k => listed.getD k false) s.get m i) → (∀ b, hget s'.h b = stE wrH valH (fun k => listed.getD k false) (hget s.h) m b) →
      s.nx ≤ s'.nx → s'.nx ≤ (S m).nx → (∀ k, k < m → listed.getD k false = false → ∀ b, (S k).nx ≤ b → b < (S (k + 1)).nx → G1.ι b = none) →
      EvoA G w G1 w1 → a1.defers = a.defers → wpAnyIn F n P .any ops (Qm) (fuel + (ops.toList.length - m)) listed a1 w1 := by
    intro fuel
    induction fuel with
    | zero =>
      intro listed a1 w1 G1 s' hsz hcnt htf hcl hsim hT' hH' hn1 hn2 hnew hev hdf
      have hE : ∀ k, k < m → listed.getD k false = true := by
        have := cnt_split (listed := listed) hsz0 hm0 hsz htf
        exact cnt_zero (by omega)
      rw [Nat.zero_add]
      have hsim2 : Sim G1 N (S m) a1 w1 := ⟨hsim.size, fun i => by
        have := hsim.tmp i
        rw [hT' i, stE_all txT hE _ (Nat.le_refl _)] at this
        exact this, hsim.hr.congr (fun b => by rw [hH' b, stE_all txH hE _ (Nat.le_refl _)]) hn2⟩
      refine tail (ops.toList.length - m) listed a1 w1 () (Nat.le_refl _) hsz (fun k hk => ?_) ?_
      · rw [show ops.toList.length - (ops.toList.length - m) = m by omega]
        by_cases hkm : k < m
        · rw [hE k hkm]; simp [hkm]
        · rw [htf k (by omega) hk]; simp [hkm]
      · rw [show ops.toList.length - (ops.toList.length - m) = m by omega]
        rw [hlm] at hQ
        exact hend (S m) a1 w1 G1 hQ hsim2 (Nat.le_trans hb (Nat.le_trans hn1 hn2)) (hev base) hdf
    | succ fuel ih =>
      intro listed a1 w1 G1 s' hsz hcnt htf hcl hsim hT' hH' hn1 hn2 hnew hev hdf
      rw [show fuel + 1 + (ops.toList.length - m) = (fuel + (ops.toList.length - m)) + 1 by omega]
      have hsome : ∃ j, j < m ∧ listed.getD j false = false := by
        rcases Classical.em (∃ j, j < m ∧ listed.getD j false = false) with h | h
        · exact h
        · exfalso
          have h1 := cnt_split (listed := listed) hsz0 hm0 hsz htf
          have h2 : (listed.toList.take m).count false = 0 := cnt_all (fun k hk => by cases hh : listed.getD k false with | true => rfl | false => exact absurd ⟨k, hk, hh⟩ h)
          omega
      refine ⟨fun hrd => ?_, fun i hi => ?_⟩
      · exfalso
        have hE : ∀ k, k < m → listed.getD k false = true := by
          intro k
          induction k using Nat.strongRecOn with
          | _ k ihk =>
            intro hk
            cases hl : listed.getD k false with
            | true => rfl
            | false =>
              exfalso
              obtain ⟨o, fp, ho, hf, _⟩ := hstep k hk
              have hmem : k ∈ Region.ready .any ops listed := by
                unfold Region.ready
                rw [List.mem_filter]
                have hkl : k < ops.toList.length := by omega
                have hks : k < listed.size := by rw [hsz]; simpa using hkl
                refine ⟨List.mem_range.2 (by simpa using hkl), ?_⟩
                have h2 : listed.getD k true = false := by
                  simp only [Array.getD, hks, dif_pos] at hl ⊢
                  exact hl
                have ho' : ops[k]? = some o := by simpa using ho
                simp only [h2, ho', Bool.not_false, Option.map_some, Option.getD_some, Bool.true_and, Array.all_eq_true_iff_forall_mem, Bool.or_eq_true, Bool.not_eq_true']
                intro e he
                cases hbd : Region.binds .any e with
                | false => exact .inl rfl
                | true =>
                  right
                  have := (hat k o fp hk ho hf).1 e (by simpa using he) hbd
                  exact ihk e.on this (by omega)
              rw [hrd] at hmem
              simp at hmem
        obtain ⟨j, hj, hj2⟩ := hsome
        rw [hE j hj] at hj2; cases hj2
      · unfold Region.ready at hi
        rw [List.mem_filter] at hi
        obtain ⟨hi1, hi2⟩ := hi
        have hi0 : i < ops.toList.length := by simpa using List.mem_range.1 hi1
        have his : i < listed.size := by rw [hsz]; simpa using hi0
        have hi1 : i < m := by
          rcases Nat.lt_or_ge i m with h | h
          · exact h
          · exfalso
            obtain ⟨o4, ho4, hb4, hp4⟩ := htail i h hi0
            have ho4' : ops[i]? = some o4 := by simpa using ho4
            simp only [ho4', Option.map_some, Option.getD_some, Bool.and_eq_true, Bool.not_eq_true', Array.all_eq_true_iff_forall_mem, Bool.or_eq_true] at hi2
            obtain ⟨j, hj, hj2⟩ := hsome
            obtain ⟨e, he, hbd, hje⟩ := (pr_eq ops.toList ho4 hb4).1 (hp4 j (by omega))
            have h1 := (hi2.2 e (by simpa using he)).resolve_left (by rw [hbd]; simp)
            rcases Nat.lt_or_ge e.on m with h5 | h5
            · rcases hje with rfl | hje
              · rw [h1] at hj2; cases hj2
              · rw [hcl e.on h5 h1 j hje] at hj2; cases hj2
            · have := hb4 e he hbd
              rw [htf e.on h5 (by omega)] at h1; cases h1
        obtain ⟨o, fp, ho, hf, ⟨val, rd, upd, q1, q2, q3, q4, q5, q6, q7⟩⟩ := hstep i hi1
        have ho' : ops[i]? = some o := by simpa using ho
        simp only [ho', Option.map_some, Option.getD_some, Bool.and_eq_true, Bool.not_eq_true', Array.all_eq_true_iff_forall_mem, Bool.or_eq_true] at hi2
        obtain ⟨hl, hed⟩ := hi2
        have hl' : listed.getD i false = false := by
          simp only [Array.getD, his, dif_pos] at hl ⊢
          exact hl
        have hli : listed.toList[i]? = some false := by
          simp only [Array.getD, his, dif_pos] at hl
          have hl2 : listed[i] = false := hl
          simp [his, hl2]
        have hpri : ∀ j ∈ pr ops.toList i, listed.getD j false = true := by
          intro j hj
          obtain ⟨e, he, hbd, hj⟩ := (pr_eq ops.toList ho (hat i o fp hi1 ho hf).1).1 hj
          have h1 := (hed e (by simpa using he)).resolve_left (by rw [hbd]; simp)
          rcases hj with rfl | hj
          · exact h1
          · exact hcl e.on (Nat.lt_trans ((hat i o fp hi1 ho hf).1 e he hbd) hi1) h1 j hj
        have hlate : ∀ j, i < j → j < m → ∀ oj fj, ops.toList[j]? = some oj → fs[j]? = some fj → listed.getD j false = true → Ind ops.toList o fp oj fj := by
          intro j hj hjm oj fj hoj hfj hlj
          rcases (hat j oj fj hjm hoj hfj).2.2 i hj o fp ho hf with h1 | h1
          · have := hcl j hjm hlj i h1
            rw [hl'] at this; cases this
          · exact h1
        have wrT_iff : ∀ j oj x, ops.toList[j]? = some oj → (wrT j x ↔ oj.dst = some x) := fun j oj x hoj => by
          show (ops.toList[j]?).bind (·.dst) = some x ↔ _
          rw [hoj]; rfl
        have wrH_iff : ∀ j fj b, fs[j]? = some fj → (wrH j b ↔ b ∈ fj.up) := fun j fj b hfj => by
          show b ∈ ((fs[j]?).map (·.up)).getD [] ↔ _
          rw [hfj]; rfl
        have agT : ∀ x ∈ rdsOf ops.toList o, s'.get x = (S i).get x := by
          intro x hx
          rw [hT' x]
          refine stE_agree txT hi1 hl' (fun j hj hwj => ?_) (fun j hj hjm hwj => ?_)
          · obtain ⟨oj, fj, hoj, hfj, _⟩ := hstep j (by omega)
            rcases (hat i o fp hi1 ho hf).2.2 j hj oj fj hoj hfj with h1 | h1
            · exact hpri j h1
            · exact absurd hx (h1.r1 x ((wrT_iff j oj x hoj).1 hwj))
          · obtain ⟨oj, fj, hoj, hfj, _⟩ := hstep j hjm
            cases hlj : listed.getD j false with
            | false => rfl
            | true => exact absurd hx ((hlate j hj hjm oj fj hoj hfj hlj).r2 x ((wrT_iff j oj x hoj).1 hwj))
        have agH : ∀ b ∈ fp.rd, hget s'.h b = hget (S i).h b := by
          intro b hx
          rw [hH' b]
          refine stE_agree txH hi1 hl' (fun j hj hwj => ?_) (fun j hj hjm hwj => ?_)
          · obtain ⟨oj, fj, hoj, hfj, _⟩ := hstep j (by omega)
            rcases (hat i o fp hi1 ho hf).2.2 j hj oj fj hoj hfj with h1 | h1
            · exact hpri j h1
            · exact absurd hx (h1.r4 b ((wrH_iff j fj b hfj).1 hwj)).1
          · obtain ⟨oj, fj, hoj, hfj, _⟩ := hstep j hjm
            cases hlj : listed.getD j false with
            | false => rfl
            | true => exact absurd hx ((hlate j hj hjm oj fj hoj hfj hlj).r5 b ((wrH_iff j fj b hfj).1 hwj))
        have hE' : (fun k => (listed.setIfInBounds i true).getD k false) = fun k => if k = i then true else listed.getD k false := by
          funext k
          simp only [Array.getD_eq_getD_getElem?]
          by_cases e : k = i
          · subst e; rw [Array.getElem?_setIfInBounds_self_of_lt his]; simp
          · rw [Array.getElem?_setIfInBounds_ne (Ne.symm e)]; simp [e]
        have goes := q7.2 n G1 a1 w1 s' (Qm) (wpAnyIn F n P .any ops (Qm) (fuel + (ops.toList.length - m)) (listed.setIfInBounds i true)) hsim agT
          (fun b ob hm => by
            rw [agH b (by rw [q1]; exact List.mem_map_of_mem hm)]
            rcases q6 b ob hm with h1 | ⟨rfl, h1⟩
            · exact h1
            · exact hnone i (by omega) i (Nat.le_refl _) b h1) (hnew i hi1 hl') (fun a2 w2 G2 z1 z2 z3 z4 z5 z6 => by
            refine ih (listed.setIfInBounds i true) a2 w2 G2 ⟨match o.dst with | some d => (d, val) :: s'.t | none => s'.t, upd ++ s'.h, max s'.nx (S (i + 1)).nx⟩ (by simp [hsz]) ?_ ?_ ?_ ⟨z1, fun x => ?_, z3⟩ (fun x => ?_) (fun b => ?_) (by simp only; omega) ?_ ?_ (hev.trans z5) (z6.trans hdf)
            · rw [Array.toList_setIfInBounds]
              have := count_set hli
              omega
            · intro k hk hkl
              have e1 : (listed.setIfInBounds i true).getD k false = if k = i then true else listed.getD k false := congrFun hE' k
              rw [e1, if_neg (by omega)]
              exact htf k hk hkl
            · intro k hk hlk j hj
              have e1 : (listed.setIfInBounds i true).getD k false = if k = i then true else listed.getD k false := congrFun hE' k
              have e2 : (listed.setIfInBounds i true).getD j false = if j = i then true else listed.getD j false := congrFun hE' j
              rw [e1] at hlk
              rw [e2]
              by_cases ej : j = i
              · simp [ej]
              · simp only [ej, if_false]
                by_cases ek : k = i
                · subst ek; exact hpri j hj
                · simp only [ek, if_false] at hlk
                  exact hcl k hk hlk j hj
            · have := z2 x
              cases hd : o.dst with
              | none => simpa [hd, St.get] using this
              | some d =>
                rw [hd] at this
                simp only
                rw [get_put s'.t s'.h _ s'.nx _]
                simpa using this
            · rw [hE', stE_after hi1 hl' (fun hw j hj hjm hwj => by
                obtain ⟨oj, fj, hoj, hfj, _⟩ := hstep j hjm
                cases hlj : listed.getD j false with
                | false => rfl
                | true => exact absurd ((wrT_iff j oj x hoj).1 hwj) ((hlate j hj hjm oj fj hoj hfj hlj).r3 x ((wrT_iff i o x ho).1 hw)))]
              have e4 := q4 x
              by_cases hw : wrT i x
              · have hd := (wrT_iff i o x ho).1 hw
                rw [if_pos hw]
                show _ = (S (i + 1)).get x
                rw [e4, if_pos hd, hd]
                show look ((x, val) :: s'.t) x = val
                simp [look, Nat.beq_refl]
              · rw [if_neg hw, ← hT' x]
                have hd : ¬ o.dst = some x := fun h => hw ((wrT_iff i o x ho).2 h)
                cases hd' : o.dst with
                | none => rfl
                | some d =>
                  have hne : ¬ d = x := fun h => hd (by rw [hd', h])
                  simp only
                  rw [get_put s'.t s'.h _ s'.nx _]
                  simp [hne]
            · rw [hE', stE_after hi1 hl' (fun hw j hj hjm hwj => by
                obtain ⟨oj, fj, hoj, hfj, _⟩ := hstep j hjm
                cases hlj : listed.getD j false with
                | false => rfl
                | true => exact absurd ((wrH_iff j fj b hfj).1 hwj) ((hlate j hj hjm oj fj hoj hfj hlj).r4 b ((wrH_iff i fp b hf).1 hw)).2)]
              have e5 := q5 b
              rw [hget_append]
              by_cases hw : wrH i b
              · have hd := (wrH_iff i fp b hf).1 hw
                rw [q2] at hd
                rw [if_pos hw, if_pos hd]
                show _ = hget (S (i + 1)).h b
                rw [e5, hget_append, if_pos hd]
              · rw [if_neg hw, ← hH' b, if_neg]
                intro hd
                exact hw ((wrH_iff i fp b hf).2 (by rw [q2]; exact hd))
            · have := mono' (i + 1) m (by omega) (Nat.le_refl _)
              simp only
              omega
            · intro k hk hlk b h1 h2
              have e1 : (listed.setIfInBounds i true).getD k false = if k = i then true else listed.getD k false := congrFun hE' k
              rw [e1] at hlk
              by_cases ek : k = i
              · simp [ek] at hlk
              · simp only [ek, if_false] at hlk
                rw [z4 b]
                · exact hnew k hk hlk b h1 h2
                · rcases Nat.lt_or_gt_of_ne ek with hlt | hgt
                  · left
                    have := mono' (k + 1) i (by omega) (by omega)
                    omega
                  · right
                    have := mono' (i + 1) k (by omega) (by omega)
                    omega)
        unfold wpOpIn
        rw [ho']
        unfold Goes at goes
        simpa using goes
  have hmain := main m (Array.replicate ops.size false) a w.drew G s (by simp) (by simp [hsz0]; omega) (fun k _ _ => by simp [Array.getD]) (fun k hk hl => by
    exfalso
    simp [Array.getD] at hl) ⟨hs.size, fun i => (EvoA.drew (G := G) (w := w)).vr (hs.tmp i), hs.hr.drew⟩ (fun i => ?_) (fun b => ?_) (Nat.le_refl _) ?_ ?_ EvoA.drew rfl
  · rw [show m + (ops.toList.length - m) = ops.size by simp only [Array.length_toList] at *; omega] at hmain
    exact wpIn_region_any hm hmain
  · rw [stE_none (fun k => by simp [Array.getD])]
  · rw [stE_none (fun k => by simp [Array.getD])]
  · have := mono' 0 m (Nat.zero_le _) (Nat.le_refl _)
    rw [e0] at this
    exact this
  · intro k hk _ b h1 _
    have := mono' 0 k (Nat.zero_le _) (by omega)
    rw [e0] at this
    exact hs.hr.dom b (by omega)

theorem runOps_then (hT : TabOk P T) (hF : FW F) {all : List Oper} {base n : Nat} {Q : Exit → Act → World → Prop} {tl : List Nat} : ∀ {rest : List Oper} {k : Nat} {s : St} {K : St → Prop}, (∀ i, i < rest.length → rest[i]? = all[k + i]?) → runOps P T N all rest s K →
    ∀ {G : Gh} {a : Act} {w : World}, Sim G N s a w → base ≤ s.nx →
      (∀ s' a' w' G', K s' → Sim G' N s' a' w' → Evo base G w G' w' → base ≤ s'.nx → a'.defers = a.defers → wpOpsIn F n P all.toArray Q tl a' w') → wpOpsIn F n P all.toArray Q (List.range' k rest.length ++ tl) a w
  | [], k, s, K, hk, h, G, a, w, hs, hb, hQ => hQ s a w G h hs (Evo.refl _ _ _) hb rfl
  | o :: r, k, s, K, hk, h, G, a, w, hs, hb, hQ => by
    have ho : all.toArray[k]? = some o := by have := hk 0 (by simp); simpa using this.symm
    have hg := opK_ok (n := n) hT hF (Q := Q) (next := wpOpsIn F n P all.toArray Q (List.range' (k + 1) r.length ++ tl)) h hs hb (fun s' a' w' G' hK hs' he hb' hd =>
      runOps_then hT hF (rest := r) (k := k + 1) (fun i hi => by have := hk (i + 1) (by simp; omega); simpa [Nat.add_assoc, Nat.add_comm 1 i] using this) hK hs' hb'
        (fun s2 a2 w2 G2 q1 q2 q3 q4 q5 => hQ s2 a2 w2 G2 q1 q2 (he.trans q3) q4 (q5.trans hd)))
    rw [List.length_cons, List.range'_succ, List.cons_append]
    unfold Goes at hg
    simp only [wpOpsIn, ho]
    exact hg

/-! ### A looser relation of worlds -/
/-- What is owned lies from G.B on. -/
def Gok (G : Gh) : Prop := ∀ b c, G.ι b = some c → G.B ≤ c
theorem below_of_evo {base nx : Nat} {G G' : Gh} {h : Heap} {w w' : World} (he : Evo base G w G' w') (hr : HR G h nx w) (hk : Gok G) : Below G.B w w' :=
  ⟨he.os, he.tape, he.output, he.size, fun k hlt => he.keepu k (Nat.lt_of_lt_of_le hlt hr.B_le) (fun b hb => by have := hk b k hb; omega)⟩
theorem gok_evo {base nx : Nat} {G G' : Gh} {h : Heap} {w w' : World} (he : Evo base G w G' w') (hr : HR G h nx w) (hk : Gok G) : Gok G' := fun b c hb => by
  rw [he.B]
  rcases Nat.lt_or_ge c w.heap.size with hlt | hge
  · obtain ⟨b', hb'⟩ := he.idn b c hb hlt
    exact hk b' c hb'
  · exact Nat.le_trans hr.B_le hge
def PostH (N B : Nat) (w : World) (D : List Deferred) (Q : Ex → St → Prop) (e : Exit) (a' : Act) (w' : World) : Prop :=
  ∃ e' s' G', e = e'.to ∧ Q e' s' ∧ Sim G' N s' a' w' ∧ Gok G' ∧ G'.B = B ∧ Below B w w' ∧ a'.defers = D
/-- What a piece of code does, where what is told as fresh may be written. -/
def VH (P : Program) (F : Fence) (N : Nat) (c : Code) (s : St) (Q : Ex → St → Prop) : Prop :=
  ∀ (n : Nat) (G : Gh) (a : Act) (w : World), Sim G N s a w → Gok G → c.wpIn F n P (PostH N G.B w a.defers Q) a w
theorem PostH.under {N B : Nat} {w w1 : World} {D D1 : List Deferred} {Q : Ex → St → Prop} {e : Exit} {a' : Act} {w' : World} (h : PostH N B w1 D1 Q e a' w') (hb : Below B w w1) (hd : D1 = D) : PostH N B w D Q e a' w' := by
  obtain ⟨e', s', G', h1, h2, h3, h4, h5, h6, h7⟩ := h
  exact ⟨e', s', G', h1, h2, h3, h4, h5, hb.trans h6, h7.trans hd⟩
theorem VH.mono {c : Code} {s : St} {Q Q' : Ex → St → Prop} (h : VH P F N c s Q) (hq : ∀ e s, Q e s → Q' e s) : VH P F N c s Q' :=
  fun n G a w hs hk => wpIn_mono (h n G a w hs hk) fun e a' w' ⟨e', s', G', h1, h2, h3⟩ => ⟨e', s', G', h1, hq _ _ h2, h3⟩
theorem vh_skip {s : St} {Q : Ex → St → Prop} (h : Q .normal s) : VH P F N .skip s Q := fun n G a w hs hk => wpIn_skip ⟨.normal, s, G, rfl, h, hs, hk, rfl, Below.refl _ _, rfl⟩
theorem vh_exit {id : Nat} {s : St} {Q : Ex → St → Prop} (h : Q (.exit id) s) : VH P F N (.exit id) s Q := fun n G a w hs hk => wpIn_exit ⟨.exit id, s, G, rfl, h, hs, hk, rfl, Below.refl _ _, rfl⟩
theorem vh_ret {s : St} {Q : Ex → St → Prop} (h : Q .ret s) : VH P F N .ret s Q := fun n G a w hs hk => wpIn_ret ⟨.ret, s, G, rfl, h, hs, hk, rfl, Below.refl _ _, rfl⟩
theorem vh_seq {x y : Code} {s : St} {Q : Ex → St → Prop} (h : VH P F N x s (thenK (fun s' => VH P F N y s' Q) Q)) : VH P F N (.seq x y) s Q := by
  intro n G a w hs hk
  refine wpIn_seq (wpIn_mono (h n G a w hs hk) ?_)
  rintro e a' w' ⟨e', s', G', rfl, hq, hs', hk', hB, hb, hd⟩
  cases e' with
  | normal =>
    have := hq n G' a' w' hs' hk'
    rw [hB] at this
    exact wpIn_mono this (fun e2 a2 w2 hp => hp.under hb hd)
  | exit id => exact ⟨.exit id, s', G', rfl, hq, hs', hk', hB, hb, hd⟩
  | goto l => exact ⟨.goto l, s', G', rfl, hq, hs', hk', hB, hb, hd⟩
  | ret => exact ⟨.ret, s', G', rfl, hq, hs', hk', hB, hb, hd⟩
theorem vh_cond {c : Operand} {x y : Code} {s : St} {Q : Ex → St → Prop} {b : Bool} (hc : ev s c = .bool b) (h1 : b = true → VH P F N x s Q) (h2 : b = false → VH P F N y s Q) : VH P F N (.cond c x y) s Q := by
  intro n G a w hs hk
  have hv := ev_vr hs c (fun _ _ => rfl)
  rw [hc] at hv
  exact wpIn_cond_split (VR.bool_iff.1 hv) (fun e => h1 e n G a w hs hk) (fun e => h2 e n G a w hs hk)
theorem vh_block {id : Nat} {x : Code} {s : St} {Q : Ex → St → Prop} (h : VH P F N x s (blockK id Q)) : VH P F N (.block id x) s Q := by
  intro n G a w hs hk
  refine wpIn_block (wpIn_mono (h n G a w hs hk) ?_)
  rintro e a' w' ⟨e', s', G', rfl, hq, hs', hr⟩
  cases e' with
  | normal => exact ⟨.normal, s', G', rfl, hq, hs', hr⟩
  | exit j =>
    simp only [blockK] at hq
    by_cases hj : j = id
    · subst hj
      simp only [Nat.beq_refl] at hq
      simp only [Ex.to, Exit.inBlock, if_true]
      exact ⟨.normal, s', G', rfl, hq, hs', hr⟩
    · have : Nat.beq j id = false := by
        cases hx : Nat.beq j id with
        | false => rfl
        | true => exact absurd (Nat.eq_of_beq_eq_true hx) hj
      simp only [this] at hq
      simp only [Ex.to, Exit.inBlock, hj, if_false]
      exact ⟨.exit j, s', G', rfl, hq, hs', hr⟩
  | goto l => exact ⟨.goto l, s', G', rfl, hq, hs', hr⟩
  | ret => exact ⟨.ret, s', G', rfl, hq, hs', hr⟩
/-- One state tells less than another. -/
theorem Wk.h {base : Nat} {s s' : St} (hw : Wk base N s s') (hb : base ≤ s.nx) {G : Gh} {a : Act} {w : World} (hs : Sim G N s a w) (hk : Gok G) : ∃ G', Sim G' N s' a w ∧ Gok G' ∧ G'.B = G.B := by
  obtain ⟨G', hs', he, _⟩ := hw G a w hs hb
  exact ⟨G', hs', gok_evo he hs.hr hk, he.B⟩
theorem vh_weak {c : Code} {s s' : St} {Q : Ex → St → Prop} (hw : Wk 0 N s s') (h : VH P F N c s' Q) : VH P F N c s Q := by
  intro n G a w hs hk
  obtain ⟨G', hs', hk', hB⟩ := hw.h (Nat.zero_le _) hs hk
  have := h n G' a w hs' hk'
  rwa [hB] at this
theorem vh_loop {c : Code} {s : St} {Q : Ex → St → Prop} {S : Type} (st : S → St) (μ : S → Nat) (i0 : S) (h0 : Wk 0 N s (st i0))
    (h : ∀ i, VH P F N c (st i) (thenK (fun s' => ∃ j, Wk 0 N s' (st j) ∧ μ j < μ i) Q)) : VH P F N (.loop c) s Q := by
  intro n G a w hs hk b k cs hro hfn hroom
  have key : ∀ m i (a1 : Act) (w1 : World) (G1 : Gh), μ i = m → Sim G1 N (st i) a1 w1 → Gok G1 → G1.B = G.B → Below G.B w w1 → a1.defers = a.defers →
      ∃ e a' w', PostH N G.B w a.defers Q e a' w' ∧ ArrivesIn (Machine.fenced P F) P (lone (b.atR a1 (.code c :: .inLoop c :: k)) cs w1) b k cs e a' w' := by
    intro m
    induction m using Nat.strongRecOn with
    | _ m ih =>
      intro i a1 w1 G1 hm hs1 hk1 hB1 hb1 hd1
      obtain ⟨e, a2, w2, ⟨e', s2, G2, rfl, hq, hs2, hk2, hB2, hb2, hd2⟩, harr⟩ := h i n G1 a1 w1 hs1 hk1 b (.inLoop c :: k) cs hro hfn hroom
      rw [hB1] at hB2 hb2
      cases e' with
      | normal =>
        obtain ⟨j, hw, hlt⟩ := hq
        obtain ⟨G3, hs3, hk3, hB3⟩ := hw.h (Nat.zero_le _) hs2 hk2
        obtain ⟨e, a', w', hp, harr2⟩ := ih (μ j) (hm ▸ hlt) j a2 w2 G3 rfl hs3 hk3 (hB3.trans hB2) (hb1.trans hb2) (hd2.trans hd1)
        exact ⟨e, a', w', hp, .of_steps (StepsIn.trans harr (.one (fenced_calm hfn hroom rfl) stepR_inLoop)) harr2⟩
      | exit id => exact ⟨.exit id, a2, w2, ⟨.exit id, s2, G2, rfl, hq, hs2, hk2, hB2, hb1.trans hb2, hd2.trans hd1⟩, .pass (x := .inLoop c) rfl (fun _ _ => .inl (by simp)) harr⟩
      | goto l => exact ⟨.goto l, a2, w2, ⟨.goto l, s2, G2, rfl, hq, hs2, hk2, hB2, hb1.trans hb2, hd2.trans hd1⟩, .pass (x := .inLoop c) rfl (fun _ _ => .inl (by simp)) harr⟩
      | ret => exact ⟨.ret, a2, w2, ⟨.ret, s2, G2, rfl, hq, hs2, hk2, hB2, hb1.trans hb2, hd2.trans hd1⟩, .pass (x := .inLoop c) rfl (fun _ _ => .inl (by simp)) harr⟩
  obtain ⟨G0, hs0, hk0, hB0⟩ := h0.h (Nat.zero_le _) hs hk
  obtain ⟨e, a', w', hp, harr⟩ := key _ i0 a w G0 rfl hs0 hk0 hB0 (Below.refl _ _) rfl
  exact ⟨e, a', w', hp, .of_steps (.one (fenced_calm hfn hroom rfl) stepR_loop) harr⟩
theorem vh_region (hT : TabOk P T) (hF : FW F) {id : Nat} {ops : Array Oper} {s : St} {Q : Ex → St → Prop} (h : runOps P T N ops.toList ops.toList s (Q .normal)) : VH P F N (.region id ops false) s Q := by
  intro n G a w hs hk
  refine wpIn_region ?_
  have := runOps_ok (n := n) hT hF (rest := ops.toList) (all := ops.toList) (k := 0) (base := 0) (Q := PostH N G.B w a.defers Q) (fun i => by simp) h hs (Nat.zero_le _) (fun s' a' w' G' q1 q2 q3 q4 q5 => ⟨.normal, s', G', rfl, q1, q2, gok_evo q3 hs.hr hk, q3.B, below_of_evo q3 hs.hr hk, q5⟩)
  rw [List.range_eq_range']
  simpa using this

/-! ### A store into what was told as fresh -/
/-- The world but for one cell. -/
structure Ch (w w' : World) (ad : Addr) (u : Value) : Prop where
  os : w'.os = w.os
  tape : w'.tape = w.tape
  output : w'.output = w.output
  size : w'.heap.size = w.heap.size
  other : ∀ c, c ≠ ad.block → w'.heap[c]? = w.heap[c]?
  cell : ∀ p, w'.cell? p = if p = ad then some u else w.cell? p
  frozen : ∀ p, w'.frozen? p = w.frozen? p
  csz : ∀ c m, csz w c = some m → csz w' c = some m
theorem ch_setCell {w : World} {ad : Addr} {u u0 : Value} (h : w.cell? ad = some u0) : Ch w (w.setCell ad u) ad u := by
  have hs : ad.spot = none := by
    unfold World.cell? at h
    split at h
    · split at h
      · cases h
      · rename_i hn; simpa using hn
    · cases h
  obtain ⟨b, o, sp⟩ := ad
  simp only at hs
  subst hs
  have hat : ∀ c, (w.setCell ⟨b, o, none⟩ u).heap[c]? = if b = c then (w.heap[c]?).map (fun | .cells c' elem frozen => .cells (c'.setIfInBounds o u) elem frozen | x => x) else w.heap[c]? := by
    intro c
    simp only [World.setCell, Array.getElem?_modify]
    split <;> rfl
  refine ⟨rfl, rfl, rfl, by simp [World.setCell], fun c hc => ?_, fun p => ?_, fun p => ?_, fun c m hm => ?_⟩
  · rw [hat, if_neg (fun e => hc e.symm)]
  · unfold World.cell? at h ⊢
    rw [hat]
    by_cases e : b = p.block
    · rw [if_pos e]
      subst e
      obtain ⟨pb, po, ps⟩ := p
      simp only at h ⊢
      cases hg : w.heap[pb]? with
      | none => rw [hg] at h; cases h
      | some ob =>
        rw [hg] at h
        cases ob with
        | cells cs t fz =>
          simp only [Option.isSome_none, Bool.false_eq_true, if_false] at h
          simp only [Option.map_some]
          have hlt : o < cs.size := (Array.getElem?_eq_some_iff.1 h).1
          cases ps with
          | some x => simp
          | none =>
            simp only [Option.isSome_none, Bool.false_eq_true, if_false, Addr.mk.injEq, true_and, and_true]
            by_cases eo : po = o
            · subst eo; rw [Array.getElem?_setIfInBounds_self_of_lt hlt]; simp
            · rw [Array.getElem?_setIfInBounds_ne (fun h => eo h.symm)]; simp [eo]
        | _ => simp at h
    · rw [if_neg e]
      have : ¬ p = ⟨b, o, none⟩ := fun h => e (by rw [h])
      rw [if_neg this]
  · unfold World.frozen?
    rw [hat]
    by_cases e : b = p.block
    · rw [if_pos e]
      cases hg : w.heap[p.block]? with
      | none => rfl
      | some ob => cases ob <;> rfl
    · rw [if_neg e]
  · unfold csz at hm ⊢
    rw [hat]
    by_cases e : b = c
    · rw [if_pos e]
      cases hg : w.heap[c]? with
      | none => rw [hg] at hm; cases hm
      | some ob => rw [hg] at hm; cases ob <;> simp at hm ⊢ <;> exact hm
    · rw [if_neg e]; exact hm
/-- What a store through a pointer into fresh memory asks. -/
def HotK (T : Tab) (N : Nat) (t : TypeId) (x y : Operand) (s : St) (K : St → Prop) : Prop :=
  ∃ v0 cs nv, ev s x = .iptr true (v0 :: cs) ∧ ev s y = nv ∧ nv.one = true ∧ (T t).k ≠ .other ∧ (T t).size = 1 ∧
    ∀ (G : Gh) (a : Act) (w w' : World) (ad : Addr) (u0 u1 : Value), Sim G N s a w → Gok G → imm G w true ad u0 → vr G w v0 u0 → vr G w nv u1 → Ch w w' ad u1 → ∃ s'' G', K s'' ∧ Sim G' N s'' a w' ∧ Gok G' ∧ G'.B = G.B
theorem hot_run (hT : TabOk P T) {o : Oper} {t : TypeId} {x y : Operand} (ho : o.op = .store t x y) {s : St} {K : St → Prop} (h : HotK T N t x y s K) {G : Gh} {a : Act} {w : World} (hs : Sim G N s a w) (hk : Gok G) :
    ∃ w' s'' G', (execOp a.eval o).run P w = .ok .skip w' ∧ K s'' ∧ Sim G' N s'' a w' ∧ Gok G' ∧ G'.B = G.B ∧ Below G.B w w' := by
  obtain ⟨v0, cs, nv, h1, h2, hone, hko, hsz, h3⟩ := h
  have hx := ev_vr hs x (fun _ _ => rfl)
  have hy := ev_vr hs y (fun _ _ => rfl)
  rw [h1] at hx
  rw [h2] at hy
  generalize hux : a.eval x = ux at hx
  generalize huy : a.eval y = uy at hy
  cases hx with
  | iptr _ _ ad us hsp hc hv =>
    have him := hc 0 v0 rfl
    have hv0 := hv 0 v0 rfl
    have ead : (⟨ad.block, ad.off + 0, none⟩ : Addr) = ad := by obtain ⟨b, o, sp⟩ := ad; simp only at hsp; subst hsp; rfl
    rw [ead] at him
    have hcells := VR.one_cells hone hy
    have h1c := VR.one' hone hy
    have hch := ch_setCell (u := uy) him.1
    obtain ⟨s'', G', q1, q2, q3, q4⟩ := h3 G a w _ ad (us 0) uy hs hk him hv0 hy hch
    have hst : (store ad uy .plain).run P w = .ok () (w.setCell ad uy) := by
      rw [run_store P w ad uy .plain h1c, him.1, (him.2.2.1 rfl).2]
      rfl
    refine ⟨_, s'', G', ?_, q1, q2, q3, q4, ⟨rfl, rfl, rfl, by simp [World.setCell], fun k hlt => hch.other k (by have := (him.2.2.1 rfl).1; omega)⟩⟩
    have e0 : ad.add 0 = ad := by rw [add_none hsp]; exact ead
    simp only [execOp, ho, hux, huy, Instr.storeAt, Instr.sureAddr, storeVar, Sem.run_bind, Sem.run_pure, Result.andThen_ok, hT.sizeOf hko, hcells, hsz, List.size_toArray, List.length_cons, List.length_nil, ne_eq, not_true_eq_false, if_false, storeCells, e0, hst]
theorem vh_hot (hT : TabOk P T) (hm : P.follows .mixedOrders = true) (hF : FW F) {id : Nat} {ops : Array Oper} {draw : Bool} {s : St} {Q : Ex → St → Prop} {m : Nat} {o : Oper} {t : TypeId} {x y : Operand} (hl : ops.toList.length = m + 1) (ho : ops.toList[m]? = some o) (hop : o.op = .store t x y) (hg : o.guard = none) (hd : o.dst = none)
    (h : match draw with
      | false => runOps P T N ops.toList (ops.toList.take m) s fun s' => HotK T N t x y s' (Q .normal)
      | true => drawK P T N ops.toList (ops.toList.take m) s [] fun fps s' => (drawOkN ops.toList m fps && tailOk ops.toList m) = true ∧ HotK T N t x y s' (Q .normal)) : VH P F N (.region id ops draw) s Q := by
  intro n G a w hs hk
  have last : ∀ s' a1 w1 G1, HotK T N t x y s' (Q .normal) → Sim G1 N s' a1 w1 → Evo 0 G w G1 w1 → a1.defers = a.defers → wpOpsIn F n P ops (PostH N G.B w a.defers Q) [m] a1 w1 := by
    intro s' a1 w1 G1 hh hs1 he hdf
    have ho' : ops[m]? = some o := by simpa using ho
    have hk1 := gok_evo he hs.hr hk
    obtain ⟨w', s'', G', hrun, q1, q2, q3, q4, q5⟩ := hot_run hT hop hh hs1 hk1
    have hnd : ∀ c, o.op ≠ .defer c := by rw [hop]; simp
    have hwt : Region.wanted o (yielded ops a1.tmps) = true := by simp [Region.wanted, hg]
    simp only [wpOpsIn, ho', hwt, if_true]
    refine ⟨fun f _ => hF.fn f, ?_⟩
    rw [Oper.semAt_eq _ _ _ hnd, hrun, Oper.uponIn_skip, hd]
    rw [he.B] at q4 q5
    exact ⟨.normal, s'', G', rfl, q1, q2, q3, q4, (below_of_evo he hs.hr hk).trans q5, hdf⟩
  have hsz : ops.size = m + 1 := by simpa using hl
  cases draw with
  | false =>
    refine wpIn_region ?_
    have := runOps_then (n := n) (tl := [m]) hT hF (rest := ops.toList.take m) (all := ops.toList) (k := 0) (base := 0) (Q := PostH N G.B w a.defers Q) (fun i hi => by rw [Nat.zero_add, List.getElem?_take_of_lt (by simp at hi; omega)]) h hs (Nat.zero_le _) (fun s' a1 w1 G1 h1 h2 h3 _ h4 => by simpa using last s' a1 w1 G1 h1 h2 h3 h4)
    rw [List.range_eq_range', hsz, List.range'_concat]
    rw [List.length_take, Nat.min_eq_left (by omega)] at this
    simpa using this
  | true =>
    refine wp_draw_cut hT hm hF hs (Nat.zero_le _) (by omega) h (fun s' a1 w1 G1 h1 h2 _ h3 h4 => ?_)
    rw [hl, show m + 1 - m = 1 by omega]
    exact last s' a1 w1 G1 h1 h2 h3 h4
end
end Go.Proofs.YtjpfofmkgdjelaaGreat
/- Back from a piece of code that writes over what it was handed; calls that do. -/
set_option linter.unusedVariables false
set_option linter.unusedSimpArgs false
namespace Go.Proofs.YtjpfofmkgdjelaaGreat
open Go.RowKit

section
variable {P : Program} {T : Tab} {F : Fence} {N : Nat}
/-- All that is there never turns. -/
def Gh.all (w : World) : Gh := ⟨fun _ => none, fun c => c < w.heap.size, w.heap.size⟩
theorem HR.all (w : World) : HR (Gh.all w) [] 0 w :=
  ⟨fun _ h => h, Nat.le_refl _, fun _ _ => rfl, fun b blk h => by simp [hget] at h, fun b b' k k' c h => by simp [hget] at h, fun b k c h => by simp [hget] at h, (fun b c h => by cases h), fun b k h => by simp [hget] at h⟩
theorem Gok.all (w : World) : Gok (Gh.all w) := fun b c h => by cases h
theorem imm_all {G : Gh} {h : Heap} {nx : Nat} {w : World} (hr : HR G h nx w) {a : Addr} {u : Value} (hi : imm G w false a u) : imm (Gh.all w) w false a u := ⟨hi.1, hr.amb_lt _ hi.2.1, (fun h => by cases h), hi.2.2.2⟩
theorem vr_all {G : Gh} {h : Heap} {nx : Nat} {w : World} (hr : HR G h nx w) {v : V} {u : Value} (hf : Free v) (hc : Cold v) (hv : vr G w v u) : vr (Gh.all w) w v u :=
  hf _ _ _ _ _ (hc _ _ _ _ _ (fun _ _ hi => imm_all hr hi) hv)
/-- A variable that is owned, seen as memory that never turns. -/
theorem ptr_all {G : Gh} {h : Heap} {nx b : Nat} {fr : Bool} {ty : TypeId} {cells : List V} {w : World} (hr : HR G h nx w) (hb : hget h b = some (.var fr ty cells)) (hc : ∀ v ∈ cells, Free v ∧ Cold v) {u : Value} (hv : vr G w (.ptr b 0) u) : vr (Gh.all w) w (.iptr false cells) u := by
  cases hv with
  | ptr _ _ c hι =>
    obtain ⟨c', cs, h1, hh, hle, _, _, hcell, _⟩ : Holds G w b fr true ty cells := hr.own b _ hb
    rw [hι] at h1
    obtain rfl : c = c' := Option.some.inj h1
    refine .iptr false cells ⟨c, 0, none⟩ (fun j => cs[j]?.getD undef) rfl (fun j v hj => ?_) (fun j v hj => ?_)
    · obtain ⟨u, hu, hone, _⟩ := hcell j v hj
      refine ⟨by simp [World.cell?, hh, hu], hr.lt b c hι, (fun h => by cases h), by simp [hu, hone]⟩
    · obtain ⟨u, hu, _, hv⟩ := hcell j v hj
      obtain ⟨q1, q2⟩ := hc v (List.mem_of_getElem? hj)
      simp only [hu, Option.getD_some]
      exact vr_all hr q1 q2 hv
theorem Below.back {w w' : World} (h : Below w.heap.size w w') : Back w w' := ⟨h.os, h.tape, h.output, h.size, fun c hc => h.block c hc⟩

/-- A value that needs no memory. -/
inductive Scalar : V → Prop
  | int {k n} : Scalar (.int k n)
  | bool {b} : Scalar (.bool b)
theorem Scalar.vr {v : V} (h : Scalar v) {G G' : Gh} {w w' : World} {u : Value} (hv : vr G w v u) : vr G' w' v u := by
  cases h <;> cases hv <;> constructor
/-- Code that runs where all of then is told as never turning, told by what it was then. -/
def VB (P : Program) (F : Fence) (N base : Nat) (s0 : St) (Q : Ex → St → Prop) (u : Nat → Value) (c : Code) (s : St) : Prop :=
  ∀ (n : Nat) (G0 : Gh) (a0 : Act) (w0 : World) (G : Gh) (a : Act) (w : World), Sim G0 N s0 a0 w0 → base ≤ s0.nx → (∀ i, a0.tmps.getD i undef = u i) → Sim G N s a w → Gok G → G.B = w0.heap.size → Below w0.heap.size w0 w → a.defers = a0.defers →
    c.wpIn F n P (Post N base G0 w0 a0.defers Q) a w
theorem vb_start {base : Nat} {s0 : St} {Q : Ex → St → Prop} {c : Code} (tF : (Nat → Value) → List (Nat × V))
    (hF : ∀ (G : Gh) (a : Act) (w : World), Sim G N s0 a w → ∀ i, vr (Gh.all w) w (look (tF fun i => a.tmps.getD i undef) i) (a.tmps.getD i undef))
    (h : ∀ u, VB P F N base s0 Q u c ⟨tF u, [], 0⟩) : VC P F N base c s0 Q := by
  intro n G a w hs hb
  exact h _ n G a w (Gh.all w) a w hs hb (fun _ => rfl) ⟨hs.size, fun i => hF G a w hs i, HR.all w⟩ (Gok.all w) rfl (Below.refl _ _) rfl
/-- What a list of temps tells, is so. -/
def allF (w : World) (a : Act) : List (Nat × V) → Prop
  | [] => True
  | (i, v) :: r => vr (Gh.all w) w v (a.tmps.getD i undef) ∧ allF w a r
theorem allF.out {w : World} {a : Act} : ∀ {t : List (Nat × V)}, allF w a t → ∀ i, vr (Gh.all w) w (look t i) (a.tmps.getD i undef)
  | [], _, i => .any _
  | (j, v) :: r, h, i => by
    have e : look ((j, v) :: r) i = if j = i then v else look r i := by
      have := get_put r [] [] 0 0 j v i
      simpa [St.get] using this
    rw [e]
    by_cases hij : j = i
    · subst hij; rw [if_pos rfl]; exact h.1
    · rw [if_neg hij]; exact allF.out h.2 i
theorem vb_start' {base : Nat} {s0 : St} {Q : Ex → St → Prop} {c : Code} (tF : (Nat → Value) → List (Nat × V))
    (hF : ∀ (G : Gh) (a : Act) (w : World), Sim G N s0 a w → allF w a (tF fun i => a.tmps.getD i undef))
    (h : ∀ u, VB P F N base s0 Q u c ⟨tF u, [], 0⟩) : VC P F N base c s0 Q := vb_start tF (fun G a w hs => (hF G a w hs).out) h
theorem vb_seq {base : Nat} {s0 : St} {Q : Ex → St → Prop} {u : Nat → Value} {x y : Code} {s : St} (h : VH P F N x s (thenK (fun s' => VB P F N base s0 Q u y s') (fun _ _ => False))) : VB P F N base s0 Q u (.seq x y) s := by
  intro n G0 a0 w0 G a w hs0 hb hu hs hk hB hbl hd
  refine wpIn_seq (wpIn_mono (h n G a w hs hk) ?_)
  rintro e a' w' ⟨e', s', G', rfl, hq, hs', hk', hB', hbl', hd'⟩
  rw [hB] at hB' hbl'
  cases e' with
  | normal => exact hq n G0 a0 w0 G' a' w' hs0 hb hu hs' hk' hB' (hbl.trans hbl') (hd'.trans hd)
  | exit id => exact hq.elim
  | goto l => exact hq.elim
  | ret => exact hq.elim
theorem vb_end {base : Nat} {t : List (Nat × V)} {h0 : Heap} {nx : Nat} {Q : Ex → St → Prop} {u : Nat → Value} {c : Code} {s : St} (t2 : List (Nat × V))
    (ht : ∀ i, look t2 i = .any ∨ (Scalar (look t2 i) ∧ s.get i = look t2 i) ∨ (look t2 i = look t i ∧ ∃ v, s.get i = .pin (u i) v))
    (h : VC P F N base c ⟨t2, h0, nx⟩ Q) : VB P F N base ⟨t, h0, nx⟩ Q u c s := by
  intro n G0 a0 w0 G a w hs0 hb hu hs hk hB hbl hd
  have hbk := Below.back hbl
  have he := hbk.evo hs0.hr.amb_lt
  have hs2 : Sim G0 N ⟨t2, h0, nx⟩ a w := by
    refine ⟨hs.size, fun i => ?_, hs0.hr.back hbk⟩
    have hi := hs.tmp i
    show vr G0 w (look t2 i) _
    rcases ht i with h1 | ⟨h1, h2⟩ | ⟨h1, v, h2⟩
    · rw [h1]; exact .any _
    · rw [h2] at hi; exact h1.vr hi
    · rw [h2] at hi
      have e : a.tmps.getD i undef = u i := by
        generalize a.tmps.getD i undef = x at hi
        cases hi with
        | pin => rfl
      rw [e, ← hu i, h1]
      exact vr_back hs0.hr hbk (hs0.tmp i)
  exact wpIn_mono (h n G0 a w hs2 hb) fun e a' w' hp => hp.evo (he base) (Dfr.of_eq hd)
/-- How a state's values are looked up, one by one. -/
def kept (s t : List (Nat × V)) (u : Nat → Value) : List (Nat × V) → Prop
  | [] => True
  | (i, v) :: r => ((Scalar v ∧ look s i = v) ∨ (v = look t i ∧ ∃ v', look s i = .pin (u i) v')) ∧ kept s t u r
theorem kept.out {s t : List (Nat × V)} {u : Nat → Value} : ∀ {t2 : List (Nat × V)}, kept s t u t2 → ∀ i, look t2 i = .any ∨ (Scalar (look t2 i) ∧ look s i = look t2 i) ∨ (look t2 i = look t i ∧ ∃ v, look s i = .pin (u i) v)
  | [], _, i => .inl rfl
  | (j, v) :: r, h, i => by
    have e : look ((j, v) :: r) i = if j = i then v else look r i := by
      have := get_put r [] [] 0 0 j v i
      simpa [St.get] using this
    rw [e]
    by_cases hij : j = i
    · subst hij
      rw [if_pos rfl]
      rcases h.1 with ⟨h1, h2⟩ | ⟨h1, h2⟩
      · exact .inr (.inl ⟨h1, h2⟩)
      · exact .inr (.inr ⟨h1, h2⟩)
    · rw [if_neg hij]
      exact kept.out h.2 i
theorem vb_end' {base : Nat} {t : List (Nat × V)} {h0 : Heap} {nx : Nat} {Q : Ex → St → Prop} {u : Nat → Value} {c : Code} {s : St} (t2 : List (Nat × V)) (ht : kept s.t t u t2)
    (h : VC P F N base c ⟨t2, h0, nx⟩ Q) : VB P F N base ⟨t, h0, nx⟩ Q u c s := vb_end t2 (kept.out ht) h

/-! ### A call that writes over what it is handed -/
def CallH (P : Program) (f : FuncId) (args : List V) : Prop :=
  (∃ fn, P.funcs[f]? = some fn) ∧ ∀ (G : Gh) (w : World) (us : List Value), HR G [] 0 w → Gok G → vrs G w args us → Cal P f us.toArray w fun e w' => ∃ u, e = .returned u ∧ Below G.B w w'
theorem callH_of {f : FuncId} {fn : Func} {body : Code} (hf : P.funcs[f]? = some fn) (hb : fn.body = some body) (hn : fn.name ≠ "runtime.NumGoroutine") (hres : fn.results = #[]) {args : List V} (hl : args.length ≤ fn.ntmps)
    (hv : VH P Fence.wide fn.ntmps body ⟨zipT args 0, [], 0⟩ (fun e s' => e = .normal ∨ e = .ret)) : CallH P f args := by
  refine ⟨⟨fn, hf⟩, fun G w us hr hk hargs => .inl ⟨⟨fn, hf, by simp [hb], hn⟩, (callsIn_wide (n := 0)).1 (callsIn_of_wp_marks hf hb trivial ?_)⟩⟩
  have hsim : Sim G fn.ntmps ⟨zipT args 0, [], 0⟩ { tmps := us.toArray ++ Array.replicate (fn.ntmps - us.toArray.size) undef, defers := [] } w := by
    have hul : us.length = args.length := hargs.1.symm
    refine ⟨by simp; omega, fun i => ?_, hr⟩
    simp only [St.get]
    rw [zipT_get]
    split
    · rename_i hi
      have hi1 : i < args.length := by omega
      have hi2 : i < us.length := by omega
      have e1 : args.getD (i - 0) .any = args[i] := by simp [hi1]
      rw [e1]
      have e2 : (us.toArray ++ Array.replicate (fn.ntmps - us.toArray.size) undef).getD i undef = us[i] := by
        rw [Array.getD_eq_getD_getElem?, Array.getElem?_append_left (by simpa using hi2)]
        simp [hi2]
      rw [e2]
      exact hargs.2 i _ _ (List.getElem?_eq_getElem hi1) (List.getElem?_eq_getElem hi2)
    · exact .any _
  refine wpIn_mono (hv 0 G _ w hsim hk) ?_
  rintro e a' w' ⟨e', s', G', rfl, hq, hs', hk', hB, hbl, hd⟩
  have hd : a'.defers = [] := hd
  have fin : ∃ v, (results fn a'.tmps).run P w' = .ok v w' := ⟨_, by simp [results, hres]; rfl⟩
  obtain ⟨v, hv⟩ := fin
  rcases hq with rfl | rfl
  · show LeavesInM _ _ _ _ _ _ a'.defers _ _
    rw [hd]
    exact ⟨v, hv, v, rfl, hbl⟩
  · show LeavesInM _ _ _ _ _ _ a'.defers _ _
    rw [hd]
    exact ⟨v, hv, v, rfl, hbl⟩
def blank : V → V
  | .pin u _ => .pin u .any
  | .int k n => .int k n
  | .bool b => .bool b
  | _ => .any
def blankT : List (Nat × V) → List (Nat × V)
  | [] => []
  | (i, v) :: r => (i, blank v) :: blankT r
theorem look_blankT (i : Nat) : ∀ t : List (Nat × V), look (blankT t) i = blank (look t i)
  | [] => rfl
  | (j, v) :: r => by
    unfold blankT
    have e : ∀ (r : List (Nat × V)) v, look ((j, v) :: r) i = if j = i then v else look r i := fun r v => by
      have := get_put r [] [] 0 0 j v i
      simpa [St.get] using this
    rw [e, e]
    split
    · rfl
    · exact look_blankT i r
theorem blank_vr {v : V} {G G' : Gh} {w w' : World} {u : Value} (hv : vr G w v u) : vr G' w' (blank v) u := by
  cases hv with
  | pin u v h => exact .pin u .any (.any _)
  | int => exact .int _ _
  | bool => exact .bool _
  | _ => exact .any _
/-- The region whose last operation is such a call. -/
theorem vh_spoil (hT : TabOk P T) (hF : FW F) {id : Nat} {ops : Array Oper} {s : St} {Q : Ex → St → Prop} {m fid : Nat} {o : Oper} {c : Call} (hl : ops.toList.length = m + 1) (ho : ops.toList[m]? = some o) (hop : o.op = .call c) (hcal : c.callee = .value (.func fid)) (hg : o.guard = none)
    (h : runOps P T N ops.toList (ops.toList.take m) s fun s' => ∃ vs, evs none s' c.args.toList (fun ws => ws = vs) ∧ (∀ v ∈ vs, Free v) ∧ CallH P fid vs ∧
      Q .normal ⟨match o.dst with | some d => (d, .any) :: blankT s'.t | none => blankT s'.t, [], 0⟩) : VH P F N (.region id ops false) s Q := by
  intro n G a w hs hk
  have last : ∀ s' a1 w1 G1, (∃ vs, evs none s' c.args.toList (fun ws => ws = vs) ∧ (∀ v ∈ vs, Free v) ∧ CallH P fid vs ∧ Q .normal ⟨match o.dst with | some d => (d, .any) :: blankT s'.t | none => blankT s'.t, [], 0⟩) →
      Sim G1 N s' a1 w1 → Evo 0 G w G1 w1 → a1.defers = a.defers → wpOpsIn F n P ops (PostH N G.B w a.defers Q) [m] a1 w1 := by
    rintro s' a1 w1 G1 ⟨vs, hvs, hfree, hcall, hQ⟩ hs1 he hdf
    have ho' : ops[m]? = some o := by simpa using ho
    have hk1 := gok_evo he hs.hr hk
    obtain ⟨vs', h', hlen, hvr⟩ := evs_out hvs
    subst h'
    have hvr := hvr (.inl rfl) G1 N a1 w1 s' hs1 (fun _ _ _ _ => rfl)
    have hnd : ∀ c', o.op ≠ .defer c' := by rw [hop]; simp
    have hwt : Region.wanted o (yielded ops a1.tmps) = true := by simp [Region.wanted, hg]
    simp only [wpOpsIn, ho', hwt, if_true]
    refine ⟨fun f _ => hF.fn f, ?_⟩
    rw [Oper.semAt_eq _ _ _ hnd]
    have hr1 : HR ⟨fun _ => none, G1.amb, G1.B⟩ [] 0 w1 := ⟨hs1.hr.amb_lt, hs1.hr.B_le, fun _ _ => rfl, fun b blk h => by simp [hget] at h, fun b b' k k' c h => by simp [hget] at h, fun b k c h => by simp [hget] at h, (fun b c h => by cases h), fun b k h => by simp [hget] at h⟩
    have hargs : vrs ⟨fun _ => none, G1.amb, G1.B⟩ w1 vs' (c.args.toList.map a1.eval) := ⟨by rw [hlen]; simp, fun j v u q1 q2 => by
      rw [List.getElem?_map] at q2
      obtain ⟨x, hx, rfl⟩ := Option.map_eq_some_iff.1 q2
      exact hfree v (List.mem_of_getElem? q1) _ _ _ _ _ (hvr j v x q1 hx)⟩
    have e : (#[] : Array Value) ++ c.args.map a1.eval ++ #[] = (c.args.toList.map a1.eval).toArray := by apply Array.ext'; simp
    have fin : ∀ (u : Value) (w' : World), Below G1.B w1 w' → PostH N G.B w a.defers Q .normal (a1.put o.dst u) w' := by
      intro u w' hbl
      rw [he.B] at hbl
      refine ⟨.normal, _, ⟨fun _ => none, fun c => c < G.B, G.B⟩, rfl, hQ, ⟨?_, fun i => ?_, ⟨fun c hc => ?_, ?_, fun _ _ => rfl, fun b blk h => by simp [hget] at h, fun b b' k k' c h => by simp [hget] at h, fun b k c h => by simp [hget] at h, (fun b c h => by cases h), fun b k h => by simp [hget] at h⟩⟩, (fun b c h => by cases h), rfl, (below_of_evo he hs.hr hk).trans hbl, ?_⟩
      · cases o.dst with
        | none => exact hs1.size
        | some d => simp [Act.put, hs1.size]
      · cases hd : o.dst with
        | none =>
          show vr _ _ (look (blankT s'.t) i) _
          rw [look_blankT]
          exact blank_vr (hs1.tmp i)
        | some d =>
          show vr _ _ (look ((d, .any) :: blankT s'.t) i) _
          have e : look ((d, .any) :: blankT s'.t) i = if d = i then .any else look (blankT s'.t) i := by
            have := get_put (blankT s'.t) [] [] 0 0 d .any i
            simpa [St.get] using this
          rw [e]
          by_cases hdi : d = i
          · rw [if_pos hdi]; exact .any _
          · rw [if_neg hdi, look_blankT]
            have : (a1.put (some d) u).tmps.getD i undef = a1.tmps.getD i undef := by
              simp only [Act.put, Array.getD_eq_getD_getElem?]
              rw [Array.getElem?_setIfInBounds_ne hdi]
            rw [this]
            exact blank_vr (hs1.tmp i)
      · have hc : c < G.B := hc
        have := hs.hr.B_le; have := he.size; have := hbl.size; omega
      · show G.B ≤ _
        have := hs.hr.B_le; have := he.size; have := hbl.size; omega
      · have : (a1.put o.dst u).defers = a1.defers := by cases o.dst <;> rfl
        rw [this]; exact hdf
    rcases hcall.2 _ w1 _ hr1 (fun b c h => by cases h) hargs with ⟨hbd, hcs⟩ | ⟨_, u, w', hext, u', hu', hbl⟩
    · have hrun : (execOp a1.eval o).run P w1 = .ok (.enter fid (c.args.toList.map a1.eval).toArray) w1 := by
        have := call_run hbd (c.args.toList.map a1.eval) w1
        simp only [execOp, hop, Sem.run_bind, resolve, hcal, Act.eval, Deferred.ofValue, Sem.run_pure, Result.andThen_ok, invoke]
        rw [e, this]
      rw [hrun]
      refine ⟨fun hd => by rw [hF.depth] at hd; simp at hd, hF.call (hcs.mono ?_)⟩
      rintro e w' ⟨u, rfl, hbl⟩
      exact fin u w' hbl
    · have hrun : (execOp a1.eval o).run P w1 = .ok (.value u) w' := by
        simp only [execOp, hop, Sem.run_bind, resolve, hcal, Act.eval, Deferred.ofValue, Sem.run_pure, Result.andThen_ok, invoke]
        rw [e, hext]
      rw [hrun]
      exact fin u w' hbl
  refine wpIn_region ?_
  have hsz : ops.size = m + 1 := by simpa using hl
  have := runOps_then (n := n) (tl := [m]) hT hF (rest := ops.toList.take m) (all := ops.toList) (k := 0) (base := 0) (Q := PostH N G.B w a.defers Q) (fun i hi => by rw [Nat.zero_add, List.getElem?_take_of_lt (by simp at hi; omega)]) h hs (Nat.zero_le _) (fun s' a1 w1 G1 h1 h2 h3 _ h4 => by simpa using last s' a1 w1 G1 h1 h2 h3 h4)
  rw [List.range_eq_range', hsz, List.range'_concat]
  rw [List.length_take, Nat.min_eq_left (by omega)] at this
  simpa using this
end
end Go.Proofs.YtjpfofmkgdjelaaGreat
/- What stays of an Attrs when one of its numbers, or flags, is written over. -/
set_option linter.unusedVariables false
set_option linter.unusedSimpArgs false
namespace Go.Proofs.YtjpfofmkgdjelaaGreat
open Go.RowKit

/-- Of a number another number, of a flag another flag. -/
def Kin (u0 u1 : Value) : Prop := (∃ x y : UInt32, u0 = .int .u32 x.toNat ∧ u1 = .int .u32 y.toNat) ∨ ∃ b c, u0 = .bool b ∧ u1 = .bool c
theorem Kin.one {u0 u1 : Value} (h : Kin u0 u1) : u1.oneCell' = true := by
  rcases h with ⟨x, y, _, rfl⟩ | ⟨b, c, _, rfl⟩ <;> rfl
theorem u32_inj {x y : UInt32} (h : Value.int .u32 x.toNat = .int .u32 y.toNat) : x = y := by
  injection h with _ h
  exact UInt32.toNat.inj (by omega)
section
variable {G : Gh} {w w' : World} {ad : Addr} {u0 u1 : Value}
theorem imm_ch {fr : Bool} {a : Addr} {u : Value} (hi : imm G w fr a u) (hch : Ch w w' ad u1) (h1 : u1.oneCell' = true) : imm G w' fr a (if a = ad then u1 else u) := by
  refine ⟨?_, hi.2.1, fun hf => ?_, ?_⟩
  · rw [hch.cell]
    split
    · rfl
    · exact hi.1
  · rw [hch.frozen]; exact hi.2.2.1 hf
  · split
    · exact h1
    · exact hi.2.2.2
theorem words_ch {fr : Bool} {l : List UInt32} {u : Value} (hv : vr G w (encW fr l) u) (hch : Ch w w' ad u1) (h0 : w.cell? ad = some u0) (hk : Kin u0 u1) : ∃ l' : List UInt32, l'.length = l.length ∧ vr G w' (encW fr l') u := by
  unfold encW at hv
  cases hv with
  | sl _ _ _ A cap us hcap hm hA hrow hc hv =>
    have hfl : ∀ j, j < l.length → (l.map fun x => [V.int .u32 x.toNat]).flatten[j]? = some (.int .u32 ((l[j]?).getD 0).toNat) := by
      intro j hj
      have := flatten_row (rows := l.map fun x => [V.int .u32 x.toNat]) (sz := 1) (row := j) (r := [V.int .u32 ((l[j]?).getD 0).toNat]) (fun x hx => by obtain ⟨y, _, rfl⟩ := List.mem_map.1 hx; rfl) (by simp [hj]) 0 _ rfl
      simpa using this
    have hex : ∀ j, ∃ y : UInt32, j < l.length → ∀ p, A = some p → (if (⟨p.block, p.off + j, none⟩ : Addr) = ad then u1 else us j) = .int .u32 y.toNat := by
      intro j
      by_cases hj : j < l.length
      · have hj' := hfl j hj
        have huj := VR.int_iff.1 (hv j _ hj')
        by_cases he : ∃ p, A = some p ∧ (⟨p.block, p.off + j, none⟩ : Addr) = ad
        · obtain ⟨p, hp, he⟩ := he
          have h2 := (hc j _ hj' p hp).1
          rw [he, h0] at h2
          have h2 : u0 = us j := Option.some.inj h2
          rw [huj] at h2
          rcases hk with ⟨x, y, e1, e2⟩ | ⟨b, c, e1, e2⟩
          · refine ⟨y, fun _ p' hp' => ?_⟩
            rw [hp] at hp'; cases hp'
            rw [if_pos he, e2]
          · rw [e1] at h2; cases h2
        · refine ⟨(l[j]?).getD 0, fun _ p hp => ?_⟩
          rw [if_neg (fun e => he ⟨p, hp, e⟩), huj]
      · exact ⟨0, fun h => absurd h hj⟩
    let f : Nat → UInt32 := fun j => Classical.choose (hex j)
    have hf : ∀ j, j < l.length → ∀ p, A = some p → (if (⟨p.block, p.off + j, none⟩ : Addr) = ad then u1 else us j) = .int .u32 (f j).toNat := fun j => Classical.choose_spec (hex j)
    refine ⟨(List.range l.length).map f, by simp, ?_⟩
    have hlen : (((List.range l.length).map f).map fun x => [V.int .u32 x.toNat]).length = (l.map fun x => [V.int .u32 x.toNat]).length := by simp
    have hfl' : ∀ (j : Nat) (v : V), (((List.range l.length).map f).map fun x => [V.int .u32 x.toNat]).flatten[j]? = some v → j < l.length ∧ v = .int .u32 (f j).toNat := by
      intro j v hj
      have hjl : j < l.length := by
        have := (List.getElem?_eq_some_iff.1 hj).1
        rw [flatten_cells (sz := 1) (fun x hx => by obtain ⟨y, _, rfl⟩ := List.mem_map.1 hx; rfl), List.length_map, List.length_map, List.length_range] at this
        omega
      have := flatten_row (rows := ((List.range l.length).map f).map fun x => [V.int .u32 x.toNat]) (sz := 1) (row := j) (r := [V.int .u32 (f j).toNat]) (fun x hx => by obtain ⟨y, _, rfl⟩ := List.mem_map.1 hx; rfl) (by simp [hjl]) 0 _ rfl
      rw [Nat.mul_one, Nat.add_zero, hj] at this
      exact ⟨hjl, Option.some.inj this⟩
    have hne : ((List.range l.length).map f).map (fun x => [V.int .u32 x.toNat]) ≠ [] → ∃ p, A = some p ∧ p.spot = none := fun h => hA (fun e => h (by
      have : l = [] := by simpa using e
      subst this; rfl))
    have := VR.sl (ι := G.ι) (csz := csz w') (imm := imm G w') fr 1 (((List.range l.length).map f).map fun x => [V.int .u32 x.toNat]) A cap (fun j => match A with | some p => if (⟨p.block, p.off + j, none⟩ : Addr) = ad then u1 else us j | none => us j) (by rw [hlen]; exact hcap) hm hne
      (fun x hx => by obtain ⟨y, _, rfl⟩ := List.mem_map.1 hx; rfl) (fun j v hj p hp => by
        obtain ⟨hjl, rfl⟩ := hfl' j v hj
        subst hp
        exact imm_ch (hc j _ (hfl j hjl) p rfl) hch hk.one) (fun j v hj => by
        obtain ⟨hjl, rfl⟩ := hfl' j v hj
        obtain ⟨p, hp, _⟩ := hne (by intro e; rw [e] at hj; simp at hj)
        subst hp
        have := hf j hjl p rfl
        simp only [this]
        exact .int _ _)
    rw [hlen] at this
    exact this
/-- As many systems in each. -/
def Alike (p q : List Leg) : Prop := p.map (·.ns.length) = q.map (·.ns.length)
theorem Alike.length {p q : List Leg} (h : Alike p q) : p.length = q.length := by simpa [Alike] using congrArg List.length h
theorem Alike.at {p q : List Leg} (h : Alike p q) {i : Nat} (h1 : i < p.length) (h2 : i < q.length) : p[i].ns.length = q[i].ns.length := by
  have : (p.map (·.ns.length))[i]? = (q.map (·.ns.length))[i]? := by rw [h]
  simpa [h1, h2] using this
theorem legs_ch {fr : Bool} {l : List Leg} {u : Value} (hv : vr G w (encLegs fr l) u) (hch : Ch w w' ad u1) (h0 : w.cell? ad = some u0) (hk : Kin u0 u1) : ∃ l' : List Leg, Alike l' l ∧ vr G w' (encLegs fr l') u := by
  unfold encLegs at hv
  cases hv with
  | sl _ _ _ A cap us hcap hm hA hrow hc hv =>
    have len2 : ∀ (l : List Leg), ∀ x ∈ l.map (encLeg fr), x.length = 2 := fun l x hx => by obtain ⟨y, _, rfl⟩ := List.mem_map.1 hx; rfl
    have hd : Leg := ⟨false, []⟩
    have hf0 : ∀ (l : List Leg) j (hj : j < l.length), (l.map (encLeg fr)).flatten[j * 2 + 0]? = some (.bool l[j].set) := fun l j hj => flatten_row (r := encLeg fr l[j]) (len2 l) (by simp [hj]) 0 _ rfl
    have hf1 : ∀ (l : List Leg) j (hj : j < l.length), (l.map (encLeg fr)).flatten[j * 2 + 1]? = some (encW fr l[j].ns) := fun l j hj => flatten_row (r := encLeg fr l[j]) (len2 l) (by simp [hj]) 1 _ rfl
    have hex : ∀ j, ∃ y : Leg, ∀ hj : j < l.length, y.ns.length = l[j].ns.length ∧ ∀ p, A = some p → (if (⟨p.block, p.off + (j * 2 + 0), none⟩ : Addr) = ad then u1 else us (j * 2 + 0)) = .bool y.set ∧ (⟨p.block, p.off + (j * 2 + 1), none⟩ : Addr) ≠ ad ∧ vr G w' (encW fr y.ns) (us (j * 2 + 1)) := by
      intro j
      by_cases hj : j < l.length
      · have hb := VR.bool_iff.1 (hv _ _ (hf0 l j hj))
        obtain ⟨ns, hnl, hns⟩ := words_ch (hv _ _ (hf1 l j hj)) hch h0 hk
        have hne : ∀ p, A = some p → (⟨p.block, p.off + (j * 2 + 1), none⟩ : Addr) ≠ ad := by
          intro p hp he
          have h2 := (hc _ _ (hf1 l j hj) p hp).1
          rw [he, h0] at h2
          have h2 : u0 = us (j * 2 + 1) := Option.some.inj h2
          have h3 := hv _ _ (hf1 l j hj)
          rw [← h2] at h3
          unfold encW at h3
          rcases hk with ⟨x, y, e1, e2⟩ | ⟨b, c, e1, e2⟩ <;> rw [e1] at h3 <;> cases h3
        have hset : ∃ b : Bool, ∀ p, A = some p → (if (⟨p.block, p.off + (j * 2 + 0), none⟩ : Addr) = ad then u1 else us (j * 2 + 0)) = .bool b := by
          by_cases he : ∃ p, A = some p ∧ (⟨p.block, p.off + (j * 2 + 0), none⟩ : Addr) = ad
          · obtain ⟨p, hp, he⟩ := he
            have h2 := (hc _ _ (hf0 l j hj) p hp).1
            rw [he, h0] at h2
            have h2 : u0 = us (j * 2 + 0) := Option.some.inj h2
            rw [hb] at h2
            rcases hk with ⟨x, y, e1, e2⟩ | ⟨b, c, e1, e2⟩
            · rw [e1] at h2; cases h2
            · refine ⟨c, fun p' hp' => ?_⟩
              rw [hp] at hp'; cases hp'
              rw [if_pos he, e2]
          · refine ⟨l[j].set, fun p hp => ?_⟩
            rw [if_neg (fun e => he ⟨p, hp, e⟩), hb]
        obtain ⟨b, hb'⟩ := hset
        exact ⟨⟨b, ns⟩, fun _ => ⟨hnl, fun p hp => ⟨hb' p hp, hne p hp, hns⟩⟩⟩
      · exact ⟨hd, fun h => absurd h hj⟩
    let f : Nat → Leg := fun j => Classical.choose (hex j)
    have hf : ∀ j (hj : j < l.length), (f j).ns.length = l[j].ns.length ∧ ∀ p, A = some p → (if (⟨p.block, p.off + (j * 2 + 0), none⟩ : Addr) = ad then u1 else us (j * 2 + 0)) = .bool (f j).set ∧ (⟨p.block, p.off + (j * 2 + 1), none⟩ : Addr) ≠ ad ∧ vr G w' (encW fr (f j).ns) (us (j * 2 + 1)) := fun j => Classical.choose_spec (hex j)
    refine ⟨(List.range l.length).map f, ?_, ?_⟩
    · unfold Alike
      apply List.ext_getElem
      · simp
      · intro i h1 h2
        simp at h1 h2 ⊢
        exact (hf i h2).1
    have hlen : (((List.range l.length).map f).map (encLeg fr)).length = (l.map (encLeg fr)).length := by simp
    have hne : ((List.range l.length).map f).map (encLeg fr) ≠ [] → ∃ p, A = some p ∧ p.spot = none := fun h => hA (fun e => h (by
      have : l = [] := by simpa using e
      subst this; rfl))
    have split2 : ∀ (j : Nat) (v : V), (((List.range l.length).map f).map (encLeg fr)).flatten[j]? = some v → ∃ i, ∃ hi : i < l.length, (j = i * 2 + 0 ∧ v = .bool (f i).set) ∨ (j = i * 2 + 1 ∧ v = encW fr (f i).ns) := by
      intro j v hj
      have hjl : j < l.length * 2 := by
        have := (List.getElem?_eq_some_iff.1 hj).1
        rwa [flatten_cells (len2 _), List.length_map, List.length_map, List.length_range] at this
      refine ⟨j / 2, by omega, ?_⟩
      have hi : j / 2 < ((List.range l.length).map f).length := by simp; omega
      have e0 := hf0 ((List.range l.length).map f) (j / 2) hi
      have e1 := hf1 ((List.range l.length).map f) (j / 2) hi
      simp only [List.getElem_map, List.getElem_range] at e0 e1
      rcases Nat.mod_two_eq_zero_or_one j with h | h
      · left
        refine ⟨by omega, ?_⟩
        rw [show j / 2 * 2 + 0 = j by omega, hj] at e0
        exact Option.some.inj e0
      · right
        refine ⟨by omega, ?_⟩
        rw [show j / 2 * 2 + 1 = j by omega, hj] at e1
        exact Option.some.inj e1
    have := VR.sl (ι := G.ι) (csz := csz w') (imm := imm G w') fr 2 (((List.range l.length).map f).map (encLeg fr)) A cap (fun j => match A with | some p => if (⟨p.block, p.off + j, none⟩ : Addr) = ad then u1 else us j | none => us j) (by rw [hlen]; exact hcap) hm hne
      (len2 _) (fun j v hj p hp => by
        subst hp
        obtain ⟨i, hi, ⟨rfl, rfl⟩ | ⟨rfl, rfl⟩⟩ := split2 j v hj
        · exact imm_ch (hc _ _ (hf0 l i hi) p rfl) hch hk.one
        · exact imm_ch (hc _ _ (hf1 l i hi) p rfl) hch hk.one) (fun j v hj => by
        obtain ⟨p, hp, _⟩ := hne (by intro e; rw [e] at hj; simp at hj)
        subst hp
        obtain ⟨i, hi, ⟨rfl, rfl⟩ | ⟨rfl, rfl⟩⟩ := split2 j v hj
        · have := ((hf i hi).2 p rfl).1
          simp only [this]
          exact .bool _
        · have := ((hf i hi).2 p rfl).2
          simp only [if_neg this.1]
          exact this.2)
    rw [hlen] at this
    exact this
end
end Go.Proofs.YtjpfofmkgdjelaaGreat
/- spoil: it returns, and what lay below the memory that it is handed stays. -/
set_option linter.unusedVariables false
set_option linter.unusedSimpArgs false
namespace Go.Proofs.YtjpfofmkgdjelaaGreat
open Go.RowKit
open Go.Proofs.Tryz (prog)
attribute [local irreducible] CallV RoundV VC VH VB

/-- What is left alone in spoil: how many there are of each. -/
structure Shp (a x : Attrs) : Prop where
  legs : Alike x.path a.path
  tags : x.tags.length = a.tags.length
theorem Shp.refl (a : Attrs) : Shp a a := ⟨rfl, rfl⟩
def spT (t : List (Nat × V)) (x : Attrs) : St := ⟨(1, .ptr 0 0) :: t, [(0, some (.var true 33 (cellsA true x)))], 1⟩
/-- Temps that say no more than the state's, and need no memory. -/
def Bare (s : St) : List (Nat × V) → Prop
  | [] => True
  | (i, v) :: r => (Scalar v ∧ s.get i = v) ∧ Bare s r
theorem Bare.out {s : St} : ∀ {t : List (Nat × V)}, Bare s t → ∀ i, look t i = .any ∨ (Scalar (look t i) ∧ s.get i = look t i)
  | [], _, i => .inl rfl
  | (j, v) :: r, h, i => by
    have e : look ((j, v) :: r) i = if j = i then v else look r i := by
      have := get_put r [] [] 0 0 j v i
      simpa [St.get] using this
    rw [e]
    by_cases hij : j = i
    · subst hij; rw [if_pos rfl]; exact .inr h.1
    · rw [if_neg hij]; exact Bare.out h.2 i
/-- One cell is written over: what there is has the same shape. -/
theorem sp_hot {N : Nat} {s : St} {x : Attrs} {t : List (Nat × V)} (h1 : s.get 1 = .ptr 0 0) (hh : hget s.h 0 = some (.var true 33 (cellsA true x))) (hb : Bare s t) {G : Gh} {a : Act} {w w' : World} {ad : Addr} {u0 u1 : Value} (hs : Sim G N s a w) (hk : Gok G)
    (hi : imm G w true ad u0) (hkin : Kin u0 u1) (hch : Ch w w' ad u1) (hn : s.nx = 1) : ∃ x', Shp x x' ∧ Sim G N (spT t x') a w' ∧ Gok G := by
  obtain ⟨c, cs, hι, hw, hle, hex, hfr, hcell, hone⟩ : Holds G w 0 true true 33 (cellsA true x) := hs.hr.own 0 _ hh
  have hne : c ≠ ad.block := fun e => hs.hr.apart 0 _ c hh hι (e ▸ hi.2.1)
  have hv : ∀ (j : Nat) (v : V), (cellsA true x)[j]? = some v → vr G w v (cs[j]?.getD undef) := fun j v hj => by
    obtain ⟨u, hu, _, h⟩ := hcell j v hj
    simpa [hu] using h
  obtain ⟨p', hp, hpv⟩ := legs_ch (hv 1 _ rfl) hch hi.1 hkin
  obtain ⟨l', hl, hlv⟩ := words_ch (hv 7 _ rfl) hch hi.1 hkin
  have flat : ∀ {v : V} {u : Value}, Scalar v → vr G w v u → vr G w' v u := fun h hv => h.vr hv
  refine ⟨{ x with path := p', tags := l' }, ⟨hp, hl⟩, ⟨hs.size, fun i => ?_, ⟨fun c hc => by rw [hch.size]; exact hs.hr.amb_lt c hc, by rw [hch.size]; exact hs.hr.B_le, fun b hb => hs.hr.dom b (by rw [hn]; exact hb), fun b blk hblk => ?_, fun b b' k k' c' q1 q2 q3 q4 => ?_, fun b blk c' q1 q2 => ?_, fun b c' hc' => by rw [hch.size]; exact hs.hr.lt b c' hc', fun b blk hblk => ?_⟩⟩, hk⟩
  · have := hs.tmp i
    show vr G w' (look ((1, .ptr 0 0) :: t) i) _
    have e : look ((1, .ptr 0 0) :: t) i = if 1 = i then .ptr 0 0 else look t i := by
      have := get_put t [] [] 0 0 1 (.ptr 0 0) i
      simpa [St.get] using this
    rw [e]
    split
    · rename_i e; subst e
      rw [h1] at this
      generalize a.tmps.getD 1 undef = y at this
      cases this with
      | ptr _ _ c' h => exact .ptr _ _ c' h
    · rcases hb.out i with h | ⟨h, h2⟩
      · rw [h]; exact .any _
      · rw [h2] at this; exact h.vr this
  · have hb0 : b = 0 := by
      unfold spT at hblk
      simp only at hblk
      rw [hget_cons] at hblk
      split at hblk
      · rename_i e; exact e.symm
      · simp [hget] at hblk
    subst hb0
    have : blk = .var true 33 (cellsA true { x with path := p', tags := l' }) := by
      have := hblk
      simp only [spT] at this
      rw [hget_cons, if_pos rfl] at this
      exact (Option.some.inj this).symm
    subst this
    refine ⟨c, cs, hι, (hch.other c hne).trans hw, hle, hex, hfr, fun j v hj => ?_, hone⟩
    have hjl : j < 8 := (List.getElem?_eq_some_iff.1 hj).1
    have hlen : (cellsA true x).length = 8 := rfl
    have old : ∀ (j : Nat) (hj : j < 8), ∃ u, cs[j]? = some u ∧ u.oneCell' = true := fun j hj => by
      obtain ⟨u, hu, ho, _⟩ := hcell j _ (List.getElem?_eq_getElem (by rw [hlen]; exact hj))
      exact ⟨u, hu, ho⟩
    obtain ⟨u, hu, ho⟩ := old j hjl
    refine ⟨u, hu, ho, ?_⟩
    have hg : cs[j]?.getD undef = u := by rw [hu]; rfl
    match j, hjl with
    | 0, _ => cases hj; rw [← hg]; exact flat .int (hv 0 _ rfl)
    | 1, _ => cases hj; rw [← hg]; exact hpv
    | 2, _ => cases hj; rw [← hg]; exact flat .int (hv 2 _ rfl)
    | 3, _ => cases hj; rw [← hg]; exact flat .bool (hv 3 _ rfl)
    | 4, _ => cases hj; rw [← hg]; exact flat .int (hv 4 _ rfl)
    | 5, _ => cases hj; rw [← hg]; exact flat .bool (hv 5 _ rfl)
    | 6, _ => cases hj; rw [← hg]; exact flat .int (hv 6 _ rfl)
    | 7, _ => cases hj; rw [← hg]; exact hlv
  · have z : ∀ {b k}, hget (spT t { x with path := p', tags := l' }).h b = some k → b = 0 := fun {b k} h => by
      unfold spT at h
      simp only at h
      rw [hget_cons] at h
      split at h
      · rename_i e; exact e.symm
      · simp [hget] at h
    rw [z q1, z q2]
  · have z : b = 0 := by
      unfold spT at q1
      simp only at q1
      rw [hget_cons] at q1
      split at q1
      · rename_i e; exact e.symm
      · simp [hget] at q1
    subst z
    exact hs.hr.apart 0 _ c' hh q2
  · unfold spT at hblk ⊢
    simp only at hblk ⊢
    rw [hget_cons] at hblk
    split at hblk
    · omega
    · simp [hget] at hblk
theorem Kin.u32 {G : Gh} {w : World} {n : Nat} {m : Int} {u0 u1 : Value} (hn : n < 2 ^ 32) (hm : 0 ≤ m ∧ m < 2 ^ 32) (h0 : vr G w (.int .u32 n) u0) (h1 : vr G w (.int .u32 m) u1) : Kin u0 u1 := by
  left
  refine ⟨UInt32.ofNat n, UInt32.ofNat m.toNat, ?_, ?_⟩
  · rw [VR.int_iff.1 h0, UInt32.toNat_ofNat_of_lt' (by simpa [UInt32.size] using hn)]
  · rw [VR.int_iff.1 h1, UInt32.toNat_ofNat_of_lt' (by simp [UInt32.size]; omega)]
    congr 1; omega
theorem Kin.bool {G : Gh} {w : World} {b c : Bool} {u0 u1 : Value} (h0 : vr G w (.bool b) u0) (h1 : vr G w (.bool c) u1) : Kin u0 u1 := .inr ⟨b, c, VR.bool_iff.1 h0, VR.bool_iff.1 h1⟩
theorem Shp.trans {a b c : Attrs} (h : Shp a b) (k : Shp b c) : Shp a c := ⟨k.legs.trans h.legs, k.tags.trans h.tags⟩
theorem cellsA_wk {h : Heap} {nx : Nat} {ρ : Nat → Nat} {Z : List Nat} {x : Attrs} : LeB h nx ρ nx Z (.var true 33 (cellsA true x)) (.var true 33 (cellsA true x)) := LeB.free (blk := .var true 33 (cellsA true x)) (cellsA_free true x)

theorem lenEnc {fr : Bool} (l : List Leg) : (l.map (encLeg fr)).length = l.length := by simp
theorem lenW (l : List UInt32) : (l.map fun x => [V.int .u32 x.toNat]).length = l.length := by simp
end Go.Proofs.YtjpfofmkgdjelaaGreat
/- Contract: the law AttrsPrepends. -/
set_option linter.unusedVariables false
set_option linter.unusedSimpArgs false
namespace Go.Proofs.YtjpfofmkgdjelaaGreat
open Go.RowKit
open Go.Proofs.Tryz (prog)
attribute [local irreducible] CallV RoundV VC VH VB

theorem less_legs : ∀ (l : List Leg) (j : Nat) (v v' : V), (l.map (encLeg true)).flatten[j]? = some v → (l.map (encLeg false)).flatten[j]? = some v' → Less v v'
  | [], j, v, v', h, _ => by simp at h
  | p :: l, j, v, v', h, h' => by
    rw [List.map_cons, List.flatten_cons] at h h'
    match j, h, h' with
    | 0, h, h' => cases h; cases h'; exact Less.refl _
    | 1, h, h' => cases h; cases h'; exact Less.encW
    | j + 2, h, h' => exact less_legs l j v v' (by simpa [encLeg] using h) (by simpa [encLeg] using h')
theorem Less.encLegs {l : List Leg} : Less (encLegs true l) (encLegs false l) := .sl (by simp) (by simp [encLeg, Function.comp_def]) (less_legs l)
/-- Two variables that hold what is said, and what else is told of then. -/
theorem cellsA_ok (a : Attrs) : ∀ v ∈ cellsA false a, Free v ∧ Cold v := fun v hv => ⟨cellsA_free false a v hv, by
  simp [cellsA] at hv
  rcases hv with rfl | rfl | rfl | rfl | rfl | rfl | rfl | rfl
  all_goals first | exact .int | exact .bool | exact encLegs_cold _ | exact encW_cold _⟩
end Go.Proofs.YtjpfofmkgdjelaaGreat
/- lent and spoil of layer 23. -/
set_option linter.unusedVariables false
set_option linter.unusedSimpArgs false
namespace Go.Proofs.YtjpfofmkgdjelaaGreat
open Go.RowKit
open Go.Proofs.Tryz (prog)
attribute [local irreducible] CallV RoundV VC VH VB aggK

set_option maxRecDepth 100000 in
theorem lent23_ok (fr : Bool) (a : Attrs) (hf : fewA a = true) : PCon prog 18 [encA fr a] (encA true a) := by
  obtain ⟨hp, hpl, htl⟩ := fewA_out hf
  refine callV_of (fn := Go.Proofs.Tryz.f18) (body := _) tab_ok mixed rfl rfl (by decide) (by simp [Go.Proofs.Tryz.f18]) ?_
  have cell : ∀ {fr0 : Bool} {x : Attrs}, FreeB (.var true 33 (cellsA fr0 x)) := fun {fr0 x} => cellsA_free fr0 x
  (conv => whnf)
  refine ⟨⟨rfl, rfl, rfl, rfl, by decide⟩, Nat.zero_le _, ⟨by simp [tab, tabOf, nth]; omega, by simp; omega⟩, ?_⟩
  (conv => whnf)
  refine vcg_loop tab_ok mixed (fun i : {i : Nat // i ≤ a.path.length} => ⟨[(1, .ptr 0 0), (2, .ptr 1 0), (3, .osl 3 2 0 a.path.length), (4, cI i.1)], [(0, some (.var true 33 (cellsA fr a))), (1, some (.var true 33 zeroA)), (3, some (.arr true false 65 2 (rowsAt fr a.path i.1)))], 4⟩) (fun i => a.path.length - i.1) ⟨0, by omega⟩ ?_ (fun i => ?_)
  · refine Wk.of id [] ⟨?_, ?_, ?_, ?_, trivial⟩ (LeH.same ⟨⟨rfl, cell, by omega⟩, ⟨rfl, zeroA_free, by omega⟩, ⟨?_, rowsAt_free _ _ _, by omega⟩, trivial⟩ (by omega))
    · exact .ptr rfl (by omega)
    · exact .ptr rfl (by omega)
    · exact .osl_of rfl (by omega) (by simp)
    · exact .int_of rfl
    · simp only [rowsAt, List.take_zero, List.map_nil, List.nil_append, List.drop_zero]
      rfl
  obtain ⟨i, hi⟩ := i
  (conv => whnf)
  intro _
  (conv => whnf)
  split
  · rename_i hc
    have hc : i < a.path.length := by simpa using hc
    have hpi := hp a.path[i] (List.getElem_mem hc)
    have hget : (rowsAt fr a.path i)[0 + (i : Int).toNat]? = some (encLeg fr a.path[i]) := by simpa using rowsAt_get hc
    (conv => whnf)
    refine ⟨rfl, ⟨by simp only; omega, by simp only; omega⟩, ?_⟩
    (conv => whnf)
    refine ⟨rfl, encLeg fr a.path[i], hget, ?_⟩
    (conv => whnf)
    refine ⟨⟨rfl, rfl, rfl, rfl, by decide⟩, Nat.zero_le _, ⟨by simp [tab, tabOf, nth]; omega, by simp; omega⟩, ?_⟩
    (conv => whnf)
    refine ⟨rfl, ⟨by simp only; omega, by simp only; omega⟩, ?_⟩
    (conv => whnf)
    refine ⟨rfl, encLeg fr a.path[i], hget, ?_⟩
    (conv => whnf)
    refine ⟨⟨i + 1, by omega⟩, Wk.of id [5] ⟨?_, ?_, ?_, ?_, trivial⟩ (LeH.of ⟨⟨by omega, .inl ⟨by simp, _, rfl, LeB.free cell⟩⟩, ⟨by omega, .inl ⟨by simp, _, rfl, LeB.free zeroA_free⟩⟩, ⟨by omega, .inl ⟨by simp, _, rfl, ?_⟩⟩, trivial⟩ (fun _ _ _ _ h => h) (fun _ _ => rfl) (by omega) (fun z hz => by obtain rfl := List.mem_singleton.1 hz; exact ne_none_of rfl)), by simp only; omega⟩
    · exact .ptr rfl (by omega)
    · exact .ptr rfl (by omega)
    · exact .osl_of rfl (by omega) (by simp)
    · exact .int_of (wrap64_succ hc (show a.path.length ≤ maxLen by unfold maxLen; omega))
    · simp only
      rw [rowsAt_succ hc]
      simp only [Nat.zero_add, Int.toNat_natCast]
      refine LeB.set (rowsAt_free _ _ _) ⟨.free .bool, ?_, trivial⟩
      refine LeV.freeze_of (by simp) rfl ?_ ?_ ?_
      · simp
      · intro x hx v hv
        exact rowsW_free _ x (by simpa using hx) v hv
      · exact List.take_of_length_le (by simp)
  · rename_i hc
    have hc : i = a.path.length := by simp at hc; omega
    subst hc
    (conv => whnf)
    refine ⟨⟨rfl, rfl, rfl, rfl, by decide⟩, Nat.zero_le _, ⟨by simp [tab, tabOf, nth]; omega, by simp; omega⟩, ?_⟩
    (conv => whnf)
    refine Ends.pure [3, 5] (LeV.aggL ⟨.free .int, ?_, .free .int, .free .bool, .free .int, .free .bool, .free .int, ?_, trivial⟩) ?_
    · refine LeV.freeze_of (by simp) rfl ?_ ?_ ?_
      · simp only [rowsAt_len]; omega
      · exact rowsAt_free _ _ _
      · simp only [rowsAt_all, List.drop_zero]
        exact List.take_of_length_le (by simp)
    · refine LeV.freeze_of (by simp) rfl ?_ ?_ ?_
      · simp
      · intro x hx v hv
        exact rowsW_free _ x (by simpa using hx) v hv
      · exact List.take_of_length_le (by simp)
    · intro z hz
      rcases List.mem_cons.1 hz with rfl | hz
      · exact ne_none_of rfl
      · obtain rfl := List.mem_singleton.1 hz
        exact ne_none_of rfl
set_option maxRecDepth 100000 in
set_option maxHeartbeats 8000000 in
theorem spoil23_ok (a : Attrs) : CallH prog 22 [encA true a] := by
  refine callH_of (fn := Go.Proofs.Tryz.f22) (body := _) rfl rfl (by simp [Go.Proofs.Tryz.f22]) rfl (Nat.le_of_ble_eq_true rfl) ?_
  have hF : FW Fence.wide := .inl rfl
  refine vh_seq (vh_region tab_ok hF ?_)
  (conv => whnf)
  refine vh_seq (vh_seq (vh_region tab_ok hF ?_))
  (conv => whnf)
  refine vh_block (vh_loop (fun i : {i : Nat × Attrs // i.1 ≤ a.path.length ∧ Shp a i.2} => spT [(2, cI i.1.1)] i.1.2) (fun i => a.path.length - i.1.1) ⟨(0, a), Nat.zero_le _, Shp.refl a⟩ ?_ fun i => ?_)
  · exact Wk.of id [] ⟨.ptr rfl (by omega), .int_of rfl, trivial⟩ (LeH.same ⟨⟨rfl, cellsA_free true a, by omega⟩, trivial⟩ (by omega))
  · obtain ⟨⟨i, x⟩, hi, hx⟩ := i
    have hi : i ≤ a.path.length := hi
    have hx : Shp a x := hx
    have hpl : x.path.length = a.path.length := hx.legs.length
    refine vh_seq (vh_seq (vh_region tab_ok hF ?_))
    (conv => whnf)
    intro hlen
    (conv => whnf)
    refine vh_cond rfl (fun e => ?_) (fun e => ?_)
    · refine vh_skip ?_
      have hin : i < a.path.length := by simp at e; omega
      have hin' : i < x.path.length := by omega
      (conv => whnf)
      refine vh_seq (vh_block (vh_seq (vh_region tab_ok hF ?_)))
      (conv => whnf)
      refine vh_block (vh_loop (fun k : {k : Nat × Attrs // k.1 ≤ a.path[i].ns.length ∧ Shp a k.2} => spT [(2, cI i), (3, cI k.1.1)] k.1.2) (fun k => a.path[i].ns.length - k.1.1) ⟨(0, x), Nat.zero_le _, hx⟩ ?_ fun k => ?_)
      · exact Wk.of id [] ⟨.ptr rfl (by omega), .int_of rfl, .int_of rfl, trivial⟩ (LeH.same ⟨⟨rfl, cellsA_free true x, by omega⟩, trivial⟩ (by omega))
      · obtain ⟨⟨k, y⟩, hk, hy⟩ := k
        have hk : k ≤ a.path[i].ns.length := hk
        have hy : Shp a y := hy
        have hyl : y.path.length = a.path.length := hy.legs.length
        have hiy : i < y.path.length := by omega
        have hns : y.path[i].ns.length = a.path[i].ns.length := hy.legs.at hiy hin
        refine vh_seq (vh_seq (vh_region tab_ok hF ?_))
        (conv => whnf)
        refine ⟨rfl, _, ⟨by first | omega | (simp only; omega), idxL hiy⟩, ?_⟩
        (conv => whnf)
        intro hlen2
        (conv => whnf)
        refine vh_cond rfl (fun e => ?_) (fun e => ?_)
        · refine vh_skip ?_
          have hkn : k < a.path[i].ns.length := by simp at e; omega
          have hkn' : k < y.path[i].ns.length := by omega
          (conv => whnf)
          refine vh_seq (vh_block (vh_hot tab_ok mixed hF (m := 11) (draw := false) rfl rfl rfl rfl rfl ?_))
          (conv => whnf)
          refine ⟨rfl, _, ⟨by first | omega | (simp only; omega), idxL hiy⟩, ?_⟩
          (conv => whnf)
          refine ⟨rfl, _, ⟨by first | omega | (simp only; omega), idxW hkn'⟩, ?_⟩
          (conv => whnf)
          refine ⟨rfl, _, ⟨by first | omega | (simp only; omega), idxW hkn'⟩, ?_⟩
          (conv => whnf)
          refine ⟨_, _, _, rfl, rfl, rfl, (by show TK.int .u32 ≠ TK.other; simp), rfl, fun G a' w w' ad u0 u1 hs hg him h0 h1 hch => ?_⟩
          obtain ⟨z, hz, hs', hg'⟩ := sp_hot (t := [(2, cI i), (3, cI k)]) rfl rfl ⟨⟨.int, rfl⟩, ⟨.int, rfl⟩, trivial⟩ hs hg him (Kin.u32 (UInt32.toNat_lt _) (by constructor <;> simp [IntKind.wrap, IntKind.bits, IntKind.signed] <;> omega) h0 h1) hch rfl
          refine ⟨_, G, ?_, hs', hg', rfl⟩
          (conv => whnf)
          refine vh_region tab_ok hF ?_
          (conv => whnf)
          refine ⟨⟨(k + 1, z), by simp only; omega, hy.trans hz⟩, Wk.of id [] ⟨.ptr rfl (by omega), .int_of rfl, .int_of (by rw [wrap64_succ hkn' (by have := hlen2; simpa [gd] using this)]), trivial⟩ (LeH.same ⟨⟨rfl, cellsA_free true z, by omega⟩, trivial⟩ (by omega)), ?_⟩
          simp only
          omega
        · refine vh_exit ?_
          (conv => whnf)
          refine vh_region tab_ok hF ?_
          (conv => whnf)
          refine ⟨⟨(i + 1, y), by simp only; omega, hy⟩, Wk.of id [] ⟨.ptr rfl (by omega), .int_of (by rw [wrap64_succ hin' (by have := hlen; simpa [gd] using this)]), trivial⟩ (LeH.same ⟨⟨rfl, cellsA_free true y, by omega⟩, trivial⟩ (by omega)), ?_⟩
          simp only
          omega
    · refine vh_exit ?_
      (conv => whnf)
      refine vh_seq (vh_region tab_ok hF ?_)
      (conv => whnf)
      refine vh_block (vh_loop (fun k : {k : Nat × Attrs // k.1 ≤ a.tags.length ∧ Shp a k.2} => spT [(4, cI k.1.1)] k.1.2) (fun k => a.tags.length - k.1.1) ⟨(0, x), Nat.zero_le _, hx⟩ ?_ fun k => ?_)
      · exact Wk.of id [] ⟨.ptr rfl (by omega), .int_of rfl, trivial⟩ (LeH.same ⟨⟨rfl, cellsA_free true x, by omega⟩, trivial⟩ (by omega))
      · obtain ⟨⟨k, y⟩, hk, hy⟩ := k
        have hk : k ≤ a.tags.length := hk
        have hy : Shp a y := hy
        have hns : y.tags.length = a.tags.length := hy.tags
        refine vh_seq (vh_seq (vh_region tab_ok hF ?_))
        (conv => whnf)
        intro hlen2
        (conv => whnf)
        refine vh_cond rfl (fun e => ?_) (fun e => ?_)
        · refine vh_skip ?_
          have hkn' : k < y.tags.length := by simp at e; omega
          (conv => whnf)
          refine vh_seq (vh_block (vh_hot tab_ok mixed hF (m := 7) (draw := false) rfl rfl rfl rfl rfl ?_))
          (conv => whnf)
          refine ⟨rfl, _, ⟨by first | omega | (simp only; omega), idxW hkn'⟩, ?_⟩
          (conv => whnf)
          refine ⟨rfl, _, ⟨by first | omega | (simp only; omega), idxW hkn'⟩, ?_⟩
          (conv => whnf)
          refine ⟨_, _, _, rfl, rfl, rfl, (by show TK.int .u32 ≠ TK.other; simp), rfl, fun G a' w w' ad u0 u1 hs hg him h0 h1 hch => ?_⟩
          obtain ⟨z, hz, hs', hg'⟩ := sp_hot (t := [(4, cI k)]) rfl rfl ⟨⟨.int, rfl⟩, trivial⟩ hs hg him (Kin.u32 (UInt32.toNat_lt _) (by constructor <;> simp [IntKind.wrap, IntKind.bits, IntKind.signed] <;> omega) h0 h1) hch rfl
          refine ⟨_, G, ?_, hs', hg', rfl⟩
          (conv => whnf)
          refine vh_region tab_ok hF ?_
          (conv => whnf)
          refine ⟨⟨(k + 1, z), by simp only; omega, hy.trans hz⟩, Wk.of id [] ⟨.ptr rfl (by omega), .int_of (by rw [wrap64_succ hkn' (by have := hlen2; simpa [gd] using this)]), trivial⟩ (LeH.same ⟨⟨rfl, cellsA_free true z, by omega⟩, trivial⟩ (by omega)), ?_⟩
          simp only
          omega
        · refine vh_exit ?_
          (conv => whnf)
          exact .inl rfl
end Go.Proofs.YtjpfofmkgdjelaaGreat
/- Contract: the law PolicyBy. -/
set_option linter.unusedVariables false
set_option linter.unusedSimpArgs false
namespace Go.Proofs.YtjpfofmkgdjelaaGreat
open Go.RowKit
open Go.Proofs.Tryz (prog)
attribute [local irreducible] CallV RoundV VC VH VB aggK

theorem byV_eq (p : Policy) (own : UInt32) (to : Prefix) (a : Attrs) : ∃ y ok e, ∀ fr, byV fr p own to a = .tup [encA fr y, .bool ok, .int .i64 e] := by
  by_cases h : byE p own to a ≠ 0
  · exact ⟨noA, false, byE p own to a, fun fr => by simp [byV, h]⟩
  · exact ⟨byA p own to a, byOk p own to a, 0, fun fr => by simp [byV, h]⟩
theorem cellsPo_ok (p : Policy) : ∀ v ∈ cellsPo false p, Free v ∧ Cold v := fun v hv => ⟨cellsPo_free false p v hv, by
  simp only [cellsPo, List.mem_cons, List.not_mem_nil, or_false] at hv
  rcases hv with rfl | rfl
  · exact encRus_cold _
  · exact .bool⟩
theorem cellsP_ok (p : Prefix) : ∀ v ∈ cellsP p, Free v ∧ Cold v := fun v hv => ⟨cellsP_free p v hv, by
  simp only [cellsP, List.mem_cons, List.not_mem_nil, or_false] at hv
  rcases hv with rfl | rfl <;> exact .int⟩
theorem fewP_A {p : Policy} {a : Attrs} (h : fewP p a = true) : fewA a = true := by
  simp only [fewP, fewA, Bool.and_eq_true, List.all_eq_true, decide_eq_true_eq] at h ⊢
  refine ⟨⟨h.1.1.1, ?_⟩, ?_⟩ <;> omega
set_option maxRecDepth 100000 in
set_option maxHeartbeats 8000000 in
theorem by_law_ok (p : Policy) (own : UInt32) (to : Prefix) (a : Attrs) : PCon prog 4 [encPo false p, cW own, encP to, encA false a] (.bool true) := by
  have wk : ∀ {s : St}, ∃ v1 h' nx', Ends 0 s (.bool true) v1 h' nx' ∧ (v1 = .bool true ∧ h' = [] ∧ nx' = 0) := Ends.pure [] (.free .bool) (by simp)
  have hF : FW Fence.wide := .inl rfl
  refine callV_of_vc (fn := Go.Proofs.Tryz.f4) (body := _) tab_ok rfl rfl (by simp [Go.Proofs.Tryz.f4]) (Nat.le_of_ble_eq_true rfl) ?_
  refine vc_seq (vcg_ok (rd := false) tab_ok mixed hF (fun _ => rfl) ?_)
  (conv => whnf)
  refine vc_seq (vcg_ok (rd := false) tab_ok mixed hF (fun _ => rfl) ?_)
  (conv => whnf)
  refine callV_pure (few23_ok false false p a) ⟨.free (encPo_free _ _), .free (encA_free _ _), trivial⟩ ?_
  cases hf : fewP p a with
  | false =>
    (conv => whnf)
    refine callV_pure works23_ok trivial ?_
    (conv => whnf)
    exact wk
  | true =>
  (conv => whnf)
  refine vc_seq (vcg_ok (rd := false) tab_ok mixed hF (fun _ => rfl) ?_)
  (conv => whnf)
  refine callV_pure (lent23_ok false a (fewP_A hf)) ⟨.free (encA_free _ _), trivial⟩ ?_
  (conv => whnf)
  refine vc_weak (s' := ⟨[(1, cW own), (4, .ptr 0 0), (6, .ptr 1 0), (7, .ptr 2 0), (9, .ptr 3 0)], [(0, some (.var true 29 (cellsPo false p))), (1, some (.var true 24 (cellsP to))), (2, some (.var true 33 (cellsA false a))), (3, some (.var true 33 (cellsA false a)))], 4⟩) (Wk.i (by repeat' (first | exact True.intro | exact id | exact rfl | decide | exact Nat.le_of_ble_eq_true rfl | exact LeV.less (.free (encLegs_free _ _)) Less.encLegs | exact LeV.less (.free (encW_free _ _)) Less.encW | exact LeV.free (encLegs_free _ _) | exact LeV.free (encW_free _ _) | exact .ptr rfl (by omega) | exact .osl_of rfl (by omega) rfl | exact .fr rfl | exact LeL.fr rfl | exact .yld rfl (by omega) | exact .eptr rfl (by omega) | exact .osl0 | exact .snil_sl | exact .to_any | exact LeV.nineA | exact LeV.noA | exact LeB.fr rfl id id | exact LeB.fr (by simp; done) id id | refine Or.inl ⟨by simp, _, rfl, ?_⟩ | exact Or.inr ⟨by simp, _, _, _, _, rfl⟩ | refine ⟨rfl, rfl, rfl, rfl, rfl, rfl, ?_⟩ | refine ⟨?_, ?_⟩)) (by omega)) ?_
  refine vb_start' (fun u => [(1, cW own), (4, .iptr false (cellsPo false p)), (6, .iptr false (cellsP to)), (7, .pin (u 7) (.iptr false (cellsA false a))), (9, .pin (u 9) (.iptr false (cellsA false a)))]) (fun G act w hs => ⟨?_, ?_, ?_, ?_, ?_, trivial⟩) (fun u => ?_)
  · exact vr_all hs.hr .int .int (hs.tmp 1)
  · exact ptr_all hs.hr rfl (cellsPo_ok p) (hs.tmp 4)
  · exact ptr_all hs.hr rfl (cellsP_ok to) (hs.tmp 6)
  · exact .pin _ _ (ptr_all hs.hr rfl (cellsA_ok a) (hs.tmp 7))
  · exact .pin _ _ (ptr_all hs.hr rfl (cellsA_ok a) (hs.tmp 9))
  obtain ⟨y, ok, e, hy⟩ := byV_eq p own to a
  refine vb_seq (vh_region tab_ok hF ?_)
  (conv => whnf)
  refine callV_pure (by_ok false false p own to a) ⟨.free (encPo_free _ _), .free .int, .free (encP_free _), .free (encA_free _ _), trivial⟩ ?_
  rw [hy]
  (conv => whnf)
  refine vb_seq (vh_region tab_ok hF ?_)
  (conv => whnf)
  refine callV_pure (rby_ok false false p own to a) ⟨.free (encPo_free _ _), .free .int, .free (encP_free _), .free (encA_free _ _), trivial⟩ ?_
  rw [hy]
  (conv => whnf)
  refine vb_seq (vh_region tab_ok hF ?_)
  (conv => whnf)
  refine callV_pure (ref_same_ok true false y y) ⟨.free (encA_free _ _), .free (encA_free _ _), trivial⟩ ?_
  rw [sameA_refl]
  (conv => whnf)
  simp only [beq_self_eq_true]
  (conv => whnf)
  refine callV_pure (num23_ok e) ⟨.int_of rfl, trivial⟩ ?_
  (conv => whnf)
  simp only [beq_self_eq_true]
  (conv => whnf)
  refine vb_seq (vh_spoil tab_ok hF (m := 1) (fid := 22) rfl rfl rfl rfl rfl ?_)
  (conv => whnf)
  refine ⟨_, rfl, ?_, spoil23_ok y, ?_⟩
  · intro v hv
    simp only [List.mem_cons, List.not_mem_nil, or_false] at hv
    subst hv
    exact encA_free true y
  (conv => whnf)
  refine vb_end' [(7, .ptr 2 0), (9, .ptr 3 0), (16, .bool true)] ⟨.inr ⟨rfl, _, rfl⟩, .inr ⟨rfl, _, rfl⟩, .inl ⟨.bool, rfl⟩, trivial⟩ ?_
  refine vcg_ok (rd := false) tab_ok mixed hF (fun _ => rfl) ?_
  (conv => whnf)
  refine callV_pure (ref_same_ok false false a a) ⟨.free (encA_free _ _), .free (encA_free _ _), trivial⟩ ?_
  rw [sameA_refl]
  (conv => whnf)
  refine callV_pure works23_ok trivial ?_
  (conv => whnf)
  exact wk
end Go.Proofs.YtjpfofmkgdjelaaGreat
