/- Regions that draw their order: whatever order is drawn, the text's order tells it. -/
import Derived.Test.YtcfkendgjinmiaaVP
set_option linter.unusedVariables false
set_option linter.unusedSimpArgs false
namespace Go.Proofs.Ytcfkendgjinmiaa
open Go.RowKit

def edgeRow (acc : List (List Nat)) (o : Oper) : List Nat := o.after.toList.flatMap fun e => if Region.binds .any e then e.on :: acc.getD e.on [] else []
def prAt (all : List Oper) : Nat → List (List Nat)
  | 0 => []
  | k + 1 => prAt all k ++ [match nthO all k with | some o => edgeRow (prAt all k) o | none => []]
def indep (all : List Oper) (oj : Oper) (fj : FP) (ok : Oper) (fk : FP) : Bool :=
  (match oj.dst with | some d => !(rdsOf all ok).contains d | none => true) && (match ok.dst with | some d => !(rdsOf all oj).contains d | none => true) &&
  (match oj.dst, ok.dst with | some d, some d' => !(Nat.beq d d') | _, _ => true) && fj.up.all (fun b => !fk.rd.contains b && !fk.up.contains b) && fk.up.all (fun b => !fj.rd.contains b)
def drawOk (all : List Oper) (fps : List FP) : Bool :=
  (fun ps : List (List Nat) => Nat.beq fps.length all.length && (List.range all.length).all fun k =>
    match nthO all k, nthO fps k with
    | some o, some fp => o.after.toList.all (fun e => !Region.binds .any e || Nat.blt e.on k) && fp.up.all (fun b => Nat.blt b fp.hi) && (List.range k).all fun j =>
      match nthO all j, nthO fps j with
      | some oj, some fj => (ps.getD k []).contains j || indep all oj fj o fp
      | _, _ => false
    | _, _ => false) (prAt all all.length)

theorem nthO_eq {α : Type} : ∀ (l : List α) (i : Nat), nthO l i = l[i]?
  | [], i => by simp [nthO]
  | x :: l, 0 => by simp [nthO]
  | x :: l, i + 1 => by simpa [nthO] using nthO_eq l i
theorem prAt_len (all : List Oper) : ∀ k, (prAt all k).length = k
  | 0 => rfl
  | k + 1 => by simp [prAt, prAt_len all k]
theorem prAt_get (all : List Oper) {i m n : Nat} (h : i < m) (hn : m ≤ n) : (prAt all n).getD i [] = (prAt all m).getD i [] := by
  induction n with
  | zero => omega
  | succ n ih =>
    by_cases e : m = n + 1
    · subst e; rfl
    · rw [← ih (by omega)]
      simp only [prAt, List.getD_eq_getElem?_getD]
      rw [List.getElem?_append_left (by rw [prAt_len]; omega)]
def pr (all : List Oper) (k : Nat) : List Nat := (prAt all (k + 1)).getD k []
theorem pr_eq (all : List Oper) {k : Nat} {o : Oper} (ho : all[k]? = some o) (hb : ∀ e ∈ o.after.toList, Region.binds .any e = true → e.on < k) {j : Nat} :
    j ∈ pr all k ↔ ∃ e ∈ o.after.toList, Region.binds .any e = true ∧ (j = e.on ∨ j ∈ pr all e.on) := by
  have h1 : pr all k = edgeRow (prAt all k) o := by
    simp only [pr, prAt, List.getD_eq_getElem?_getD]
    rw [List.getElem?_append_right (by rw [prAt_len]; omega), prAt_len, Nat.sub_self, nthO_eq, ho]
    rfl
  rw [h1, edgeRow, List.mem_flatMap]
  constructor
  · rintro ⟨e, he, hj⟩
    split at hj
    · rename_i hbd
      refine ⟨e, he, hbd, ?_⟩
      rcases List.mem_cons.1 hj with h | h
      · exact .inl h
      · right
        rw [prAt_get all (Nat.lt_succ_self e.on) (hb e he hbd)] at h
        exact h
    · simp at hj
  · rintro ⟨e, he, hbd, hj⟩
    refine ⟨e, he, ?_⟩
    rw [if_pos hbd]
    rcases hj with rfl | h
    · simp
    · refine List.mem_cons_of_mem _ ?_
      rw [prAt_get all (Nat.lt_succ_self e.on) (hb e he hbd)]
      exact h

/-- Two operations (the first ahead of the second in the text) do not meet. -/
structure Ind (all : List Oper) (oj : Oper) (fj : FP) (ok : Oper) (fk : FP) : Prop where
  r1 : ∀ d, oj.dst = some d → d ∉ rdsOf all ok
  r2 : ∀ d, ok.dst = some d → d ∉ rdsOf all oj
  r3 : ∀ d, oj.dst = some d → ok.dst ≠ some d
  r4 : ∀ b ∈ fj.up, b ∉ fk.rd ∧ b ∉ fk.up
  r5 : ∀ b ∈ fk.up, b ∉ fj.rd
theorem indep_out {all : List Oper} {oj ok : Oper} {fj fk : FP} (h : indep all oj fj ok fk = true) : Ind all oj fj ok fk := by
  simp only [indep, Bool.and_eq_true, List.all_eq_true, Bool.not_eq_true', List.contains_eq_mem, decide_eq_false_iff_not] at h
  obtain ⟨⟨⟨⟨h1, h2⟩, h3⟩, h4⟩, h5⟩ := h
  refine ⟨fun d hd => ?_, fun d hd => ?_, fun d hd hd' => ?_, h4, h5⟩
  · rw [hd] at h1; simpa using h1
  · rw [hd] at h2; simpa using h2
  · rw [hd, hd'] at h3
    simp at h3

section
variable {P : Program} {T : Tab} {F : Fence} {N : Nat}

theorem drawK_out (hT : TabOk P T) (hF : FW F) {all : List Oper} : ∀ {rest : List Oper} {s : St} {fps : List FP} {K : List FP → St → Prop}, drawK P T N all rest s fps K →
    ∃ (S : Nat → St) (fs : List FP), S 0 = s ∧ fs.length = rest.length ∧ K (fps ++ fs) (S rest.length) ∧ ∀ (k : Nat) (o : Oper), rest[k]? = some o → ∃ fp, fs[k]? = some fp ∧ Step P F N all o (S k) (S (k + 1)) fp
  | [], s, fps, K, h => ⟨fun _ => s, [], rfl, rfl, by simpa [drawK] using h, by simp⟩
  | o :: r, s, fps, K, h => by
    obtain ⟨fp, s1, h1, hst⟩ := dopK_out hT hF h
    obtain ⟨S, fs, e0, el, hK, hs⟩ := drawK_out hT hF h1
    refine ⟨fun k => match k with | 0 => s | k + 1 => S k, fp :: fs, rfl, by simp [el], by simpa using hK, fun k o' ho => ?_⟩
    cases k with
    | zero =>
      simp at ho; subst ho
      exact ⟨fp, rfl, by show Step P F N all o s (S 0) fp; rw [e0]; exact hst⟩
    | succ k => exact hs k o' (by simpa using ho)

/-- What is at a place behind the operations that E names. -/
def stE {α : Type} (w : Nat → Nat → Prop) [∀ k i, Decidable (w k i)] (val : Nat → Nat → α) (E : Nat → Bool) (v0 : Nat → α) : Nat → Nat → α
  | 0, i => v0 i
  | k + 1, i => if E k = true ∧ w k i then val k i else stE w val E v0 k i
section stE
variable {α : Type} {wr : Nat → Nat → Prop} [∀ k i, Decidable (wr k i)] {val : Nat → Nat → α} {E : Nat → Bool} {v0 : Nat → α}
theorem stE_succ (k i : Nat) : stE wr val E v0 (k + 1) i = if E k = true ∧ wr k i then val k i else stE wr val E v0 k i := rfl
/-- What the text's order has at step j. -/
def Txt (wr : Nat → Nat → Prop) (val : Nat → Nat → α) (v0 : Nat → α) (m : Nat) (tx : Nat → Nat → α) : Prop := (∀ i, tx 0 i = v0 i) ∧ ∀ k, k < m → ∀ i, (wr k i → tx (k + 1) i = val k i) ∧ (¬ wr k i → tx (k + 1) i = tx k i)
theorem stE_all {m : Nat} {tx : Nat → Nat → α} (ht : Txt wr val v0 m tx) (hE : ∀ k, k < m → E k = true) : ∀ j, j ≤ m → ∀ i, stE wr val E v0 j i = tx j i
  | 0, _, i => (ht.1 i).symm
  | j + 1, hj, i => by
    rw [stE_succ]
    by_cases h : wr j i
    · rw [if_pos ⟨hE j (by omega), h⟩, (ht.2 j (by omega) i).1 h]
    · rw [if_neg (fun h' => h h'.2), stE_all ht hE j (by omega) i, (ht.2 j (by omega) i).2 h]
theorem stE_agree {m k : Nat} {tx : Nat → Nat → α} (ht : Txt wr val v0 m tx) (hk : k < m) (hEk : E k = false) {i : Nat}
    (h1 : ∀ j, j < k → wr j i → E j = true) (h2 : ∀ j, k < j → j < m → wr j i → E j = false) : stE wr val E v0 m i = tx k i := by
  have a1 : ∀ j, j ≤ k → stE wr val E v0 j i = tx j i := by
    intro j
    induction j with
    | zero => intro _; exact (ht.1 i).symm
    | succ j ih =>
      intro hj
      rw [stE_succ]
      by_cases h : wr j i
      · rw [if_pos ⟨h1 j (by omega) h, h⟩, (ht.2 j (by omega) i).1 h]
      · rw [if_neg (fun h' => h h'.2), ih (by omega), (ht.2 j (by omega) i).2 h]
  have a2 : ∀ d, k + d ≤ m → stE wr val E v0 (k + d) i = stE wr val E v0 k i := by
    intro d
    induction d with
    | zero => intro _; rfl
    | succ d ih =>
      intro hd
      rw [show k + (d + 1) = (k + d) + 1 by omega]
      rw [stE_succ]
      rw [if_neg, ih (by omega)]
      rintro ⟨q1, q2⟩
      rcases Nat.eq_zero_or_pos d with rfl | hpos
      · rw [Nat.add_zero] at q1; rw [hEk] at q1; cases q1
      · rw [h2 (k + d) (by omega) (by omega) q2] at q1; cases q1
  have := a2 (m - k) (by omega)
  rw [show k + (m - k) = m by omega] at this
  rw [this, a1 k (Nat.le_refl _)]
theorem stE_after {m k : Nat} (hk : k < m) (hEk : E k = false) {i : Nat} (h2 : wr k i → ∀ j, k < j → j < m → wr j i → E j = false) :
    stE wr val (fun j => if j = k then true else E j) v0 m i = if wr k i then val k i else stE wr val E v0 m i := by
  have a1 : ∀ j, j ≤ k → stE wr val (fun j => if j = k then true else E j) v0 j i = stE wr val E v0 j i := by
    intro j
    induction j with
    | zero => intro _; rfl
    | succ j ih =>
      intro hj
      rw [stE_succ, stE_succ, ih (by omega)]
      have : ¬ j = k := by omega
      simp [this]
  have a2 : ∀ d, k + 1 + d ≤ m → stE wr val (fun j => if j = k then true else E j) v0 (k + 1 + d) i = if wr k i then val k i else stE wr val E v0 (k + 1 + d) i := by
    intro d
    induction d with
    | zero =>
      intro _
      rw [Nat.add_zero, stE_succ, stE_succ]
      by_cases h : wr k i
      · rw [if_pos ⟨by simp, h⟩, if_pos h]
      · rw [if_neg (fun h' => h h'.2), if_neg h, if_neg (fun h' => h h'.2), a1 k (Nat.le_refl _)]
    | succ d ih =>
      intro hd
      rw [show k + 1 + (d + 1) = (k + 1 + d) + 1 by omega]
      rw [stE_succ, stE_succ, ih (by omega)]
      have hne : ¬ k + 1 + d = k := by omega
      simp only [hne, if_false]
      by_cases h : wr k i
      · simp only [h, if_true]
        rw [if_neg]
        rintro ⟨q1, q2⟩
        rw [h2 h (k + 1 + d) (by omega) (by omega) q2] at q1; cases q1
      · simp only [h, if_false]
  have := a2 (m - k - 1) (by omega)
  rwa [show k + 1 + (m - k - 1) = m by omega] at this
end stE
end
end Go.Proofs.Ytcfkendgjinmiaa
