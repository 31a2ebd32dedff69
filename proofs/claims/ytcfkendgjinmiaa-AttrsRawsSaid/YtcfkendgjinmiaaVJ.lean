/- append; all operations. -/
import Derived.Test.YtcfkendgjinmiaaVI
import Derived.Laws.BytesString
set_option linter.unusedVariables false
set_option linter.unusedSimpArgs false
namespace Go.Proofs.Ytcfkendgjinmiaa
open Go.RowKit

variable {P : Program} {T : Tab} {s : St} {g : Option Bool} {o : Oper} {K : OK}

theorem HR.drew {G : Gh} {hp : Heap} {n : Nat} {w : World} (h : HR G hp n w) : HR G hp n w.drew := ⟨h.amb_lt, h.B_le, h.dom, h.own, h.inj, h.apart, h.lt, h.hdom⟩
theorem HR.kill {G : Gh} {hp : Heap} {n : Nat} {w : World} (h : HR G hp n w) (b : Nat) : HR G ((b, none) :: hp) n w := by
  have key : ∀ {b' blk}, hget ((b, none) :: hp) b' = some blk → hget hp b' = some blk := by
    intro b' blk hg
    rw [hget_cons] at hg
    split at hg
    · cases hg
    · exact hg
  exact ⟨h.amb_lt, h.B_le, h.dom, fun b' blk hg => h.own b' blk (key hg), fun b1 b2 k1 k2 c h1 h2 => h.inj b1 b2 k1 k2 c (key h1) (key h2), fun b' blk c hg => h.apart b' blk c (key hg), h.lt, fun b' blk hg => h.hdom b' blk (key hg)⟩
theorem HR.ghost {G : Gh} {hp : Heap} {n : Nat} {w : World} (h : HR G hp n w) (b : Nat) (hb : G.ι b = none) (fr ex : Bool) (ty : TypeId) (sz : Nat) : HR G ((b, some (.arr fr ex ty sz [])) :: hp) (max n (b + 1)) w := by
  refine ⟨h.amb_lt, h.B_le, fun b' hb' => h.dom b' (by omega), fun b' blk hg => ?_, fun b1 b2 k1 k2 c h1 h2 h3 h4 => ?_, fun b' blk c hg hc => ?_, h.lt, fun b' blk hg => ?_⟩
  · rw [hget_cons] at hg
    split at hg
    · rename_i e; subst e; cases hg; exact ⟨by simp, .inl ⟨hb, rfl⟩⟩
    · exact h.own b' blk hg
  · rw [hget_cons] at h1 h2
    by_cases e1 : b = b1
    · subst e1; rw [hb] at h3; cases h3
    by_cases e2 : b = b2
    · subst e2; rw [hb] at h4; cases h4
    rw [if_neg e1] at h1; rw [if_neg e2] at h2
    exact h.inj b1 b2 k1 k2 c h1 h2 h3 h4
  · rw [hget_cons] at hg
    by_cases e : b = b'
    · subst e; rw [hb] at hc; cases hc
    rw [if_neg e] at hg
    exact h.apart b' blk c hg hc
  · rw [hget_cons] at hg
    split at hg
    · omega
    · have := h.hdom b' blk hg; omega
/-- A block takes another name, and is written. -/
theorem HR.move {G : Gh} {hp : Heap} {n : Nat} {w : World} (h : HR G hp n w) {b c nx : Nat} {blk : Blk} (hb : hget hp b = some blk) (hc : G.ι b = some c) (hn : G.ι nx = none) {cur new : Array Value} {t : TypeId} {fr : Nat × Nat}
    (hg : w.heap[c]? = some (.cells cur t fr)) (hs : new.size = cur.size) (blk' : Blk) (hok : BlkOk (G.with nx (some c)) (w.setRow c new) nx blk') :
    HR (G.with nx (some c)) ((nx, some blk') :: (b, none) :: hp) (max n (nx + 1)) (w.setRow c new) ∧ EvoA G w (G.with nx (some c)) (w.setRow c new) := by
  have he0 : EvoA G w G (w.setRow c new) := EvoA.setRow hg hs (h.apart b blk c hb hc) hc
  have he : EvoA G w (G.with nx (some c)) (w.setRow c new) := fun base =>
    ⟨(he0 base).os, (he0 base).tape, (he0 base).output, (he0 base).size, (he0 base).B, (he0 base).amb, (he0 base).keep, (he0 base).csz, fun b' c' hb' hc' => by
      by_cases e : b' = nx
      · subst e; rw [hn] at hc'; cases hc'
      · rw [Gh.with_other _ e]; exact hc', (he0 base).keepu, (he0 base).ambn, fun b' c' hc' hlt => by
      by_cases e : b' = nx
      · subst e; rw [Gh.with_self] at hc'; cases hc'; exact ⟨b, hc⟩
      · rw [Gh.with_other _ e] at hc'; exact ⟨b', hc'⟩⟩
  refine ⟨⟨fun c hc => by have := h.amb_lt c hc; simpa using this, by show G.B ≤ (w.setRow c new).heap.size; simpa using h.B_le, fun b' hb' => ?_, fun b' k hk => ?_, fun b1 b2 k1 k2 c' h1 h2 h3 h4 => ?_, fun b' k c' hk hc' => ?_, fun b' c' hc' => ?_, fun b' k hk => ?_⟩, he⟩
  · rw [Gh.with_other _ (by omega)]; exact h.dom b' (by omega)
  · rw [hget_cons] at hk
    split at hk
    · rename_i e; subst e; cases hk; exact hok
    · rename_i e
      rw [hget_cons] at hk
      split at hk
      · cases hk
      · rename_i e2
        refine (h.own b' k hk).keep he (fun c' hc' => setRow_other _ _ _ _ ?_) (fun hn => by rw [Gh.with_other _ (Ne.symm e)]; exact hn)
        rintro rfl
        exact e2 (h.inj b b' _ _ _ hb hk hc hc')
  · have live : ∀ {b' k}, hget ((nx, some blk') :: (b, none) :: hp) b' = some k → b' ≠ nx → b' ≠ b ∧ hget hp b' = some k := by
      intro b' k hk hne
      rw [hget_cons, if_neg (Ne.symm hne), hget_cons] at hk
      split at hk
      · cases hk
      · rename_i e; exact ⟨Ne.symm e, hk⟩
    by_cases e1 : b1 = nx <;> by_cases e2 : b2 = nx
    · omega
    · obtain ⟨q1, q2⟩ := live h2 e2
      subst e1
      rw [Gh.with_self] at h3; cases h3
      rw [Gh.with_other _ e2] at h4
      exact absurd (h.inj b b2 _ _ _ hb q2 hc h4) (Ne.symm q1)
    · obtain ⟨q1, q2⟩ := live h1 e1
      subst e2
      rw [Gh.with_self] at h4; cases h4
      rw [Gh.with_other _ e1] at h3
      exact absurd (h.inj b b1 _ _ _ hb q2 hc h3) (Ne.symm q1)
    · obtain ⟨_, q1⟩ := live h1 e1
      obtain ⟨_, q2⟩ := live h2 e2
      rw [Gh.with_other _ e1] at h3
      rw [Gh.with_other _ e2] at h4
      exact h.inj b1 b2 _ _ _ q1 q2 h3 h4
  · by_cases e : b' = nx
    · subst e; rw [Gh.with_self] at hc'; cases hc'; exact h.apart b blk c hb hc
    · rw [Gh.with_other _ e] at hc'
      rw [hget_cons, if_neg (Ne.symm e), hget_cons] at hk
      split at hk
      · cases hk
      · exact h.apart b' k c' hk hc'
  · by_cases e : b' = nx
    · subst e; rw [Gh.with_self] at hc'; cases hc'; simpa using h.lt b c hc
    · rw [Gh.with_other _ e] at hc'
      simpa using h.lt b' c' hc'
  · rw [hget_cons] at hk
    split at hk
    · omega
    · rw [hget_cons] at hk
      split at hk
      · cases hk
      · have := h.hdom b' k hk; omega

theorem Holds.fr' {G : Gh} {w : World} {b : Nat} {fr ex : Bool} {ty : TypeId} {vs : List V} (h : Holds G w b true ex ty vs) : Holds G w b fr ex ty vs := by
  obtain ⟨c, cs, h1, h2, h3, h4, h5, h6⟩ := h
  exact ⟨c, cs, h1, h2, h3, h4, fun _ => h5 rfl, h6⟩
theorem Gh.with_none (G : Gh) {b : Nat} (h : G.ι b = none) : G.with b none = G := by
  unfold Gh.with
  congr 1
  funext i
  split
  · rename_i e; subst e; exact h.symm
  · rfl

/-- A slice grows into a new block. -/
theorem grown_ok (hT : TabOk P T) {e : TypeId} (ht : (T e).k ≠ .other) (hpos : 0 < (T e).size) {G : Gh} {hp : Heap} {n0 : Nat} {w : World} (h : HR G hp n0 w) {nx : Nat} (hi : G.ι nx = none) {z : Value} (hz : z.cells.toList = (T e).zero)
    {olds news : List Value} {rows ys : List (List V)} {n cap : Nat} (fr : Bool) (hro : ∀ x ∈ rows, x.length = (T e).size) (hry : ∀ x ∈ ys, x.length = (T e).size) (hn : rows.length = n)
    (hvo : vrs G w rows.flatten olds) (ho1 : ∀ u ∈ olds, u.oneCell' = true) (hvn : vrs G w ys.flatten news) (hn1 : ∀ u ∈ news, u.oneCell' = true) (hle : n + ys.length ≤ maxLen) :
    ∃ w', w' = w.drew.alloc (.cells (olds.toArray ++ news.toArray ++ Builtin.zeroCells z.cells (grownCap w (n + ys.length) cap e - (n + ys.length))) e) ∧
      vr (G.with nx (some w.heap.size)) w' (.osl nx (T e).size 0 (n + ys.length)) (.slice (some ⟨w.heap.size, 0, none⟩) (n + ys.length) (grownCap w (n + ys.length) cap e)) ∧
      HR (G.with nx (some w.heap.size)) ((nx, some (.arr fr false e (T e).size (rows ++ ys))) :: hp) (max n0 (nx + 1)) w' ∧ EvoA G w (G.with nx (some w.heap.size)) w' := by
  refine ⟨_, rfl, ?_, ?_, ?_⟩
  · have hge := grownCap_ge w (n + ys.length) cap e
    have hle2 := grownCap_le_maxLen w (n + ys.length) cap e hle
    have hzs : z.cells.size = (T e).size := by rw [← hT.zero_len ht, ← hz, Array.length_toList]
    have hol : olds.length = n * (T e).size := by rw [← hvo.1, flatten_cells hro, hn]
    have hnl : news.length = ys.length * (T e).size := by rw [← hvn.1, flatten_cells hry]
    have := VR.osl (ι := (G.with nx (some w.heap.size)).ι) (csz := csz (w.drew.alloc (.cells (olds.toArray ++ news.toArray ++ Builtin.zeroCells z.cells (grownCap w (n + ys.length) cap e - (n + ys.length))) e)))
      (imm := imm (G.with nx (some w.heap.size)) (w.drew.alloc (.cells (olds.toArray ++ news.toArray ++ Builtin.zeroCells z.cells (grownCap w (n + ys.length) cap e - (n + ys.length))) e)))
      nx (T e).size 0 (n + ys.length) w.heap.size (grownCap w (n + ys.length) cap e) (grownCap w (n + ys.length) cap e * (T e).size) (Gh.with_self _ _ _) (by
        have := csz_new w.drew (olds.toArray ++ news.toArray ++ Builtin.zeroCells z.cells (grownCap w (n + ys.length) cap e - (n + ys.length))) e
        refine this.trans ?_
        congr 1
        rw [Array.size_append, Array.size_append, size_zeroCells, hzs, List.size_toArray, List.size_toArray, hol, hnl, ← Nat.add_mul, ← Nat.add_mul]
        congr 1
        omega) (by rw [Nat.zero_add]) hge hle2
    rwa [Nat.zero_mul] at this
  · refine HR.alloc h.drew _ nx hi (.arr fr false e (T e).size (rows ++ ys)) ⟨fun x hx => ?_, .inr (Holds.fr' (holds_new' h.drew nx hi false e _ _ ?_ (fun h => by cases h) ?_))⟩
    · rcases List.mem_append.1 hx with hx | hx
      · exact hro x hx
      · exact hry x hx
    · have h1 := hvo.1
      have h2 := hvn.1
      simp only [List.flatten_append, List.length_append, Array.size_append, List.size_toArray]
      omega
    · intro j v hj
      have happ : vrs G w (rows ++ ys).flatten (olds ++ news) := by rw [List.flatten_append]; exact hvo.append hvn
      obtain ⟨u, hu, h1, hr⟩ := happ.get (fun u hu => by rcases List.mem_append.1 hu with hu | hu; exact ho1 u hu; exact hn1 u hu) j v hj
      refine ⟨u, ?_, h1, hr⟩
      have hlt := (List.getElem?_eq_some_iff.1 hu).1
      rw [Array.getElem?_append_left (by simpa using hlt)]
      simpa using hu
  · exact EvoA.drew.trans (EvoA.alloc h.drew _ nx hi)

theorem notInt (hT : TabOk P T) {t e : Nat} (hk : (T t).k = .slice e) : ∃ d, P.underlying t = some d ∧ ∀ k, d ≠ .int k := by
  obtain ⟨_, _, d, _, _, _, _, _, h6, h7⟩ := hT.at (t := t) (by rw [hk]; simp)
  rw [hk, DescOk] at h7
  subst h7
  exact ⟨_, h6, by simp⟩

theorem append_ghost (hT : TabOk P T) {t t' ty e e' : TypeId} (hk : (T t).k = .slice e) (hk' : (T t').k = .slice e') (ht : (T e).k ≠ .other) {w : World} {A : Option Addr} {x : Value} {news : List Value}
    (hx : Xs P (T e).size w x 0 news) : (Builtin.append_ #[t, t'] ty #[.slice A 0 0, x]).run P w = .ok (.slice A 0 0) w := by
  obtain ⟨d', h6', hd'⟩ := notInt hT hk'
  obtain ⟨_, _, d, _, _, _, _, _, h6, h7⟩ := hT.at (t := t) (by rw [hk]; simp)
  rw [hk, DescOk] at h7
  subst h7
  have hn : news = [] := List.eq_nil_of_length_eq_zero (by have := hx.1; simpa using this)
  subst hn
  exact append_room (P := P) h6 h6' hd' (hT.sizeOf ht w) hx (Nat.le_refl _) (fun ad _ => by simp [storeCells]) (fun _ => rfl)

theorem append_new (hT : TabOk P T) {t t' ty e e' : TypeId} (hk : (T t).k = .slice e) (hk' : (T t').k = .slice e') (ht : (T e).k ≠ .other) (hpos : 0 < (T e).size) {w : World} {A : Option Addr} {n cap m : Nat} {x : Value} {olds news : List Value}
    (hx : Xs P (T e).size w x m news) (ho : (Builtin.firstCells (T e).size n (.slice A n cap)).run P w.drew = .ok olds.toArray w.drew) (hg : cap < n + m) (hby : (n + m) * (T e).bytes ≤ 140737488355328 ∧ n + m ≤ 140737488355328) :
    ∃ z : Value, z.cells.toList = (T e).zero ∧ (Builtin.append_ #[t, t'] ty #[.slice A n cap, x]).run P w = .ok (.slice (some ⟨w.heap.size, 0, none⟩) (n + m) (grownCap w (n + m) cap e))
        (w.drew.alloc (.cells (olds.toArray ++ news.toArray ++ Builtin.zeroCells z.cells (grownCap w (n + m) cap e - (n + m))) e)) := by
  obtain ⟨d', h6', hd'⟩ := notInt hT hk'
  obtain ⟨_, _, d, _, _, _, _, _, h6, h7⟩ := hT.at (t := t) (by rw [hk]; simp)
  rw [hk, DescOk] at h7
  subst h7
  obtain ⟨i, z, _, q1, q2, q3, q4, q5, _, _⟩ := hT.at ht
  exact ⟨z, q5, append_grows h6 h6' hd' q1 q4 (by rw [q2]; exact hx) (by rw [q2]; exact ho) hg (by omega) (by rw [q3]; exact hby.1)⟩

theorem append_zeros {w : World} {t t' ty e : TypeId} (ht : P.underlying t = some (.slice e)) {k : IntKind} (ht' : P.underlying t' = some (.int k)) {i : TypeInfo} {z : Value} (hi : P.info? e = some i) (hz : i.zero = some z)
    {A : Option Addr} {m : Int} (h0 : 0 < m) (hpos : 0 < i.size) (hm : m ≤ 140737488355328) (hby : m.toNat * i.bytes ≤ 140737488355328) :
    (Builtin.append_ #[t, t'] ty #[.slice A 0 0, .int .i64 m]).run P w = .ok (.slice (some ⟨w.heap.size, 0, none⟩) m.toNat (grownCap w m.toNat 0 e))
        (w.drew.alloc (.cells ((Builtin.zeroCells z.cells m.toNat).toList.toArray ++ Builtin.zeroCells z.cells (grownCap w m.toNat 0 e - m.toNat)) e)) := by
  have hw : IntKind.i64.wrap m = m := by
    rw [show IntKind.i64.wrap m = (m + 9223372036854775808) % 18446744073709551616 - 9223372036854775808 by simp [IntKind.wrap, IntKind.bits, IntKind.signed]; split <;> omega]
    omega
  have hn : ¬ (m.toNat = 0) := by omega
  have hneg : ¬ (m < 0) := by omega
  have hbi : m * (i.bytes : Int) = ((m.toNat * i.bytes : Nat) : Int) := by rw [Int.natCast_mul, Int.toNat_of_nonneg (by omega)]
  have h48 : ¬ (281474976710656 < m * (i.bytes : Int)) := by rw [hbi]; omega
  have hfit := growslice_fits (need := m.toNat) (old := 0) (bytes := i.bytes) (by omega) hby
  have h48' : ¬ (281474976710656 < Builtin.nextslicecap m.toNat 0 * i.bytes) := by omega
  have h63 : ¬ (9223372036854775807 < max m 0) := by omega
  have h63' : ¬ (9223372036854775807 < (m.toNat : Int)) := by omega
  have hms : ¬ (m.toNat = 0 ∨ i.size = 0) := by omega
  have hm0 : ¬ (m ≤ 0) := by omega
  have hcell : ∀ n W, (Builtin.firstCells i.size 0 (.slice A n 0)).run P W = .ok #[] W := by intro n W; cases A <;> simp [Builtin.firstCells, loadCells, loadCellsFrom]
  simp [Builtin.append_, run_underlying ht, run_underlying ht', sizeOf, typeInfo, zeroValue, hi, hz, hw, asInt, asIntOf, hn, hneg, h48, h63, h63', h48', hms, hm0, Question.forced, newRow, grownCap, hcell]
  intro h; rcases Nat.mul_eq_zero.1 h with h | h <;> omega
theorem ex_append (hT : TabOk P T) {c : Call} (ho : o.op = .call c) (hc : c.callee = .builtin .append) (h : exec T s g o K) : ExOk P s g o K := by
  simp only [exec, ho, hc] at h
  split at h
  · rename_i x y t t' hargs htys
    have hargs : c.args = #[x, y] := by apply Array.ext'; simp [hargs]
    have htys : c.argTypes = #[t, t'] := by apply Array.ext'; simp [htys]
    have hxm : x ∈ o.op.operands := by rw [ho]; simp [Op.operands, Call.operands, hc, hargs]
    have hym : y ∈ o.op.operands := by rw [ho]; simp [Op.operands, Call.operands, hc, hargs]
    have run : ∀ (a : Act) (w : World), (execOp a.eval o).run P w = ((Builtin.append_ #[t, t'] o.type #[a.eval x, a.eval y]).run P w).andThen fun v w => .ok (.value v) w := by
      intro a w
      simp [execOp, ho, resolve, hc, hargs, htys, invoke, builtin]
    split at h
    · rename_i e e' hk hk' hx
      rw [forceN_eq] at h
      obtain ⟨sz, ys, rd, h', hrd0, hys⟩ := rowsK_out (P := P) (sz0 := 0) h; clear h; have h := h'; clear h'
      obtain ⟨h', ht⟩ := szK_out h; clear h; have h := h'; clear h'
      obtain ⟨⟨rfl, hpos⟩, hby, h⟩ := h
      refine ⟨_, _, _, _, h, RdOk.new (fun b ob hm => .inl (hrd0 b ob hm)), fun _ => ⟨by omega, fun G N a w s' hs ha hr hn => ?_⟩, fun hg => absurd rfl hg⟩
      have hi := hn s.nx (Nat.le_refl _) (by omega)
      have hvx := ev_vr hs x (otm o hxm ha)
      rw [hx] at hvx
      obtain ⟨news, hX, hvn, hry⟩ := hys G s'.h s'.nx w _ hs.hr (fun b ob hb => hr b ob (by simp [hb])) (ev_vr hs y (otm o hym ha))
      generalize hux : a.eval x = ux at hvx
      cases hvx with
      | snil A =>
        by_cases h0 : ys.length = 0
        · have hnil : ys = [] := List.eq_nil_of_length_eq_zero h0
          subst hnil
          have hrun := append_ghost hT (ty := o.type) hk hk' ht (A := A) hX
          exact ⟨.slice A 0 0, w, G, .inl (by rw [run, hux, hrun]; rfl), .oslz _ _ _ _, hs.hr.ghost s.nx hi true false e _, fun _ _ => rfl, EvoA.refl G w⟩
        · obtain ⟨z, hz, hrun⟩ := append_new hT (ty := o.type) hk hk' ht hpos (A := A) (n := 0) (cap := 0) (olds := []) hX (by cases A <;> simp [Builtin.firstCells, loadCells, loadCellsFrom]) (by omega) (by rw [Nat.zero_add]; exact hby)
          obtain ⟨w', hw', h1, h2, h3⟩ := grown_ok hT ht hpos hs.hr hi hz (olds := []) (rows := []) (n := 0) (cap := 0) true (by simp) hry rfl ⟨by simp, by simp⟩ (by simp) hvn hX.2.1 (by unfold maxLen; omega)
          subst hw'
          refine ⟨_, _, _, .inl (by rw [run, hux, hrun]; rfl), ?_, by simpa using h2, fun b hb => Gh.with_other _ (by omega) _, h3⟩
          rw [Nat.zero_add] at h1 ⊢
          exact h1
    · rename_i e k hk hk' hx
      split at h
      · rename_i m hy
        rw [forceN_eq] at h
        obtain ⟨h', ht⟩ := szK_out h; clear h; have h := h'; clear h'
        obtain ⟨cs, h', hln, h1, hv⟩ := constsK_out h; clear h; have h := h'; clear h'
        split at h
        · rename_i hlen
          have hlen := lenIs_eq hlen
          obtain ⟨⟨hpos, h0, hby, h47⟩, h⟩ := h
          refine ⟨_, _, _, _, h, RdOk.new (.nil _), fun _ => ⟨by omega, fun G N a w s' hs ha hr hn => ?_⟩, fun hg => absurd rfl hg⟩
          have hi := hn s.nx (Nat.le_refl _) (by omega)
          have hvx := ev_vr hs x (otm o hxm ha)
          rw [hx] at hvx
          have hvy := ev_vr hs y (otm o hym ha)
          rw [hy] at hvy
          have hvy := VR.int_iff.1 hvy
          obtain ⟨_, _, d, _, _, _, _, _, h6, h7⟩ := hT.at (t := t) (by rw [hk]; simp)
          rw [hk, DescOk] at h7
          subst h7
          obtain ⟨_, _, d', _, _, _, _, _, h6', h7'⟩ := hT.at (t := t') (by rw [hk']; simp)
          rw [hk', DescOk] at h7'
          subst h7'
          obtain ⟨i, z, _, q1, q2, q3, q4, q5, _, _⟩ := hT.at ht
          generalize hux : a.eval x = ux at hvx
          cases hvx with
          | snil A =>
            by_cases hm0 : m.toNat = 0
            · have : m = 0 := by omega
              subst this
              have hrun : (Builtin.append_ #[t, t'] o.type #[.slice A 0 0, .int .i64 0]).run P w = .ok (.slice A 0 0) w := by
                cases A <;> simp [Builtin.append_, run_underlying h6, run_underlying h6', sizeOf, typeInfo, zeroValue, q1, q4, asInt, asIntOf, show IntKind.i64.wrap 0 = 0 by rfl, storeCells]
              exact ⟨.slice A 0 0, w, G, .inl (by rw [run, hux, hvy, hrun]; rfl), .oslz _ _ _ _, hs.hr.ghost s.nx hi true false e _, fun _ _ => rfl, EvoA.refl G w⟩
            · have hrun := append_zeros (P := P) (w := w) (ty := o.type) h6 h6' q1 q4 (A := A) (m := m) (by omega) (by omega) (by omega) (by rw [q3]; exact hby)
              have hzv : vrs G w cs z.cells.toList := by rw [q5]; exact hv G w
              have hmade := made_flatten cs z.cells G w hzv (by omega) m.toNat
              have hzs : z.cells.size = cs.length := by have := hzv.1; simpa using this.symm
              have hzc : Builtin.zeroCells z.cells m.toNat = (Array.range (m.toNat * cs.length)).map (z.cells[· % z.cells.size]!) := by rw [← hzs]; rfl
              rw [← hzc] at hmade
              have hrow : ∀ x, x ∈ List.replicate m.toNat cs → x.length = (T e).size := fun x hx => by rw [List.eq_of_mem_replicate hx, hlen]
              obtain ⟨w', hw', g1, g2, g3⟩ := grown_ok hT ht hpos hs.hr hi q5 (olds := []) (rows := []) (n := 0) (cap := 0) (ys := List.replicate m.toNat cs) true (by simp) hrow rfl ⟨by simp, by simp⟩ (by simp) hmade (hmade.one (fun v hv => by
                obtain ⟨x, hx, hv⟩ := List.mem_flatten.1 hv
                rw [List.eq_of_mem_replicate hx] at hv
                exact h1 v hv)) (by simp; unfold maxLen; omega)
              subst hw'
              simp only [List.length_replicate, Nat.zero_add] at g1 g2 g3
              refine ⟨_, _, _, .inl (by rw [run, hux, hvy, hrun]; rfl), ?_, by simpa using g2, fun b hb => Gh.with_other _ (by omega) _, ?_⟩
              · simpa using g1
              · simpa using g3
        · exact h.elim
      · exact h.elim
    · rename_i e e' b sz n hk hk' hx
      split at h
      · rename_i fr ex ty sz' rows hb
        rw [forceN_eq] at h
        obtain ⟨sz'', ys, rd, h', hrd0, hys⟩ := rowsK_out (P := P) (sz0 := 0) h; clear h; have h := h'; clear h'
        obtain ⟨h', ht⟩ := szK_out h; clear h; have h := h'; clear h'
        obtain ⟨⟨rfl, rfl, rfl, rfl, hpos⟩, hnr, hby, h⟩ := h
        refine ⟨_, _, _, _, h, RdOk.new (.cons (.inl hb) (fun b ob hm => .inl (hrd0 b ob hm))), fun _ => ⟨by omega, fun G N a w s' hs ha hr hn => ?_⟩, fun hg => absurd rfl hg⟩
        have hi := hn s.nx (Nat.le_refl _) (by omega)
        have hvx := ev_vr hs x (otm o hxm ha)
        rw [hx] at hvx
        obtain ⟨news, hX, hvn, hry⟩ := hys G s'.h s'.nx w _ hs.hr (fun b ob hb => hr b ob (by simp [hb])) (ev_vr hs y (otm o hym ha))
        have hb' : hget s'.h b = some (.arr fr ex ty (T ty).size rows) := hr b _ (by simp)
        obtain ⟨hro, hown⟩ := hs.hr.own b (.arr fr ex ty (T ty).size rows) hb'
        have hro' : ∀ x ∈ rows.take n, x.length = (T ty).size := fun x hx => hro x (List.mem_of_mem_take hx)
        generalize hux : a.eval x = ux at hvx
        cases hvx with
        | oslz _ _ _ A =>
          by_cases h0 : ys.length = 0
          · have hnil : ys = [] := List.eq_nil_of_length_eq_zero h0
            subst hnil
            have hrun := append_ghost hT (ty := o.type) hk hk' ht (A := A) hX
            refine ⟨.slice A 0 0, w, G, .inl (by rw [run, hux, hrun]; rfl), .oslz _ _ _ _, ?_, fun _ _ => rfl, EvoA.refl G w⟩
            simpa using (hs.hr.kill b).ghost s.nx hi fr false ty (T ty).size
          · obtain ⟨z, hz, hrun⟩ := append_new hT (ty := o.type) hk hk' ht hpos (A := A) (n := 0) (cap := 0) (olds := []) hX (by cases A <;> simp [Builtin.firstCells, loadCells, loadCellsFrom]) (by omega) hby
            obtain ⟨w', hw', h1, h2, h3⟩ := grown_ok hT ht hpos (hs.hr.kill b) hi hz (olds := []) (rows := []) (n := 0) (cap := 0) fr (by simp) hry rfl ⟨by simp, by simp⟩ (by simp) hvn hX.2.1 (by unfold maxLen; omega)
            subst hw'
            exact ⟨_, _, _, .inl (by rw [run, hux, hrun]; rfl), h1, by simpa using h2, fun b hb => Gh.with_other _ (by omega) _, h3⟩
        | osl _ _ _ _ c2 cap m hcb hz he hncap hm =>
          rcases hown with ⟨h1, _⟩ | hown
          · rw [h1] at hcb; cases hcb
          obtain ⟨c3, cs, e1, hh, hlen, hex, hfr, h6⟩ := id hown
          rw [hcb] at e1; cases e1
          have hcsz : cs.size = cap * (T ty).size := by
            have : csz w c2 = some cs.size := by unfold csz; rw [hh]
            rw [this] at hz; cases hz
            rw [← he, Nat.zero_add]
          have hcl : cs.toList.length = cs.size := Array.length_toList
          have hfl := flatten_cells hro
          have hmul : n * (T ty).size ≤ rows.length * (T ty).size := Nat.mul_le_mul_right _ hnr
          have hmul2 : n * (T ty).size ≤ cap * (T ty).size := Nat.mul_le_mul_right _ hncap
          have hnl : news.length = ys.length * (T ty).size := by rw [← hvn.1, flatten_cells hry]
          have htk : (rows.take n).flatten = rows.flatten.take (n * (T ty).size) := by
            have e : rows.flatten = (rows.take n).flatten ++ (rows.drop n).flatten := by rw [← List.flatten_append, List.take_append_drop]
            have l : (rows.take n).flatten.length = n * (T ty).size := by rw [flatten_cells hro', List.length_take, Nat.min_eq_left hnr]
            rw [e, ← l, List.take_left]
          have hvo : vrs G w (rows.take n).flatten (cs.toList.take (n * (T ty).size)) := by
            rw [htk]
            refine ⟨by rw [List.length_take, List.length_take]; omega, fun j v u h1 h2 => ?_⟩
            have hj : j < n * (T ty).size := by
              have := (List.getElem?_eq_some_iff.1 h1).1
              rw [List.length_take] at this; omega
            rw [List.getElem?_take_of_lt hj] at h1 h2
            obtain ⟨u', hu', _, hr'⟩ := h6 j v h1
            have : cs[j]? = some u := by simpa using h2
            rw [this] at hu'; cases hu'
            exact hr'
          have ho1 : ∀ u ∈ cs.toList.take (n * (T ty).size), u.oneCell' = true := by
            intro u hu
            obtain ⟨j, hj, rfl⟩ := List.mem_iff_getElem.1 hu
            have hj2 : j < n * (T ty).size := by simp at hj; omega
            have hj3 : j < rows.flatten.length := by omega
            obtain ⟨u', hu', h1', _⟩ := h6 j _ (List.getElem?_eq_getElem hj3)
            have : (cs.toList.take (n * (T ty).size))[j]? = cs[j]? := by rw [List.getElem?_take_of_lt hj2]; simp
            rw [List.getElem?_eq_getElem hj, hu'] at this
            cases this
            exact h1'
          rw [Nat.zero_mul] at hux
          by_cases hroom : n + ys.length ≤ cap
          · obtain ⟨d', h6', hd'⟩ := notInt hT hk'
            obtain ⟨_, _, d, _, _, _, _, _, h6x, h7x⟩ := hT.at (t := t) (by rw [hk]; simp)
            rw [hk, DescOk] at h7x
            subst h7x
            have hmul3 : (n + ys.length) * (T ty).size ≤ cap * (T ty).size := Nat.mul_le_mul_right _ hroom
            rw [Nat.add_mul] at hmul3
            have hst := run_storeCells_at P c2 (n * (T ty).size) ty news 0 cs w hh (by omega) hX.2.1
            rw [Nat.add_zero] at hst
            have hrun := append_room (P := P) (ty := o.type) h6x h6' hd' (hT.sizeOf ht w) (A := some ⟨c2, 0, none⟩) (n := n) hX hroom (fun ad had => by cases had; rw [add_none rfl, Nat.zero_add]; exact hst) (fun h => by cases h)
            have hsz : (cs.toList.take (n * (T ty).size) ++ news ++ cs.toList.drop (n * (T ty).size + news.length)).toArray.size = cs.size := by
              simp only [List.size_toArray, List.length_append, List.length_take, List.length_drop, Array.length_toList]
              omega
            have hap := hs.hr.apart b _ c2 hb' hcb
            have he0 : EvoA G w (G.with s.nx (some c2)) (w.setRow c2 (cs.toList.take (n * (T ty).size) ++ news ++ cs.toList.drop (n * (T ty).size + news.length)).toArray) := fun base =>
              ⟨rfl, rfl, rfl, by simp, rfl, fun _ hc => hc, fun c' hc => setRow_other _ _ _ _ (fun e => hap (e ▸ hc)), fun _ _ hm => csz_setRow hh hsz hm, fun b' c' _ hc' => by
                by_cases e : b' = s.nx
                · subst e; rw [hi] at hc'; cases hc'
                · rw [Gh.with_other _ e]; exact hc', fun c' _ hn => setRow_other _ _ _ _ (fun e => hn b (e ▸ hcb)), fun _ h _ => .inl h, fun b' c' hc' hlt => by
                by_cases e : b' = s.nx
                · subst e; rw [Gh.with_self] at hc'; cases hc'; exact ⟨b, hcb⟩
                · rw [Gh.with_other _ e] at hc'; exact ⟨b', hc'⟩⟩
            have hq1 : (rows.take n ++ ys).flatten.length ≤ (cs.toList.take (n * (T ty).size) ++ news ++ cs.toList.drop (n * (T ty).size + news.length)).toArray.size := by
              have q1 := hvn.1
              have q2 := hvo.1
              rw [List.length_take] at q2
              rw [hsz, List.flatten_append, List.length_append]
              omega
            have hq2 : ∀ (j : Nat) (v : V), (rows.take n ++ ys).flatten[j]? = some v → ∃ u : Value, (cs.toList.take (n * (T ty).size) ++ news ++ cs.toList.drop (n * (T ty).size + news.length)).toArray[j]? = some u ∧ u.oneCell' = true ∧
                vr (G.with s.nx (some c2)) (w.setRow c2 (cs.toList.take (n * (T ty).size) ++ news ++ cs.toList.drop (n * (T ty).size + news.length)).toArray) v u := by
              intro j v hj
              rw [List.flatten_append] at hj
              have happ := hvo.append hvn
              obtain ⟨u, hu, h1', hr'⟩ := happ.get (fun u hu => by rcases List.mem_append.1 hu with hu | hu; exact ho1 u hu; exact hX.2.1 u hu) j v hj
              refine ⟨u, ?_, h1', he0.vr hr'⟩
              have hlt := (List.getElem?_eq_some_iff.1 hu).1
              rw [List.getElem?_toArray, List.getElem?_append_left hlt]
              exact hu
            have hq3 : ∀ x, x ∈ rows.take n ++ ys → x.length = (T ty).size := by
              intro x hx
              rcases List.mem_append.1 hx with hx | hx
              · exact hro' x hx
              · exact hry x hx
            obtain ⟨hR, hE⟩ := HR.move hs.hr hb' hcb hi hh hsz (.arr fr false ty (T ty).size (rows.take n ++ ys)) ⟨hq3, .inr ⟨c2, _, Gh.with_self _ _ _, setRow_heap _ _ _ _ _ _ hh, hq1, (fun h => by cases h), hfr, hq2⟩⟩
            refine ⟨_, _, _, .inl (by rw [run, hux, hrun]; rfl), ?_, by simpa using hR, fun b hb => Gh.with_other _ (by omega) _, hE⟩
            have := VR.osl (ι := (G.with s.nx (some c2)).ι) (csz := csz (w.setRow c2 (cs.toList.take (n * (T ty).size) ++ news ++ cs.toList.drop (n * (T ty).size + news.length)).toArray))
              (imm := imm (G.with s.nx (some c2)) (w.setRow c2 (cs.toList.take (n * (T ty).size) ++ news ++ cs.toList.drop (n * (T ty).size + news.length)).toArray)) s.nx (T ty).size 0 (n + ys.length) c2 cap m (Gh.with_self _ _ _) (csz_setRow hh hsz hz) he hroom hm
            rwa [Nat.zero_mul] at this
          · obtain ⟨z, hz', hrun⟩ := append_new hT (ty := o.type) hk hk' ht hpos (A := some ⟨c2, 0, none⟩) (n := n) (cap := cap) (olds := cs.toList.take (n * (T ty).size)) hX (by
              refine run_firstCells_some _ _ _ _ _ _ _ (by simp; omega) fun j v hj => ?_
              have hj2 : j < n * (T ty).size := by
                have := (List.getElem?_eq_some_iff.1 hj).1
                simp at this; omega
              rw [List.getElem?_take_of_lt hj2] at hj
              rw [add_none rfl, Nat.zero_add]
              have : w.cell? ⟨c2, j, none⟩ = some v := by simpa [World.cell?, hh] using hj
              exact this) (by omega) hby
            obtain ⟨w', hw', h1, h2, h3⟩ := grown_ok hT ht hpos (hs.hr.kill b) hi hz' (olds := cs.toList.take (n * (T ty).size)) (rows := rows.take n) (n := n) (cap := cap) fr hro' hry (by simp; omega) hvo ho1 hvn hX.2.1 (by unfold maxLen; omega)
            subst hw'
            exact ⟨_, _, _, .inl (by rw [run, hux, hrun]; rfl), h1, by simpa using h2, fun b hb => Gh.with_other _ (by omega) _, h3⟩
      · exact h.elim
    · exact h.elim
  · exact h.elim

theorem rowsK_shape {h : Heap} {v : V} {K : Nat → List (List V) → Heap → Prop} (hk : rowsK h v K) : (∃ fr sz xs, v = .sl fr sz xs) ∨ (∃ b sz row n, v = .osl b sz row n) ∨ v = .snil := by
  unfold rowsK at hk
  split at hk
  · exact .inl ⟨_, _, _, rfl⟩
  · exact .inr (.inl ⟨_, _, _, _, rfl⟩)
  · exact .inr (.inr rfl)
  · exact hk.elim
theorem HR.congr {G : Gh} {h h' : Heap} {n n' : Nat} {w : World} (hr : HR G h n w) (hh : ∀ b, hget h' b = hget h b) (hn : n ≤ n') : HR G h' n' w :=
  ⟨hr.amb_lt, hr.B_le, fun b hb => hr.dom b (by omega), fun b blk hb => hr.own b blk (by rw [← hh]; exact hb), fun b b' k k' c h1 h2 => hr.inj b b' k k' c (by rw [← hh]; exact h1) (by rw [← hh]; exact h2),
   fun b k c hb => hr.apart b k c (by rw [← hh]; exact hb), hr.lt, fun b k hb => by have := hr.hdom b k (by rw [← hh]; exact hb); omega⟩

theorem load_world {w w' : World} {a : Addr} {v : Value} (h : (load a).run P w = .ok v w') : w' = w := by
  rw [run_load] at h
  split at h
  · cases h; rfl
  · split at h
    · cases h; rfl
    all_goals cases h
theorem lc_ext {w w' : World} {a : Addr} : ∀ {n i : Nat} {acc r : Array Value}, (loadCellsFrom a i n acc).run P w = .ok r w' → r.toList.take acc.size = acc.toList ∧ acc.size + n = r.size
  | 0, i, acc, r, h => by
    simp only [loadCellsFrom, Sem.run_pure, Result.ok.injEq] at h
    obtain ⟨rfl, _⟩ := h
    exact ⟨List.take_of_length_le (by simp), rfl⟩
  | n + 1, i, acc, r, h => by
    simp only [loadCellsFrom, Sem.run_bind] at h
    cases hl : (load (a.add i)).run P w with
    | ok v w1 =>
      rw [hl, Result.andThen_ok] at h
      have := load_world hl
      subst this
      obtain ⟨h1, h2⟩ := lc_ext (n := n) h
      refine ⟨?_, by simp at h2; omega⟩
      have h3 := congrArg (List.take acc.size) h1
      simp only [Array.size_push, List.take_take, Array.toList_push] at h3
      rw [Nat.min_eq_left (Nat.le_succ _)] at h3
      rw [h3, List.take_append_of_le_length (by simp), List.take_of_length_le (by simp)]
    | _ => rw [hl] at h; cases h
theorem lc_prefix {w w' : World} {a : Addr} : ∀ {k n i : Nat} {acc r : Array Value}, (loadCellsFrom a i (k + n) acc).run P w = .ok r w' → (loadCellsFrom a i k acc).run P w = .ok (r.toList.take (acc.size + k)).toArray w
  | 0, n, i, acc, r, h => by
    simp only [loadCellsFrom, Sem.run_pure, Nat.add_zero, (lc_ext h).1]
  | k + 1, n, i, acc, r, h => by
    rw [show k + 1 + n = (k + n) + 1 by omega] at h
    simp only [loadCellsFrom, Sem.run_bind] at h ⊢
    cases hl : (load (a.add i)).run P w with
    | ok v w1 =>
      rw [hl, Result.andThen_ok] at h
      have := load_world hl
      subst this
      have := lc_prefix (k := k) h
      rw [Result.andThen_ok, this]
      simp only [Array.size_push]
      rw [show acc.size + 1 + k = acc.size + (k + 1) by omega]
    | _ => rw [hl] at h; cases h
theorem firstCells_less {size : Nat} {w : World} {x : Value} {m : Nat} {news : List Value} (h : Xs P size w x m news) (hx : ∃ A n c, x = .slice A n c) {k : Nat} (hk : k ≤ m) : (Builtin.firstCells size k x).run P w = .ok (news.take (k * size)).toArray w := by
  obtain ⟨A, n, c, rfl⟩ := hx
  obtain ⟨h1, _, _, h4, _⟩ := h
  cases A with
  | none =>
    simp only [Builtin.firstCells, Sem.run_pure, Result.ok.injEq, and_true] at h4 ⊢
    have : news = [] := by simpa using h4.symm
    simp [this]
  | some a =>
    simp only [Builtin.firstCells, loadCells] at h4 ⊢
    rw [show m * size = k * size + (m - k) * size by rw [← Nat.add_mul]; congr 1; omega] at h4
    have := lc_prefix h4
    simpa using this
theorem take_flatten {rows : List (List V)} {sz : Nat} (hs : ∀ x, x ∈ rows → x.length = sz) {k : Nat} (hk : k ≤ rows.length) : (rows.take k).flatten = rows.flatten.take (k * sz) := by
  have e : rows.flatten = (rows.take k).flatten ++ (rows.drop k).flatten := by rw [← List.flatten_append, List.take_append_drop]
  have l : (rows.take k).flatten.length = k * sz := by rw [flatten_cells (fun x hx => hs x (List.mem_of_mem_take hx)), List.length_take, Nat.min_eq_left hk]
  rw [e, ← l, List.take_left]
theorem drop_flatten {rows : List (List V)} {sz : Nat} (hs : ∀ x, x ∈ rows → x.length = sz) {k : Nat} (hk : k ≤ rows.length) : (rows.drop k).flatten = rows.flatten.drop (k * sz) := by
  have e : rows.flatten = (rows.take k).flatten ++ (rows.drop k).flatten := by rw [← List.flatten_append, List.take_append_drop]
  have l : (rows.take k).flatten.length = k * sz := by rw [flatten_cells (fun x hx => hs x (List.mem_of_mem_take hx)), List.length_take, Nat.min_eq_left hk]
  rw [e, ← l, List.drop_left]
theorem ex_copy (hT : TabOk P T) {c : Call} (ho : o.op = .call c) (hc : c.callee = .builtin .copy) (h : exec T s g o K) : ExOk P s g o K := by
  simp only [exec, ho, hc] at h
  split at h
  · rename_i x y t t' hargs htys
    have hargs : c.args = #[x, y] := by apply Array.ext'; simp [hargs]
    have htys : c.argTypes = #[t, t'] := by apply Array.ext'; simp [htys]
    have hxm : x ∈ o.op.operands := by rw [ho]; simp [Op.operands, Call.operands, hc, hargs]
    have hym : y ∈ o.op.operands := by rw [ho]; simp [Op.operands, Call.operands, hc, hargs]
    have run : ∀ (a : Act) (w : World), (execOp a.eval o).run P w = ((Builtin.copy_ #[t, t'] o.type #[a.eval x, a.eval y]).run P w).andThen fun v w => .ok (.value v) w := by
      intro a w
      simp [execOp, ho, resolve, hc, hargs, htys, invoke, builtin]
    split at h
    · rename_i e b sz row n hk hx
      split at h
      · rename_i fr ex ty sz' rows hb
        have hsh := rowsK_shape h
        obtain ⟨sz'', ys, rd, h', hrd0, hys⟩ := rowsK_out (P := P) (sz0 := 0) h; clear h; have h := h'; clear h'
        obtain ⟨h', ht⟩ := szK_out h; clear h; have h := h'; clear h'
        obtain ⟨⟨rfl, rfl, rfl⟩, hnr, h⟩ := h
        refine ⟨_, _, _, _, h, .cons (.inl hb) (fun b ob hm => .inl (hrd0 b ob hm)), fun _ => ⟨Nat.le_refl _, fun G N a w s' hs ha hr hn => ?_⟩, fun hg => absurd rfl hg⟩
        obtain ⟨_, _, d, _, _, _, _, _, h6, h7⟩ := hT.at (t := t) (by rw [hk]; simp)
        rw [hk, DescOk] at h7
        subst h7
        have hvx := ev_vr hs x (otm o hxm ha)
        rw [hx] at hvx
        obtain ⟨news, hX, hvn, hry⟩ := hys G s'.h s'.nx w _ hs.hr (fun b ob hb => hr b ob (by simp [hb])) (ev_vr hs y (otm o hym ha))
        have hb' : hget s'.h b = some (.arr fr ex ty (T e).size rows) := hr b _ (by simp)
        obtain ⟨hro, hown⟩ := hs.hr.own b (.arr fr ex ty (T e).size rows) hb'
        have same : HR G s'.h s'.nx w → HR G ((b, some (.arr fr ex ty (T e).size rows)) :: s'.h) (max s'.nx s.nx) w := fun hh =>
          (hh.congr (fun b' => by rw [hget_cons]; split <;> simp_all) (Nat.le_refl _)).more (Nat.le_max_left _ _)
        have hsl : ∃ A n c, a.eval y = .slice A n c := by
          have hvy := ev_vr hs y (otm o hym ha)
          generalize a.eval y = uy at hvy
          rcases hsh with ⟨_, _, _, e⟩ | ⟨_, _, _, _, e⟩ | e
          all_goals rw [e] at hvy; cases hvy <;> exact ⟨_, _, _, rfl⟩
        have hfc : ∀ k, k ≤ ys.length → (Builtin.firstCells (T e).size k (a.eval y)).run P w = .ok (news.take (k * (T e).size)).toArray w := fun k hk => firstCells_less hX hsl hk
        have hlen := hX.2.2.1
        generalize hux : a.eval x = ux at hvx
        have zero : min ys.length n = 0 → (ys.take n = []) := by
          intro h0
          apply List.eq_nil_of_length_eq_zero
          rw [List.length_take]; omega
        cases hvx with
        | oslz _ _ _ A =>
          refine ⟨_, w, G, .inl (by
            rw [run, hux]
            have h0 := hfc 0 (by omega)
            simp only [Nat.zero_mul, List.take_zero] at h0
            cases A <;> simp [Builtin.copy_, run_underlying h6, hlen, hT.sizeOf ht w, h0, storeCells, goInt]
            all_goals rfl), ?_, ?_, fun _ _ => rfl, EvoA.refl G w⟩
          · simp only [Nat.min_zero]; exact .int _ _
          · simp only [Nat.min_zero, List.take_zero, List.append_nil, Nat.add_zero, List.take_append_drop]
            simpa using same hs.hr
        | osl _ _ _ _ c2 cap m hcb hz he hncap hm =>
          rcases hown with ⟨h1, _⟩ | hown
          · rw [h1] at hcb; cases hcb
          obtain ⟨c3, cs, e1, hh, hln, hex, hfr, h6x⟩ := id hown
          rw [hcb] at e1; cases e1
          have hap := hs.hr.apart b _ c2 hb' hcb
          have hfl := flatten_cells hro
          let k := min ys.length n
          have hk1 : k ≤ ys.length := Nat.min_le_left _ _
          have hk2 : k ≤ n := Nat.min_le_right _ _
          have hnl : news.length = ys.length * (T e).size := by rw [← hvn.1, flatten_cells hry]
          have hlt : (news.take (k * (T e).size)).length = k * (T e).size := by
            rw [List.length_take, hnl]
            exact Nat.min_eq_left (Nat.mul_le_mul_right _ hk1)
          have hys' : (ys.take n) = ys.take k := by
            rcases Nat.le_total ys.length n with h1 | h1
            · rw [show k = ys.length by simp [k]; omega, List.take_length, List.take_of_length_le h1]
            · rw [show k = n by simp [k]; omega]
          have hryk : ∀ x ∈ ys.take k, x.length = (T e).size := fun x hx => hry x (List.mem_of_mem_take hx)
          have hvk : vrs G w (ys.take k).flatten (news.take (k * (T e).size)) := by
            have htk : (ys.take k).flatten = ys.flatten.take (k * (T e).size) := by
              have e0 : ys.flatten = (ys.take k).flatten ++ (ys.drop k).flatten := by rw [← List.flatten_append, List.take_append_drop]
              have l : (ys.take k).flatten.length = k * (T e).size := by rw [flatten_cells hryk, List.length_take, Nat.min_eq_left hk1]
              rw [e0, ← l, List.take_left]
            rw [htk]
            exact hvn.take _
          have h1k : ∀ u ∈ news.take (k * (T e).size), u.oneCell' = true := fun u hu => hX.2.1 u (List.mem_of_mem_take hu)
          have hmul : (row + k) * (T e).size ≤ rows.length * (T e).size := Nat.mul_le_mul_right _ (by omega)
          rw [Nat.add_mul] at hmul
          have hst := run_storeCells_at P c2 (row * (T e).size) ty (news.take (k * (T e).size)) 0 cs w hh (by omega) h1k
          rw [Nat.add_zero, hlt] at hst
          have hsz : (cs.toList.take (row * (T e).size) ++ news.take (k * (T e).size) ++ cs.toList.drop (row * (T e).size + k * (T e).size)).toArray.size = cs.size := by
            simp only [List.size_toArray, List.length_append, List.length_take, List.length_drop, Array.length_toList] at *
            omega
          have hok := hown.splice hcb hh hap (o := row * (T e).size) hvk h1k (by rw [hvk.1, hlt]; omega)
          rw [hvk.1, hlt] at hok
          have heq : (rows.take row ++ ys.take n ++ rows.drop (row + k)).flatten = rows.flatten.take (row * (T e).size) ++ (ys.take k).flatten ++ rows.flatten.drop (row * (T e).size + k * (T e).size) := by
            rw [hys', List.flatten_append, List.flatten_append, ← Nat.add_mul]
            rw [take_flatten hro (by omega), drop_flatten hro (by omega)]
          have hR := HR.setRow hs.hr hb' hcb hh hsz (.arr fr ex ty (T e).size (rows.take row ++ ys.take n ++ rows.drop (row + k))) ⟨fun x hx => by
              rcases List.mem_append.1 hx with hx | hx
              · rcases List.mem_append.1 hx with hx | hx
                · exact hro x (List.mem_of_mem_take hx)
                · exact hry x (List.mem_of_mem_take hx)
              · exact hro x (List.mem_of_mem_drop hx), .inr (by rw [heq]; exact hok)⟩
          refine ⟨_, _, G, .inl ?_, .int _ _, hR.more (Nat.le_max_left _ _), fun _ _ => rfl, EvoA.setRow hh hsz hap hcb⟩
          rw [run, hux]
          simp only [Builtin.copy_, hlen, Sem.run_bind, List.getElem?_toArray, List.getElem?_cons_zero, List.getElem?_cons_succ, run_underlying h6, Result.andThen_ok, hT.sizeOf ht w, hfc k hk1, show Nat.min ys.length n = k from rfl, hst, Sem.run_pure, goInt]
      · exact h.elim
    · exact h.elim
  · exact h.elim

theorem run_forIn_u8 {P : Program} {w : World} (f : Value → ByteArray → Sem (ForInStep ByteArray))
    (hf : ∀ (n : Int) (r : ByteArray), (f (.int .u8 n) r).run P w = .ok (.yield (r.push (UInt8.ofNat n.toNat))) w) :
    ∀ (us : List Value) (bs : List UInt8) (s : ByteArray), us = bs.map (fun b => Value.int .u8 b.toNat) → (forIn us s f).run P w = .ok ⟨s.data ++ bs.toArray⟩ w := by
  intro us bs
  induction bs generalizing us with
  | nil => intro s e; subst e; simp [Sem.run_pure]
  | cons n ns ih =>
    intro s e
    subst e
    simp only [List.map_cons, List.forIn_cons, Sem.run_bind, hf, Result.andThen]
    rw [ih _ _ rfl]
    simp [ByteArray.push]
theorem ex_convert (hT : TabOk P T) {t d : TypeId} {x : Operand} (ho : o.op = .convert t d x) (h : exec T s g o K) : ExOk P s g o K := by
  simp only [exec, ho] at h
  obtain ⟨v, h, hv⟩ := argK_out h
  split at h
  · rename_i k' n k hk
    obtain ⟨h, ht⟩ := szK_out h
    obtain ⟨i, z, dd, _, _, _, _, _, h6, h7⟩ := hT.at (t := d) (by rw [hk]; simp)
    obtain ⟨i', z', dd', _, _, _, _, _, h6', _⟩ := hT.at ht
    rw [hk, DescOk] at h7
    subst h7
    refine .of_pure (rd := []) h fun hg G N a w s' hs ha _ => ⟨_, ?_, .int _ _⟩
    have hx := VR.int_iff.1 (hv hg G w _ (ev_vr hs x (otm o (by simp [ho, Op.operands]) ha)))
    simp [execOp, ho, hx, convert, run_underlying h6, run_underlying h6', Conv.intToInt]
  · rename_i hd
    split at h
    · rename_i e hk
      split at h
      · rename_i hke
        obtain ⟨_, _, dt, _, _, _, _, _, h6, h7⟩ := hT.at (t := t) (by rw [hk]; simp)
        rw [hk, DescOk] at h7
        subst h7
        obtain ⟨_, _, de, _, _, _, _, _, h6e, h7e⟩ := hT.at (t := e) (by rw [hke]; simp)
        rw [hke, DescOk] at h7e
        subst h7e
        obtain ⟨_, _, dd, _, _, _, _, _, h6d, h7d⟩ := hT.at (t := d) (by rw [hd]; simp)
        rw [hd, DescOk] at h7d
        subst h7d
        split at h
        · refine .of_pure (rd := []) h fun hg G N a w s' hs ha _ => ⟨_, ?_, .str _⟩
          have hx := hv hg G w _ (ev_vr hs x (otm o (by simp [ho, Op.operands]) ha))
          generalize hux : a.eval x = ux at hx
          cases hx with
          | snil A =>
            have : (Conv.bytesToString (.slice A 0 0)).run P w = .ok (.string ByteArray.empty) w := by
              cases A with
              | none => rfl
              | some ad => simp [Conv.bytesToString, loadCells, loadCellsFrom]
            simp only [execOp, ho, hux, Sem.run_bind, run_convert_bytes_string w t d e A 0 0 h6 h6e h6d, this, Result.andThen_ok, Sem.run_pure]
        · have hsh := rowsK_shape h
          obtain ⟨sz, rows, rd, h', hrd0, hys⟩ := rowsK_out (P := P) (sz0 := 0) h; clear h; have h := h'; clear h'
          obtain ⟨rfl, b, hrows, hK⟩ := h
          refine .of_pure (rd := rd) hK (fun hg G N a w s' hs ha hr => ⟨_, ?_, .str _⟩) (fun b ob hm => .inl (hrd0 b ob hm))
          have hx := hv hg G w _ (ev_vr hs x (otm o (by simp [ho, Op.operands]) ha))
          obtain ⟨news, hX, hvn, _⟩ := hys G s'.h s'.nx w _ hs.hr hr hx
          obtain ⟨_, _, hlen, hfc, _⟩ := hX
          have hnews : news = b.data.toList.map (fun b => Value.int .u8 b.toNat) := by
            have hfl : rows.flatten = b.data.toList.map (fun x => V.int .u8 x.toNat) := by
              rw [hrows]
              induction b.data.toList with
              | nil => rfl
              | cons x l ih => simp [ih]
            rw [hfl] at hvn
            apply List.ext_getElem?
            intro j
            have hl := hvn.1
            simp at hl
            have hbs : b.data.size = b.size := rfl
            by_cases hj : j < b.data.size
            · have h1 : j < news.length := by omega
              have := hvn.2 j _ news[j] (List.getElem?_eq_getElem (by simpa using hj)) (List.getElem?_eq_getElem h1)
              rw [List.getElem?_eq_getElem h1, List.getElem?_eq_getElem (by simpa using hj)]
              simp only [List.getElem_map] at this ⊢
              rw [VR.int_iff.1 this]
            · rw [List.getElem?_eq_none (by omega), List.getElem?_eq_none (by simpa using hj)]
          have hslice : ∃ A len cap, a.eval x = .slice A len cap := by
            rcases hsh with ⟨_, _, _, rfl⟩ | ⟨_, _, _, _, rfl⟩ | rfl
            · generalize a.eval x = ux at hx
              cases hx; exact ⟨_, _, _, rfl⟩
            · generalize a.eval x = ux at hx
              cases hx
              · exact ⟨_, _, _, rfl⟩
              · exact ⟨_, _, _, rfl⟩
            · generalize a.eval x = ux at hx
              cases hx; exact ⟨_, _, _, rfl⟩
          generalize hux : a.eval x = ux at hx hlen hfc hslice
          obtain ⟨A, len, cap, rfl⟩ := hslice
          have hrun : (convert t d (.slice A len cap)).run P w = .ok (.string b) w := by
            have hl : len = rows.length := by simpa [Builtin.lenOf] using hlen
            rw [run_convert_bytes_string w t d e A len cap h6 h6e h6d]
            have hself : (⟨ByteArray.empty.data ++ b.data.toList.toArray⟩ : ByteArray) = b := by
              cases b with
              | mk dd => simp [show ByteArray.empty.data = #[] from rfl]
            cases A with
            | none =>
              simp only [Builtin.firstCells, Sem.run_pure, Result.ok.injEq, and_true] at hfc
              have : news = [] := by simpa using hfc.symm
              rw [this] at hnews
              have hb : b.data.toList = [] := by simpa using hnews.symm
              rw [hb] at hself
              rw [← hself]
              rfl
            | some ad =>
              simp only [Builtin.firstCells, Nat.mul_one, ← hl] at hfc
              unfold Conv.bytesToString
              simp only [Sem.run_bind, hfc, Result.andThen_ok, List.forIn_toArray]
              rw [run_forIn_u8 _ (by intro n r; simp [Sem.run_pure]) news b.data.toList ByteArray.empty hnews, hself]
              simp [Sem.run_pure]
          simp only [execOp, ho, hux, Sem.run_bind, hrun, Result.andThen_ok, Sem.run_pure]
      · exact h.elim
    · exact h.elim
  · exact h.elim

/-- WHAT THE EVALUATOR ASKS OF AN OPERATION, AND GETS, THE MACHINE DOES. -/
theorem exec_ok (hT : TabOk P T) (hs0 : ∃ G N a w, Sim G N s a w) (h : exec T s g o K) : ExOk P s g o K := by
  have h' := h
  unfold exec at h'
  split at h'
  · rename_i x ho; exact ex_move (.inl ho) h'
  · rename_i x ho; exact ex_move (.inr ho) h'
  · rename_i ho; exact ex_pick ho h
  · rename_i ho; exact ex_bin hT ho h
  · rename_i ho; exact ex_not ho h
  · rename_i ho; exact ex_convert hT ho h
  · rename_i ho; exact ex_extract ho h
  · rename_i ho; exact ex_nilCheck ho h
  · rename_i ho; exact ex_fieldAddr hT ho h
  · rename_i ho; exact ex_field hT ho h
  · rename_i ho; exact ex_indexAddr hT ho h
  · rename_i ho; exact ex_load hT ho h
  · rename_i ho; exact ex_store hT ho h
  · rename_i ho; exact ex_alloc hT ho h
  · rename_i ho; exact ex_box hT ho h
  · rename_i ho; exact ex_build hT ho h
  · rename_i ho; exact ex_buildSlice hT ho h
  · rename_i ho; exact ex_makeFunc ho h
  · rename_i ho; exact ex_makeInterface hT ho h
  · rename_i ho; exact ex_makeSlice hT ho h
  · rename_i ho; exact ex_slice hT ho h
  · rename_i c ho
    split at h'
    · rename_i hc; exact ex_len hT hs0 ho hc h
    · rename_i hc; exact ex_minmax (.inl rfl) ho hc h
    · rename_i hc; exact ex_minmax (.inr rfl) ho hc h
    · rename_i hc; exact ex_cap hT ho hc h
    · rename_i hc; exact ex_copy hT ho hc h
    · rename_i hc; exact ex_append hT ho hc h
    · exact h'.elim
  · exact h'.elim
theorem exec_ok' (hT : TabOk P T) (hl : ∀ c, o.op = .call c → c.callee ≠ .builtin .len) (h : exec T s g o K) : ExOk P s g o K := by
  have h' := h
  unfold exec at h'
  split at h'
  · rename_i x ho; exact ex_move (.inl ho) h'
  · rename_i x ho; exact ex_move (.inr ho) h'
  · rename_i ho; exact ex_pick ho h
  · rename_i ho; exact ex_bin hT ho h
  · rename_i ho; exact ex_not ho h
  · rename_i ho; exact ex_convert hT ho h
  · rename_i ho; exact ex_extract ho h
  · rename_i ho; exact ex_nilCheck ho h
  · rename_i ho; exact ex_fieldAddr hT ho h
  · rename_i ho; exact ex_field hT ho h
  · rename_i ho; exact ex_indexAddr hT ho h
  · rename_i ho; exact ex_load hT ho h
  · rename_i ho; exact ex_store hT ho h
  · rename_i ho; exact ex_alloc hT ho h
  · rename_i ho; exact ex_box hT ho h
  · rename_i ho; exact ex_build hT ho h
  · rename_i ho; exact ex_buildSlice hT ho h
  · rename_i ho; exact ex_makeFunc ho h
  · rename_i ho; exact ex_makeInterface hT ho h
  · rename_i ho; exact ex_makeSlice hT ho h
  · rename_i ho; exact ex_slice hT ho h
  · rename_i c ho
    split at h'
    · rename_i hc; exact absurd hc (hl c ho)
    · rename_i hc; exact ex_minmax (.inl rfl) ho hc h
    · rename_i hc; exact ex_minmax (.inr rfl) ho hc h
    · rename_i hc; exact ex_cap hT ho hc h
    · rename_i hc; exact ex_copy hT ho hc h
    · rename_i hc; exact ex_append hT ho hc h
    · exact h'.elim
  · exact h'.elim
end Go.Proofs.Ytcfkendgjinmiaa
