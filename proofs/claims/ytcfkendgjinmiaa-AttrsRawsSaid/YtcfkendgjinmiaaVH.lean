/- Literals of structs and slices. -/
import Derived.Test.YtcfkendgjinmiaaVG
set_option linter.unusedVariables false
set_option linter.unusedSimpArgs false
namespace Go.Proofs.Ytcfkendgjinmiaa
open Go.RowKit

variable {P : Program} {T : Tab} {s : St} {g : Option Bool} {o : Oper} {K : OK}

theorem fold_set (off : Nat) : ∀ (us : List Value) (k : Nat) (A : Array Value), off + k + us.length ≤ A.size →
    ((us.zipIdx k).foldl (fun cs (c, j) => cs.setIfInBounds (off + j) c) A).toList = A.toList.take (off + k) ++ us ++ A.toList.drop (off + k + us.length)
  | [], k, A, _ => by simp
  | u :: us, k, A, h => by
    have h' : off + k + (us.length + 1) ≤ A.size := by simpa using h
    rw [List.zipIdx_cons, List.foldl_cons, fold_set off us (k + 1) _ (by simp; omega)]
    rw [Array.toList_setIfInBounds, show off + (k + 1) = off + k + 1 by omega]
    have := list_seg_step A.toList (off + k) u us (by simp; omega)
    rw [this]
    simp [Nat.add_assoc]
theorem fill_cons {place : Nat → Option (Nat × Nat)} {cells : Array Value} {i off size : Nat} {v : Value} {rest : List (Nat × Value)} (hp : place i = some (off, size)) (hs : v.cells.size = size) (hl : off + v.cells.size ≤ cells.size) :
    ∃ cells', Instr.fill place cells ((i, v) :: rest) = Instr.fill place cells' rest ∧ cells'.toList = cells.toList.take off ++ v.cells.toList ++ cells.toList.drop (off + v.cells.toList.length) := by
  refine ⟨_, ?_, fold_set off v.cells.toList 0 cells (by simpa using hl)⟩
  have hl' : ¬ (off + v.cells.size > cells.size) := by omega
  simp only [Instr.fill, hp, hs, ne_eq, not_true_eq_false, decide_false, Bool.false_or, decide_eq_true_eq]
  rw [hs] at hl'
  rw [if_neg hl']
  congr 1
  rw [← Array.foldl_toList]
  simp

theorem vrs.splice {G : Gh} {w : World} {vs ns : List V} {us ms : List Value} (h : vrs G w vs us) (h' : vrs G w ns ms) (o : Nat) : vrs G w (vs.take o ++ ns ++ vs.drop (o + ns.length)) (us.take o ++ ms ++ us.drop (o + ms.length)) := by
  rw [← h'.1]
  exact ((h.take o).append h').append (h.drop _)

theorem fillK_out {fs : List (Nat × Nat)} : ∀ {parts : List (Nat × Operand)} {cs : List V} {K : List V → Prop}, fillK fs T cs s g parts K → ∃ cs', K cs' ∧ cs'.length = cs.length ∧
    ((g = none ∨ g = some true) → ∀ (G : Gh) (N : Nat) (a : Act) (w : World) (s' : St), Sim G N s' a w → (∀ p ∈ parts, ∀ i, p.2 = .tmp i → s'.get i = s.get i) →
      ∀ (cells : Array Value), vrs G w cs cells.toList → ∃ cells', Instr.fill (fun i => (fs.map fun (f : Nat × Nat) => (f.1, (T f.2).size))[i]?) cells (parts.map fun (p : Nat × Operand) => (p.1, a.eval p.2)) = some cells' ∧ vrs G w cs' cells'.toList)
  | [], cs, K, h => ⟨cs, h, rfl, fun _ G N a w s' hs _ cells hc => ⟨cells, rfl, hc⟩⟩
  | (i, x) :: r, cs, K, h => by
    unfold fillK at h
    split at h
    · rename_i hi
      have hi : i < fs.length := by simpa [Nat.blt_eq] using hi
      obtain ⟨v, h', hv⟩ := argK_out h; clear h; have h := h'; clear h'
      obtain ⟨vs, h', hl, h1, hcs⟩ := cellsK_out h; clear h; have h := h'; clear h'
      obtain ⟨hle, h'⟩ := putK_out h; clear h; have h := h'; clear h'
      obtain ⟨cs', hK, hlen, hrest⟩ := fillK_out h
      refine ⟨cs', hK, by rw [hlen]; simp; omega, fun hg G N a w s' hs ha cells hc => ?_⟩
      have hx := hcs G w _ (hv hg G w _ (ev_vr hs x (ha (i, x) (by simp))))
      have hp : (fs.map fun (f : Nat × Nat) => (f.1, (T f.2).size))[i]? = some ((nth (0, 0) fs i).1, (T (nth (0, 0) fs i).2).size) := by
        rw [List.getElem?_map, nth_getElem? (0, 0) fs i hi]; rfl
      have hsz : (a.eval x).cells.size = (T (nth (0, 0) fs i).2).size := by have := hx.1; rw [hl] at this; simpa using this.symm
      have hcl := hc.1
      obtain ⟨cells', hf, hc'⟩ := fill_cons (rest := r.map fun (p : Nat × Operand) => (p.1, a.eval p.2)) (place := fun i => (fs.map fun (f : Nat × Nat) => (f.1, (T f.2).size))[i]?) (cells := cells) (i := i) (v := a.eval x) hp hsz (by simp at hcl; omega)
      obtain ⟨c2, hf2, hc2⟩ := hrest hg G N a w s' hs (fun p hp => ha p (by simp [hp])) cells' (by rw [hc']; exact hc.splice hx _)
      exact ⟨c2, by simp only [List.map_cons]; rw [hf, hf2], hc2⟩
    · exact h.elim

theorem knownAll_out : ∀ {fs : List (Nat × Nat)}, knownAll T fs = true → ∀ f ∈ fs, (T f.2).k ≠ .other
  | [], _, f, hf => by simp at hf
  | (o, t) :: r, h, f, hf => by
    unfold knownAll at h
    split at h
    · rename_i hk
      rcases List.mem_cons.1 hf with rfl | hf
      · intro e; simp only at e; rw [e] at hk; simp [known] at hk
      · exact knownAll_out h f hf
    · cases h

theorem ex_build (hT : TabOk P T) {t : TypeId} {parts : Array (Nat × Operand)} (ho : o.op = .build t parts) (h : exec T s g o K) : ExOk P s g o K := by
  simp only [exec, ho] at h
  split at h
  · rename_i fs hk
    split at h
    · rename_i hka
      obtain ⟨cs, h', hl, h1, hv⟩ := constsK_out h; clear h; have h := h'; clear h'
      obtain ⟨cs', hK, hlen, hf⟩ := fillK_out h
      refine .of_pure (rd := []) hK fun hg G N a w s' hs ha _ => ?_
      obtain ⟨i, z, d, q1, q2, _, q4, q5, q6, q7⟩ := hT.at (t := t) (by rw [hk]; simp)
      rw [hk, DescOk] at q7
      obtain ⟨fields, rfl, hfs⟩ := q7
      obtain ⟨cells', hfill, hc⟩ := hf hg G N a w s' hs (fun p hp => otm o (by
        rw [ho]; simp only [Op.operands, List.mem_toArray, List.mem_map]; exact ⟨p, hp, rfl⟩) ha) z.cells (by rw [q5]; exact hv G w)
      have hmap : fields.toList.mapM (fun f => (P.info? f.type).map fun i => (f.offset, i.size)) = some (fs.map fun (f : Nat × Nat) => (f.1, (T f.2).size)) := by
        have hall : ∀ f ∈ fields.toList, (P.info? f.type).map (fun i => (f.offset, i.size)) = some (f.offset, (T f.type).size) := by
          intro f hf
          have hm : (f.offset, f.type) ∈ fs := by rw [← hfs]; exact List.mem_map.2 ⟨f, hf, rfl⟩
          obtain ⟨i', z', d', r1, r2, _⟩ := hT.at (t := f.type) (knownAll_out hka _ hm)
          rw [r1, Option.map_some, r2]
        rw [← hfs, List.map_map]
        clear hfs hfill hf hK q6
        generalize fields.toList = l at hall
        induction l with
        | nil => rfl
        | cons f l ih =>
          rw [List.mapM_cons, hall f (by simp), ih (fun f hf => hall f (by simp [hf]))]
          rfl
      have hb : P.built t (parts.map fun (i, x) => (i, a.eval x)).toList = some cells' := by
        unfold Program.built
        simp only [q1, q6, q4, hmap]
        simpa using hfill
      refine ⟨.agg cells', by simp only [execOp, ho, Sem.run_bind, run_build w t _ cells' hb, Result.andThen_ok, Sem.run_pure], ?_⟩
      have : (V.agg cs') = V.agg cs' := rfl
      have hvr : vr G w (.agg cs') (.agg cells'.toList.toArray) := .agg cs' cells'.toList hc.1 hc.2
      simpa using hvr
    · exact h.elim
  · exact h.elim

/-! ### Slices -/
theorem setRow_eq : ∀ {rows : List (List V)} {i : Nat} {r : List V}, setRow rows i r = rows.set i r
  | [], i, r => by simp [setRow]
  | x :: rows, 0, r => by simp [setRow]
  | x :: rows, i + 1, r => by simp [setRow, setRow_eq (rows := rows)]
theorem rep_eq {α : Type} (x : α) : ∀ n, rep x n = List.replicate n x
  | 0 => rfl
  | n + 1 => by simp [rep, List.replicate_succ, rep_eq x n]

theorem fillRowsK_out {sz : Nat} : ∀ {parts : List (Nat × Operand)} {rows : List (List V)} {K : List (List V) → Prop}, (∀ x ∈ rows, x.length = sz) → (∀ x ∈ rows, ∀ v ∈ x, v.one = true) → fillRowsK sz rows s g parts K → ∃ rows', K rows' ∧ rows'.length = rows.length ∧ (∀ x ∈ rows', x.length = sz) ∧ (∀ x ∈ rows', ∀ v ∈ x, v.one = true) ∧
    ((g = none ∨ g = some true) → ∀ (G : Gh) (N : Nat) (a : Act) (w : World) (s' : St), Sim G N s' a w → (∀ p ∈ parts, ∀ i, p.2 = .tmp i → s'.get i = s.get i) →
      ∀ (cells : Array Value), vrs G w rows.flatten cells.toList → ∃ cells', Instr.fill (fun i => some (i * sz, sz)) cells (parts.map fun (p : Nat × Operand) => (p.1, a.eval p.2)) = some cells' ∧ vrs G w rows'.flatten cells'.toList)
  | [], rows, K, hr, ho, h => ⟨rows, by rw [fillRowsK, forceR_eq] at h; exact h, rfl, hr, ho, fun _ G N a w s' hs _ cells hc => ⟨cells, rfl, hc⟩⟩
  | (i, x) :: r, rows, K, hr, ho, h => by
    unfold fillRowsK at h
    split at h
    case h_2 => exact h.elim
    rename_i hi
    obtain ⟨v, h', hv⟩ := argK_out h; clear h; have h := h'; clear h'
    obtain ⟨vs, h', hl, h1, hcs⟩ := cellsK_out h; clear h; have h := h'; clear h'
    rw [setRow_eq] at h
    have hr' : ∀ y ∈ rows.set i vs, y.length = sz := by
      intro y hy
      rcases List.mem_or_eq_of_mem_set hy with hy | rfl
      · exact hr y hy
      · exact hl
    have ho' : ∀ y ∈ rows.set i vs, ∀ v ∈ y, v.one = true := by
      intro y hy
      rcases List.mem_or_eq_of_mem_set hy with hy | rfl
      · exact ho y hy
      · exact h1
    obtain ⟨rows', hK, hlen, hrow, hone, hrest⟩ := fillRowsK_out hr' ho' h
    refine ⟨rows', hK, by rw [hlen]; simp, hrow, hone, fun hg G N a w s' hs ha cells hc => ?_⟩
    have hx := hcs G w _ (hv hg G w _ (ev_vr hs x (ha (i, x) (by simp))))
    have hsz : (a.eval x).cells.size = sz := by have := hx.1; rw [hl] at this; simpa using this.symm
    have hlt : i < rows.length := by simpa [Nat.blt_eq] using hi
    have hmul : (i + 1) * sz ≤ rows.length * sz := Nat.mul_le_mul_right _ hlt
    rw [Nat.succ_mul] at hmul
    have hfl := flatten_cells hr
    have hcl : rows.flatten.length = cells.size := by have := hc.1; rwa [Array.length_toList] at this
    obtain ⟨cells', hf, hc'⟩ := fill_cons (rest := r.map fun (p : Nat × Operand) => (p.1, a.eval p.2)) (place := fun i => some (i * sz, sz)) (cells := cells) (i := i) (v := a.eval x) rfl hsz (by omega)
    obtain ⟨c2, hf2, hc2⟩ := hrest hg G N a w s' hs (fun p hp => ha p (by simp [hp])) cells' (by
      rw [hc', flatten_set hr (List.getElem?_eq_getElem hlt) hl]
      have := hc.splice hx (i * sz)
      rwa [hl] at this)
    exact ⟨c2, by simp only [List.map_cons]; rw [hf, hf2], hc2⟩

theorem made_flatten (cs : List V) (z : Array Value) (G : Gh) (w : World) (h : vrs G w cs z.toList) (hz : 0 < cs.length) : ∀ n, vrs G w (List.replicate n cs).flatten ((Array.range (n * cs.length)).map (z[· % z.size]!)).toList := by
  intro n
  have hsz : z.size = cs.length := by have := h.1; simpa using this.symm
  have hfl : (List.replicate n cs).flatten.length = n * cs.length := by
    rw [flatten_cells (sz := cs.length) (fun x hx => by rw [List.eq_of_mem_replicate hx])]; simp
  refine ⟨by rw [hfl]; simp, fun j v u h1 h2 => ?_⟩
  have hj : j < n * cs.length := by rw [← hfl]; exact (List.getElem?_eq_some_iff.1 h1).1
  have hmod : j % cs.length < cs.length := Nat.mod_lt _ hz
  have hdiv : j / cs.length < n := by rw [Nat.div_lt_iff_lt_mul hz]; exact hj
  have h3 := flatten_row (rows := List.replicate n cs) (sz := cs.length) (row := j / cs.length) (r := cs) (fun x hx => by rw [List.eq_of_mem_replicate hx]) (by simp [List.getElem?_replicate, hdiv]) (j % cs.length) cs[j % cs.length] (List.getElem?_eq_getElem hmod)
  rw [Nat.mul_comm, Nat.div_add_mod] at h3
  rw [h3] at h1
  simp only [Option.some.injEq] at h1
  subst h1
  have hu : u = z[j % z.size]! := by
    have : j < (Array.range (n * cs.length)).size := by simpa using hj
    simp [hj] at h2
    exact h2.symm
  have hlt : j % z.size < z.toList.length := by simp; exact Nat.mod_lt _ (by omega)
  refine h.2 _ _ _ (List.getElem?_eq_getElem hmod) ?_
  rw [hu, ← hsz, List.getElem?_eq_getElem hlt]
  simp [getElem!_pos, show j % z.size < z.size by simpa using hlt]

theorem HR.more {G : Gh} {hp : Heap} {n n' : Nat} {w : World} (h : HR G hp n w) (hn : n ≤ n') : HR G hp n' w :=
  ⟨h.amb_lt, h.B_le, fun b hb => h.dom b (by omega), h.own, h.inj, h.apart, h.lt, fun b blk hb => by have := h.hdom b blk hb; omega⟩

theorem ex_buildSlice (hT : TabOk P T) {t : TypeId} {len : Nat} {parts : Array (Nat × Operand)} (ho : o.op = .buildSlice t len parts) (h : exec T s g o K) : ExOk P s g o K := by
  simp only [exec, ho] at h
  split at h
  · exact h.elim
  split at h
  · rename_i e hk
    obtain ⟨h', ht⟩ := szK_out h; clear h; have h := h'; clear h'
    obtain ⟨cs, h', hl, h1, hv⟩ := constsK_out h; clear h; have h := h'; clear h'
    split at h
    · rename_i hlen hsm hpos
      rw [forceN_eq] at h
      have hlen := lenIs_eq hlen
      have hpos : 0 < (T e).size := by simpa [Nat.blt_eq] using hpos
      have hsm : len * (T e).size ≤ 1000 := by simpa using hsm
      rw [rep_eq] at h
      obtain ⟨rows', hK, hrl, hrow, hone, hf⟩ := fillRowsK_out (fun x hx => by rw [List.eq_of_mem_replicate hx, hlen]) (fun x hx => by rw [List.eq_of_mem_replicate hx]; exact h1) h
      refine ⟨_, _, _, _, hK, RdOk.new (.nil _), fun _ => ⟨by omega, fun G N a w s' hs ha hr hn => ?_⟩, fun hg => absurd rfl hg⟩
      obtain ⟨_, _, d, _, _, _, _, _, h6, h7⟩ := hT.at (t := t) (by rw [hk]; simp)
      rw [hk, DescOk] at h7
      subst h7
      obtain ⟨i, z, d, q1, q2, _, q4, q5, _, _⟩ := hT.at ht
      have hi := hn s.nx (Nat.le_refl _) (by omega)
      have hzv : vrs G w cs z.cells.toList := by rw [q5]; exact hv G w
      have hmade := made_flatten cs z.cells G w hzv (by omega) len
      obtain ⟨cells', hfill, hc⟩ := hf (.inl rfl) G N a w s' hs (fun p hp => otm o (by
        rw [ho]; simp only [Op.operands, List.mem_toArray, List.mem_map]; exact ⟨p, hp, rfl⟩) ha) _ hmade
      have hrun : (Instr.buildSlice t len (parts.map fun (i, x) => (i, a.eval x))).run P w = .ok (.slice (some ⟨w.heap.size, 0, none⟩) len len) (w.alloc (.cells cells' e)) := by
        rw [hlen] at hfill
        have hs24 : ¬ (16777216 < len * (T e).size) := by omega
        have hfill' : Instr.fill (fun i => some (i * (T e).size, (T e).size)) ((Array.range (len * (T e).size)).map (z.cells[· % z.cells.size]!)) (parts.map fun (p : Nat × Operand) => (p.1, a.eval p.2)).toList = some cells' := by
          rw [Array.toList_map]; exact hfill
        by_cases h0 : len = 0
        · subst h0
          have z0 : 0 * (T e).size = 0 := Nat.zero_mul _
          have r0 : Array.range 0 = #[] := by apply Array.ext'; simp
          simp only [z0, r0, List.map_toArray, List.map_nil, Array.toList_map] at hfill' hs24
          simp [Instr.buildSlice, run_underlying h6, hT.sizeOf ht, r0, hfill', newRow, hs24]
        · have hne : ¬ len * (T e).size = 0 := by
            have := Nat.mul_pos (Nat.pos_of_ne_zero h0) hpos
            omega
          have hz0 : (zeroValue e).run P w = .ok z w := by simp [zeroValue, typeInfo, q1, q4]
          simp only [Instr.buildSlice, Sem.run_bind, run_underlying h6, Result.andThen_ok, hT.sizeOf ht, hne, if_false, hz0, Sem.run_pure, gt_iff_lt, show (2 : Nat) ^ 24 = 16777216 from rfl, hs24, hfill', newRow, run_newObj]
          rfl
      have hrl' : rows'.length = len := by rw [hrl]; simp
      have hok := holds_new hs.hr s.nx hi e rows'.flatten cells' hc (hc.one (fun v hv => by obtain ⟨x, hx, hv⟩ := List.mem_flatten.1 hv; exact hone x hx v hv))
      have hcs : cells'.size = len * (T e).size := by
        have := hc.1
        rw [flatten_cells hrow, hrl', Array.length_toList] at this
        exact this.symm
      refine ⟨.slice (some ⟨w.heap.size, 0, none⟩) len len, w.alloc (.cells cells' e), G.with s.nx (some w.heap.size), .inl ?_, ?_, HR.alloc hs.hr _ _ hi (.arr true true e (T e).size rows') ⟨hrow, .inr hok⟩, fun b hb => Gh.with_other _ (by omega) _, EvoA.alloc hs.hr _ _ hi⟩
      · simp only [execOp, ho, Sem.run_bind, hrun, Result.andThen_ok, Sem.run_pure]
      · have hle : len ≤ maxLen := by
          have : len * 1 ≤ len * (T e).size := Nat.mul_le_mul_left _ hpos
          unfold maxLen; omega
        have := VR.osl (ι := (G.with s.nx (some w.heap.size)).ι) (csz := csz (w.alloc (.cells cells' e))) (imm := imm (G.with s.nx (some w.heap.size)) (w.alloc (.cells cells' e))) s.nx (T e).size 0 len w.heap.size len (len * (T e).size) (Gh.with_self _ _ _) (by
          have : (w.alloc (.cells cells' e)).heap[w.heap.size]? = some (.cells cells' e) := by show (w.heap.push _)[w.heap.size]? = _; simp
          unfold csz; rw [this]; exact congrArg some hcs) (by rw [Nat.zero_add]) (Nat.le_refl _) hle
        rwa [Nat.zero_mul] at this
    · exact h.elim
  · exact h.elim
end Go.Proofs.Ytcfkendgjinmiaa
