/- make and append. -/
import Derived.Test.YtcfkendgjinmiaaVH
set_option linter.unusedVariables false
set_option linter.unusedSimpArgs false
namespace Go.Proofs.Ytcfkendgjinmiaa
open Go.RowKit

variable {P : Program} {T : Tab} {s : St} {g : Option Bool} {o : Oper} {K : OK}

theorem csz_new (w : World) (us : Array Value) (e : TypeId) : csz (w.alloc (.cells us e)) w.heap.size = some us.size := by
  have : (w.alloc (.cells us e)).heap[w.heap.size]? = some (.cells us e) := by show (w.heap.push _)[w.heap.size]? = _; simp
  unfold csz; rw [this]

theorem ex_makeSlice (hT : TabOk P T) {t : TypeId} {l c : Operand} (ho : o.op = .makeSlice t l c) (h : exec T s g o K) : ExOk P s g o K := by
  simp only [exec, ho] at h
  split at h
  · exact h.elim
  split at h
  · rename_i e li ci hk hl hc
    obtain ⟨h', ht⟩ := szK_out h; clear h; have h := h'; clear h'
    obtain ⟨cs, h', hln, h1, hv⟩ := constsK_out h; clear h; have h := h'; clear h'
    split at h
    · rename_i hlen hpos
      rw [forceN_eq] at h
      have hlen := lenIs_eq hlen
      have hpos : 0 < (T e).size := by simpa [Nat.blt_eq] using hpos
      obtain ⟨⟨h0, hlc, hby, hc47⟩, h⟩ := h
      refine ⟨_, _, _, _, h, RdOk.new (.nil _), fun _ => ⟨by omega, fun G N a w s' hs ha hr hn => ?_⟩, fun hg => absurd rfl hg⟩
      obtain ⟨_, _, d, _, _, _, _, _, h6, h7⟩ := hT.at (t := t) (by rw [hk]; simp)
      rw [hk, DescOk] at h7
      subst h7
      obtain ⟨i, z, d, q1, q2, q3, q4, q5, _, _⟩ := hT.at ht
      have hi := hn s.nx (Nat.le_refl _) (by omega)
      have hvl := ev_vr hs l (otm o (by simp [ho, Op.operands]) ha)
      have hvc := ev_vr hs c (otm o (by simp [ho, Op.operands]) ha)
      rw [hl] at hvl; rw [hc] at hvc
      have hvl := VR.int_iff.1 hvl
      have hvc := VR.int_iff.1 hvc
      have hrun := run_make (P := P) w t e i z h6 q1 q4 .i64 .i64 li ci h0 hlc (by rw [q3]; omega) (by omega)
      have hzv : vrs G w cs z.cells.toList := by rw [q5]; exact hv G w
      have hmade := made_flatten cs z.cells G w hzv (by omega) ci.toNat
      rw [hlen, ← q2] at hmade
      have hrow : ∀ x, x ∈ List.replicate ci.toNat cs → x.length = (T e).size := fun x hx => by rw [List.eq_of_mem_replicate hx, hlen]
      have hok := holds_new hs.hr s.nx hi e (List.replicate ci.toNat cs).flatten (madeCells z.cells (ci.toNat * i.size)) hmade (hmade.one (fun v hv => by
        obtain ⟨x, hx, hv⟩ := List.mem_flatten.1 hv
        rw [List.eq_of_mem_replicate hx] at hv
        exact h1 v hv))
      refine ⟨_, _, G.with s.nx (some w.heap.size), .inl (by simp only [execOp, ho, hvl, hvc, Sem.run_bind, hrun, Result.andThen_ok, Sem.run_pure]; rfl), ?_, HR.alloc hs.hr _ _ hi (.arr true true e (T e).size (List.replicate ci.toNat cs)) ⟨hrow, .inr hok⟩, fun b hb => Gh.with_other _ (by omega) _, EvoA.alloc hs.hr _ _ hi⟩
      have hle : ci.toNat ≤ maxLen := by unfold maxLen; omega
      have := VR.osl (ι := (G.with s.nx (some w.heap.size)).ι) (csz := csz (w.alloc (.cells (madeCells z.cells (ci.toNat * i.size)) e))) (imm := imm (G.with s.nx (some w.heap.size)) (w.alloc (.cells (madeCells z.cells (ci.toNat * i.size)) e))) s.nx (T e).size 0 li.toNat w.heap.size ci.toNat (ci.toNat * (T e).size) (Gh.with_self _ _ _) (by
        rw [csz_new, size_madeCells, q2]) (by rw [Nat.zero_add]) (by omega) hle
      rwa [Nat.zero_mul] at this
    · exact h.elim
  · exact h.elim

/-- What an appended operand holds. -/
def Xs (P : Program) (size : Nat) (w : World) (x : Value) (m : Nat) (news : List Value) : Prop :=
  news.length = m * size ∧ (∀ u ∈ news, u.oneCell' = true) ∧ (Builtin.lenOf x).run P w = .ok m w ∧ (Builtin.firstCells size m x).run P w = .ok news.toArray w ∧ (Builtin.firstCells size m x).run P w.drew = .ok news.toArray w.drew

theorem rowsK_out {sz0 : Nat} {h : Heap} {v : V} {K : Nat → List (List V) → Heap → Prop} (hK : rowsK h v K) : ∃ sz ys rd, K sz ys rd ∧ (∀ b ob, (b, ob) ∈ rd → hget h b = ob) ∧
    ∀ (G : Gh) (hp : Heap) (n : Nat) (w : World) (u : Value), HR G hp n w → (∀ b ob, (b, ob) ∈ rd → hget hp b = ob) → vr G w v u → ∃ news, Xs P sz w u ys.length news ∧ vrs G w ys.flatten news ∧ ∀ x ∈ ys, x.length = sz := by
  unfold rowsK at hK
  split at hK
  · rename_i fr sz xs
    refine ⟨sz, xs, [], hK, by simp, fun G hp n w u hr _ hv => ?_⟩
    cases hv with
    | sl _ _ _ A cap us hcap hm hA hrow hc hval =>
      have hlen := flatten_cells hrow
      refine ⟨(List.range (xs.length * sz)).map us, ⟨by simp, ?_, rfl, ?_⟩, ⟨by rw [hlen]; simp, ?_⟩, hrow⟩
      · intro u hu
        obtain ⟨j, hj, rfl⟩ := List.mem_map.1 hu
        have hj : j < xs.flatten.length := by rw [hlen]; simpa using hj
        obtain ⟨ad, rfl, _⟩ := hA (by intro e; subst e; simp at hj)
        exact (hc j _ (List.getElem?_eq_getElem hj) ad rfl).2.2.2
      · have key : ∀ W : World, W.heap = w.heap → (Builtin.firstCells sz xs.length (.slice A xs.length cap)).run P W = .ok ((List.range (xs.length * sz)).map us).toArray W := by
          intro W hW
          rcases A with _ | ad
          · have h0 : xs = [] := by
              rcases xs with _ | ⟨x, xs⟩
              · rfl
              · obtain ⟨_, h, _⟩ := hA (by simp); cases h
            subst h0
            simp [Builtin.firstCells]
          · by_cases h0 : xs = []
            · subst h0; simp [Builtin.firstCells, loadCells, loadCellsFrom]
            · obtain ⟨ad', h, hsp⟩ := hA h0
              cases h
              refine run_firstCells_some W sz xs.length ad _ _ _ (by simp) fun j v hj => ?_
              have hjl : j < xs.length * sz := by simpa using (List.getElem?_eq_some_iff.1 hj).1
              have hj' : j < xs.flatten.length := by rw [hlen]; exact hjl
              have := (hc j _ (List.getElem?_eq_getElem hj') ad rfl).1
              rw [add_none hsp]
              simp [hjl] at hj
              subst hj
              rw [← this]
              simp [World.cell?, hW]
        exact ⟨key w rfl, key w.drew rfl⟩
      · intro j v u hv hu
        have hj := (List.getElem?_eq_some_iff.1 hv).1
        rw [hlen] at hj
        simp [hj] at hu
        subst hu
        exact hval j v hv
  · rename_i b sz row n
    split at hK
    · rename_i fr ex ty sz' rows hb
      obtain ⟨rfl, hn, hK⟩ := hK
      refine ⟨_, _, _, hK, by rintro b' ob' hm; simp only [List.mem_singleton, Prod.mk.injEq] at hm; obtain ⟨rfl, rfl⟩ := hm; exact hb, fun G hp n' w u hr hrd hv => ?_⟩
      have hb' : hget hp b = some (.arr fr ex ty sz' rows) := hrd b _ (by simp)
      obtain ⟨hsz, hown⟩ := hr.own b (.arr fr ex ty sz' rows) hb'
      have hrow : ∀ x ∈ (rows.drop row).take n, x.length = sz' := fun x hx => hsz x (List.mem_of_mem_drop (List.mem_of_mem_take hx))
      have hlen := flatten_cells hrow
      have hl : ((rows.drop row).take n).length = n := by simp at hn ⊢; omega
      rw [hl] at hlen ⊢
      have zero : n = 0 → ∀ A cap, ∃ news, Xs P sz' w (.slice A n cap) n news ∧ vrs G w ((rows.drop row).take n).flatten news ∧ ∀ x ∈ (rows.drop row).take n, x.length = sz' := by
        rintro rfl A cap
        refine ⟨[], ⟨by simp, by simp, rfl, ?_⟩, ⟨by simp, by simp⟩, hrow⟩
        cases A <;> simp [Builtin.firstCells, loadCells, loadCellsFrom]
      cases hv with
      | oslz => exact zero rfl _ _
      | osl _ _ _ _ c cap m hc hz he hn' hm =>
        rcases hown with ⟨h1, _⟩ | hown
        · rw [h1] at hc; cases hc
        by_cases hn0 : n = 0
        · exact zero hn0 _ _
        have hrn : row + n ≤ rows.length := by simp at hn; omega
        have hrd := (hown.reads hc).sub (o := row * sz') (ws := ((rows.drop row).take n).flatten) fun j v hj => by
          have e := List.take_drop (l := rows) (i := n) (j := row)
          rw [e] at hj
          exact take_drop_flatten hsz row (row + n) hrn (by simpa [Nat.add_comm] using hj)
        obtain ⟨_, us, hus⟩ := hrd
        have hone : ∀ j, j < n * sz' → (us j).oneCell' = true := by
          intro j hj
          obtain ⟨c2, cs, e1, hh, _, _, _, h6⟩ := id hown
          rw [hc] at e1; cases e1
          have hjl : j < ((rows.drop row).take n).flatten.length := by rw [hlen]; exact hj
          have h3 := (hus j _ (List.getElem?_eq_getElem hjl)).1
          have e := List.take_drop (l := rows) (i := n) (j := row)
          have h4 := take_drop_flatten (j := j) (v := ((rows.drop row).take n).flatten[j]) hsz row (row + n) hrn (by rw [Nat.add_comm row n] at e ⊢; simp only [← e]; exact List.getElem?_eq_getElem hjl)
          obtain ⟨u, hu, h1, _⟩ := h6 _ _ h4
          simp [World.cell?, hh, hu] at h3
          rw [← h3]; exact h1
        refine ⟨(List.range (n * sz')).map us, ⟨by simp, ?_, rfl, ?_⟩, ⟨by rw [hlen]; simp, ?_⟩, hrow⟩
        · intro u hu
          obtain ⟨j, hj, rfl⟩ := List.mem_map.1 hu
          exact hone j (by simpa using hj)
        · have key : ∀ W : World, W.heap = w.heap → (Builtin.firstCells sz' n (.slice (some ⟨c, row * sz', none⟩) n cap)).run P W = .ok ((List.range (n * sz')).map us).toArray W := by
            intro W hW
            refine run_firstCells_some W sz' n _ _ _ _ (by simp) fun j v hj => ?_
            have hjl : j < n * sz' := by simpa using (List.getElem?_eq_some_iff.1 hj).1
            have hj' : j < ((rows.drop row).take n).flatten.length := by rw [hlen]; exact hjl
            have := (hus j _ (List.getElem?_eq_getElem hj')).1
            rw [add_none rfl]
            simp [hjl] at hj
            subst hj
            rw [← this]
            simp [World.cell?, hW]
          exact ⟨key w rfl, key w.drew rfl⟩
        · intro j v u hv hu
          have hj := (List.getElem?_eq_some_iff.1 hv).1
          rw [hlen] at hj
          simp [hj] at hu
          subst hu
          exact (hus j v hv).2
    · exact hK.elim
  · obtain ⟨z, hK⟩ := hK
    refine ⟨z, [], [], hK, by simp, fun G hp n w u hr _ hv => ?_⟩
    cases hv with
    | snil A => exact ⟨[], ⟨by simp, by simp, rfl, by cases A <;> simp [Builtin.firstCells, loadCells, loadCellsFrom], by cases A <;> simp [Builtin.firstCells, loadCells, loadCellsFrom]⟩, ⟨by simp, by simp⟩, by simp⟩
  · exact hK.elim

/-- An append for which there is room. -/
theorem append_room {w : World} {t t' ty e : TypeId} {d' : TypeDesc} (ht : P.underlying t = some (.slice e)) (ht' : P.underlying t' = some d') (hd' : ∀ k, d' ≠ .int k) {size : Nat} (hs : (sizeOf e).run P w = .ok size w)
    {A : Option Addr} {n cap m : Nat} {x : Value} {news : List Value} (hx : Xs P size w x m news) (hroom : n + m ≤ cap)
    {w' : World} (hst : ∀ ad, A = some ad → (storeCells (ad.add (n * size)) news).run P w = .ok () w') (hnone : A = none → w' = w) :
    (Builtin.append_ #[t, t'] ty #[.slice A n cap, x]).run P w = .ok (.slice A (n + m) cap) w' := by
  obtain ⟨h1, h2, h3, h4, h5⟩ := hx
  have hz : (match d' with | .int _ => true | _ => false) = false := by
    cases d' <;> first | rfl | exact absurd rfl (hd' _)
  rcases A with _ | ad
  · have := hnone rfl
    subst this
    simp [Builtin.append_, run_underlying ht, run_underlying ht', hs, h3, hz, hroom, h4]
  · simp [Builtin.append_, run_underlying ht, run_underlying ht', hs, h3, hz, hroom, h4, hst ad rfl]

/-- An append that grows. -/
theorem append_grows {w : World} {t t' ty e : TypeId} {d' : TypeDesc} (ht : P.underlying t = some (.slice e)) (ht' : P.underlying t' = some d') (hd' : ∀ k, d' ≠ .int k) {i : TypeInfo} {z : Value} (hi : P.info? e = some i) (hz : i.zero = some z)
    {A : Option Addr} {n cap m : Nat} {x : Value} {olds news : List Value} (hx : Xs P i.size w x m news) (ho : (Builtin.firstCells i.size n (.slice A n cap)).run P w.drew = .ok olds.toArray w.drew) (hg : cap < n + m)
    (h63 : n + m ≤ 9223372036854775807) (hby : (n + m) * i.bytes ≤ 140737488355328) :
    (Builtin.append_ #[t, t'] ty #[.slice A n cap, x]).run P w = .ok (.slice (some ⟨w.heap.size, 0, none⟩) (n + m) (grownCap w (n + m) cap e))
        (w.drew.alloc (.cells (olds.toArray ++ news.toArray ++ Builtin.zeroCells z.cells (grownCap w (n + m) cap e - (n + m))) e)) := by
  obtain ⟨h1, h2, h3, h4, h5⟩ := hx
  have hzz : (match d' with | .int _ => true | _ => false) = false := by
    cases d' <;> first | rfl | exact absurd rfl (hd' _)
  have hn : ¬ (n + m ≤ cap) := by omega
  have h63' : ¬ (9223372036854775807 < ((n : Int) + (m : Int))) := by omega
  have hfit := growslice_fits hg hby
  have h48' : ¬ (281474976710656 < Builtin.nextslicecap (n + m) cap * i.bytes) := by omega
  simp [Builtin.append_, run_underlying ht, run_underlying ht', sizeOf, typeInfo, zeroValue, hi, hz, h3, hzz, hn, h63', h48', Question.forced, ho, h5, newRow, grownCap]
  congr 2
  apply Array.ext'
  simp [List.append_assoc]
end Go.Proofs.Ytcfkendgjinmiaa
