/- What the evaluator says of an operation, the machine does. -/
import Derived.Test.YtcfkendgjinmiaaVB
import Derived.Maps.AppendAt
import Derived.Laws.MakeOwn
import Derived.Laws.Rows
import Derived.Laws.Tables
set_option linter.unusedVariables false
set_option linter.unusedSimpArgs false
namespace Go.Proofs.Ytcfkendgjinmiaa
open Go.RowKit

section inv
variable {ι : Nat → Option Nat} {z : Nat → Option Nat} {im : Bool → Addr → Value → Prop} {u : Value}
theorem VR.int_iff {k n} : VR ι z im (.int k n) u ↔ u = .int k n := ⟨fun h => by cases h; rfl, fun h => h ▸ .int k n⟩
theorem VR.bool_iff {b} : VR ι z im (.bool b) u ↔ u = .bool b := ⟨fun h => by cases h; rfl, fun h => h ▸ .bool b⟩
theorem VR.str_iff {b} : VR ι z im (.str b) u ↔ u = .string b := ⟨fun h => by cases h; rfl, fun h => h ▸ .str b⟩
theorem VR.one' {v : V} (h1 : v.one = true) (h : VR ι z im v u) : u.oneCell' = true := by
  cases h <;> first | rfl | (simp [V.one] at h1)
theorem VR.one_cells {v : V} (h1 : v.one = true) (h : VR ι z im v u) : u.cells = #[u] := by
  cases h <;> first | rfl | (simp [V.one] at h1)
end inv

theorem const_vr (ι : Nat → Option Nat) (z : Nat → Option Nat) (im : Bool → Addr → Value → Prop) (v : Value) : VR ι z im (V.const v) v := by
  unfold V.const
  split <;> first | exact .int _ _ | exact .bool _ | exact .str _ | exact .nili | exact .nilf | exact .snil _ | exact .nilp | exact .any _

def otmps (op : Op) : List Nat := op.operands.toList.filterMap fun | .tmp t => some t | _ => none
theorem ev_vr {G : Gh} {N : Nat} {s s' : St} {a : Act} {w : World} (h : Sim G N s' a w) (x : Operand) (hx : ∀ i, x = .tmp i → s'.get i = s.get i) : vr G w (ev s x) (a.eval x) := by
  cases x with
  | tmp i => have := h.tmp i; rw [hx i rfl] at this; exact this
  | const v => exact const_vr _ _ _ v
  | global g => exact .any _
  | func f => exact .fn (.func f) [] [] [] [] rfl rfl (by simp) (by simp)

theorem argK_out {g : Option Bool} {v : V} {K : V → Prop} (h : argK g v K) : ∃ v', K v' ∧ ((g = none ∨ g = some true) → ∀ (G : Gh) (w : World) u, vr G w v u → vr G w v' u) := by
  unfold argK at h
  split at h
  · exact ⟨v, h, fun _ _ _ _ h => h⟩
  · rename_i gb
    split at h
    · rename_i c v'
      refine ⟨v', h.2, fun hg G w u hu => ?_⟩
      cases hu with
      | opt _ _ _ hc _ => exact hc (h.1 (by simpa using hg))
    · exact ⟨_, h, fun _ _ _ _ h => h⟩

def EvoA (G : Gh) (w : World) (G' : Gh) (w' : World) : Prop := ∀ base, Evo base G w G' w'
theorem EvoA.refl (G : Gh) (w : World) : EvoA G w G w := fun b => Evo.refl b G w
def Yields (P : Program) (a : Act) (o : Oper) (w : World) (u : Value) (w' : World) : Prop :=
  (execOp a.eval o).run P w = .ok (.value u) w' ∨ ((execOp a.eval o).run P w = .ok .skip w' ∧ u = undef)
/-- What an operation does, wherever what it looks at reads as in s. -/
def OpOk (P : Program) (o : Oper) (s : St) (val : V) (rd upd : Heap) (nx' : Nat) : Prop :=
  s.nx ≤ nx' ∧ ∀ (G : Gh) (N : Nat) (a : Act) (w : World) (s' : St), Sim G N s' a w → (∀ i, i ∈ otmps o.op → s'.get i = s.get i) →
    (∀ b ob, (b, ob) ∈ rd → hget s'.h b = ob) → (∀ b, s.nx ≤ b → b < nx' → G.ι b = none) →
    ∃ u w' G', Yields P a o w u w' ∧ vr G' w' val u ∧ HR G' (upd ++ s'.h) (max s'.nx nx') w' ∧ (∀ b, (b < s.nx ∨ nx' ≤ b) → G'.ι b = G.ι b) ∧ EvoA G w G' w'
theorem OpOk.pure {P : Program} {o : Oper} {s : St} {val : V} {rd : Heap}
    (h : ∀ (G : Gh) (N : Nat) (a : Act) (w : World) (s' : St), Sim G N s' a w → (∀ i, i ∈ otmps o.op → s'.get i = s.get i) → (∀ b ob, (b, ob) ∈ rd → hget s'.h b = ob) →
      ∃ u, (execOp a.eval o).run P w = .ok (.value u) w ∧ vr G w val u) : OpOk P o s val rd [] s.nx :=
  ⟨Nat.le_refl _, fun G N a w s' hs ha hr _ => by
    obtain ⟨u, hu, hv⟩ := h G N a w s' hs ha hr
    refine ⟨u, w, G, .inl hu, hv, ?_, fun _ _ => rfl, EvoA.refl G w⟩
    have hh := hs.hr
    exact ⟨hh.amb_lt, hh.B_le, fun b hb => hh.dom b (by omega), hh.own, hh.inj, hh.apart, hh.lt, fun b blk hb => by have := hh.hdom b blk hb; omega⟩⟩

/-- What is told as read, was read (or is a name of nothing yet). -/
def RdOk (s : St) (rd : Heap) : Prop := ∀ b ob, (b, ob) ∈ rd → hget s.h b = ob ∨ (ob = none ∧ s.nx ≤ b)
theorem RdOk.nil (s : St) : RdOk s [] := fun b ob h => by simp at h
theorem RdOk.cons {s : St} {b : Nat} {ob : Option Blk} {rd : Heap} (h : hget s.h b = ob ∨ (ob = none ∧ s.nx ≤ b)) (hr : RdOk s rd) : RdOk s ((b, ob) :: rd) := fun b' ob' hm => by
  rcases List.mem_cons.1 hm with e | hm
  · cases e; exact h
  · exact hr b' ob' hm
theorem RdOk.new {s : St} {rd : Heap} (hr : RdOk s rd) : RdOk s ((s.nx, none) :: rd) := .cons (.inr ⟨rfl, Nat.le_refl _⟩) hr
/-- What exec's answer means. -/
def ExOk (P : Program) (s : St) (g : Option Bool) (o : Oper) (K : OK) : Prop :=
  ∃ val rd upd nx', K val rd upd nx' ∧ RdOk s rd ∧ ((g = none ∨ g = some true) → OpOk P o s val rd upd nx') ∧ (g ≠ none → upd = [] ∧ nx' = s.nx)

theorem ExOk.of_pure {P : Program} {s : St} {g : Option Bool} {o : Oper} {K : OK} {val : V} {rd : Heap} (hK : K val rd [] s.nx)
    (h : (g = none ∨ g = some true) → ∀ (G : Gh) (N : Nat) (a : Act) (w : World) (s' : St), Sim G N s' a w → (∀ i, i ∈ otmps o.op → s'.get i = s.get i) → (∀ b ob, (b, ob) ∈ rd → hget s'.h b = ob) →
      ∃ u, (execOp a.eval o).run P w = .ok (.value u) w ∧ vr G w val u) (hrd : RdOk s rd := by exact RdOk.nil _) : ExOk P s g o K :=
  ⟨val, rd, [], s.nx, hK, hrd, fun hg => OpOk.pure (h hg), fun _ => ⟨rfl, rfl⟩⟩

section tables
variable {P : Program} {T : Tab}
theorem TabOk.at (hT : TabOk P T) {t : Nat} (hk : (T t).k ≠ .other) :
    ∃ i z d, P.info? t = some i ∧ i.size = (T t).size ∧ i.bytes = (T t).bytes ∧ i.zero = some z ∧ z.cells.toList = (T t).zero ∧ P.underlying t = some d ∧ DescOk (T t).k d := by
  rcases hT t with ⟨i, z, h1, h2, h3, h4, h5, d, h6, h7, _⟩ | h
  · exact ⟨i, z, d, h1, h2, h3, h4, h5, h6, h7⟩
  · exact absurd h hk
theorem TabOk.zero_len (hT : TabOk P T) {t : Nat} (hk : (T t).k ≠ .other) : (T t).zero.length = (T t).size := by
  rcases hT t with ⟨i, z, h1, h2, h3, h4, h5, d, h6, h7, h8⟩ | h
  · exact h8
  · exact absurd h hk
theorem TabOk.sizeOf (hT : TabOk P T) {t : Nat} (hk : (T t).k ≠ .other) (w : World) : (Go.sizeOf t).run P w = .ok (T t).size w := by
  obtain ⟨i, z, d, h1, h2, _⟩ := hT.at hk
  simp [Go.sizeOf, typeInfo, h1, h2]
theorem TabOk.isAgg (hT : TabOk P T) {t : Nat} (hk : (T t).k ≠ .other) (w : World) : (Go.isAgg t).run P w = .ok (isAgg (T t).k) w := by
  obtain ⟨i, z, d, h1, h2, _, _, _, h6, h7⟩ := hT.at hk
  simp only [Go.isAgg, Sem.run_bind, run_underlying h6, Result.andThen_ok]
  generalize (T t).k = k at hk h7
  cases k with
  | other => exact absurd rfl hk
  | int => simp only [DescOk] at h7; subst h7; rfl
  | bool => simp only [DescOk] at h7; subst h7; rfl
  | str => simp only [DescOk] at h7; subst h7; rfl
  | slice => simp only [DescOk] at h7; subst h7; rfl
  | ptr => simp only [DescOk] at h7; subst h7; rfl
  | array => simp only [DescOk] at h7; subst h7; rfl
  | map => simp only [DescOk] at h7; subst h7; rfl
  | struct => obtain ⟨_, rfl, _⟩ := h7; rfl
  | func => obtain ⟨_, _, _, rfl⟩ := h7; rfl
  | iface => obtain ⟨_, rfl⟩ := h7; rfl
  | tuple => obtain ⟨_, rfl⟩ := h7; rfl
end tables

theorem takeK_out : ∀ {n : Nat} {xs : List V} {K : List V → Prop}, takeK n xs K → n ≤ xs.length ∧ K (xs.take n)
  | 0, xs, K, h => ⟨Nat.zero_le _, by simpa [takeK] using h⟩
  | n + 1, x :: xs, K, h => by
    obtain ⟨h1, h2⟩ := takeK_out (n := n) (xs := xs) h
    exact ⟨by simp; omega, by simpa using h2⟩
  | n + 1, [], K, h => h.elim
theorem dropK_out : ∀ {n : Nat} {xs : List V} {K : List V → Prop}, dropK n xs K → n ≤ xs.length ∧ K (xs.drop n)
  | 0, xs, K, h => ⟨Nat.zero_le _, by simpa [dropK] using h⟩
  | n + 1, x :: xs, K, h => by
    obtain ⟨h1, h2⟩ := dropK_out (n := n) (xs := xs) h
    exact ⟨by simp; omega, by simpa using h2⟩
  | n + 1, [], K, h => h.elim
theorem putK_out : ∀ {n : Nat} {xs ys : List V} {K : List V → Prop}, putK n xs ys K → n + ys.length ≤ xs.length ∧ K (xs.take n ++ ys ++ xs.drop (n + ys.length))
  | 0, xs, [], K, h => ⟨by simp, by cases xs <;> simpa [putK] using h⟩
  | 0, x :: xs, y :: ys, K, h => by
    obtain ⟨h1, h2⟩ := putK_out (n := 0) (xs := xs) (ys := ys) h
    refine ⟨by simp at h1 ⊢; omega, ?_⟩
    simpa using h2
  | n + 1, x :: xs, ys, K, h => by
    obtain ⟨h1, h2⟩ := putK_out (n := n) (xs := xs) (ys := ys) h
    refine ⟨by simp at h1 ⊢; omega, ?_⟩
    simp only [List.take_succ_cons, List.cons_append, show n + 1 + ys.length = (n + ys.length) + 1 by omega, List.drop_succ_cons]
    exact h2
  | 0, [], _ :: _, K, h => h.elim
  | n + 1, [], ys, K, h => by cases ys <;> exact h.elim
theorem lenIs_eq : ∀ {xs : List V} {n : Nat}, lenIs xs n = true → xs.length = n
  | [], 0, _ => rfl
  | _ :: r, n + 1, h => by simp [lenIs_eq (xs := r) (n := n) h]
  | [], _ + 1, h => by simp [lenIs] at h
  | _ :: _, 0, h => by simp [lenIs] at h
theorem allOne_mem : ∀ {xs : List V}, allOne xs = true → ∀ v ∈ xs, v.one = true
  | [], _, v, hv => by simp at hv
  | x :: r, h, v, hv => by
    unfold allOne at h
    split at h
    · rename_i hx
      rcases List.mem_cons.1 hv with rfl | hv
      · exact hx
      · exact allOne_mem h v hv
    · cases h
/-- A list of values that stands for a list of cells. -/
def vrs (G : Gh) (w : World) (vs : List V) (us : List Value) : Prop := vs.length = us.length ∧ ∀ (j : Nat) (v : V) (u : Value), vs[j]? = some v → us[j]? = some u → vr G w v u
theorem cellsK_out {n : Nat} {v : V} {K : List V → Prop} (h : cellsK n v K) : ∃ vs, K vs ∧ vs.length = n ∧ (∀ x ∈ vs, x.one = true) ∧
    ∀ (G : Gh) (w : World) u, vr G w v u → vrs G w vs u.cells.toList := by
  unfold cellsK at h
  split at h
  · rename_i cs
    split at h
    · rename_i hl
      split at h
      · rename_i ho
        refine ⟨cs, h, lenIs_eq hl, allOne_mem ho, fun G w u hu => ?_⟩
        cases hu with
        | agg _ us hl' h' => exact ⟨by simpa [Value.cells] using hl', by simpa [Value.cells] using h'⟩
      · exact h.elim
    · exact h.elim
  · split at h
    · rename_i ho
      split at h
      · rename_i hn
        rw [forceV_eq] at h
        refine ⟨[v], h, by simpa using (Nat.eq_of_beq_eq_true hn).symm, by simpa using ho, fun G w u hu => ?_⟩
        rw [VR.one_cells ho hu]
        refine ⟨rfl, fun j v' u' h1 h2 => ?_⟩
        cases j with
        | zero => simp at h1 h2; subst h1; subst h2; exact hu
        | succ j => simp at h1
      · exact h.elim
    · exact h.elim
end Go.Proofs.Ytcfkendgjinmiaa
