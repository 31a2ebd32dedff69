/- The data of layer 19, and what is said of lists. -/
import Derived.Test.YtcfkendgjinmiaaVS
import Derived.Test.YtcfkendgjinmiaaVW
import Derived.KernelRfl
set_option linter.unusedVariables false
set_option linter.unusedSimpArgs false
namespace Go.Proofs.Ytcfkendgjinmiaa
open Go.RowKit
open Go.Proofs.Try (prog)
theorem mixed : prog.follows .mixedOrders = true := rfl

structure Leg where
  set : Bool
  ns : List UInt32
deriving DecidableEq
structure Attrs where
  origin : UInt8
  path : List Leg
  next : UInt32
  hasMed : Bool
  med : UInt32
  hasPref : Bool
  pref : UInt32
  tags : List UInt32
deriving DecidableEq
abbrev cB (x : UInt8) : V := .int .u8 x.toNat
abbrev cW (x : UInt32) : V := .int .u32 x.toNat
abbrev cI (n : Nat) : V := .int .i64 n
def encLeg (fr : Bool) (p : Leg) : List V := [.bool p.set, encW fr p.ns]
def encLegs (fr : Bool) (l : List Leg) : V := .sl fr 2 (l.map (encLeg fr))
def cellsA (fr : Bool) (a : Attrs) : List V := [cB a.origin, encLegs fr a.path, cW a.next, .bool a.hasMed, cW a.med, .bool a.hasPref, cW a.pref, encW fr a.tags]
def encA (fr : Bool) (a : Attrs) : V := .agg (cellsA fr a)

theorem encLeg_free (fr : Bool) (p : Leg) : ∀ v ∈ encLeg fr p, Free v := by
  intro v hv
  simp [encLeg] at hv
  rcases hv with rfl | rfl
  · exact .bool
  · exact encW_free _ _
theorem rowsLegs_free (fr : Bool) (l : List Leg) : ∀ x ∈ l.map (encLeg fr), ∀ v ∈ x, Free v := by
  intro x hx v hv
  obtain ⟨p, _, rfl⟩ := List.mem_map.1 hx
  exact encLeg_free fr p v hv
theorem encLegs_free (fr : Bool) (l : List Leg) : Free (encLegs fr l) := .sl (rowsLegs_free fr l)
theorem cellsA_free (fr : Bool) (a : Attrs) : ∀ v ∈ cellsA fr a, Free v := by
  intro v hv
  simp [cellsA] at hv
  rcases hv with rfl | rfl | rfl | rfl | rfl | rfl | rfl | rfl
  all_goals first | exact .int | exact .bool | exact encLegs_free _ _ | exact encW_free _ _
theorem encA_free (fr : Bool) (a : Attrs) : Free (encA fr a) := .agg (cellsA_free fr a)
theorem encLegs_cold (l : List Leg) : Cold (encLegs false l) := .sl (by
  intro x hx v hv
  obtain ⟨p, _, rfl⟩ := List.mem_map.1 hx
  simp [encLeg] at hv
  rcases hv with rfl | rfl
  · exact .bool
  · exact encW_cold _)
theorem encLegs_fresh (l : List Leg) : Fresh (encLegs true l) := .sl (by
  intro x hx v hv
  obtain ⟨p, _, rfl⟩ := List.mem_map.1 hx
  simp [encLeg] at hv
  rcases hv with rfl | rfl
  · exact .bool
  · exact encW_fresh _)
theorem encA_cold (a : Attrs) : Cold (encA false a) := .agg (by
  intro v hv
  simp [cellsA] at hv
  rcases hv with rfl | rfl | rfl | rfl | rfl | rfl | rfl | rfl
  all_goals first | exact .int | exact .bool | exact encLegs_cold _ | exact encW_cold _)
theorem encA_fresh (a : Attrs) : Fresh (encA true a) := .agg (by
  intro v hv
  simp [cellsA] at hv
  rcases hv with rfl | rfl | rfl | rfl | rfl | rfl | rfl | rfl
  all_goals first | exact .int | exact .bool | exact encLegs_fresh _ | exact encW_fresh _)

/-- Blocks of values without ids, kept as they are. -/
def FreeB : Blk → Prop
  | .var _ _ cells => ∀ v ∈ cells, Free v
  | .arr _ _ _ _ rows => ∀ x ∈ rows, ∀ v ∈ x, Free v
  | .loop .. => False
theorem LeL.free {h : Heap} {nx nx' : Nat} {ρ : Nat → Nat} {Z : List Nat} : ∀ {cells : List V}, (∀ v ∈ cells, Free v) → LeL h nx ρ nx' Z cells cells
  | [], _ => trivial
  | v :: r, hf => ⟨.free (hf v (by simp)), LeL.free (fun v hv => hf v (by simp [hv]))⟩
theorem LeB.free {h : Heap} {nx nx' : Nat} {ρ : Nat → Nat} {Z : List Nat} {blk : Blk} (hf : FreeB blk) : LeB h nx ρ nx' Z blk blk := by
  cases blk with
  | var fr ty cells => exact ⟨id, rfl, LeL.free hf⟩
  | arr fr ex ty sz rows => exact .arr hf
  | loop => exact hf.elim
theorem LeB.rows {h : Heap} {nx nx' : Nat} {ρ : Nat → Nat} {Z : List Nat} {fr ex : Bool} {ty sz : Nat} {rows rows' : List (List V)} (hl : rows.length = rows'.length)
    (hr : ∀ (j : Nat) (x x' : List V), rows[j]? = some x → rows'[j]? = some x' → LeL h nx ρ nx' Z x x') : LeB h nx ρ nx' Z (.arr fr ex ty sz rows) (.arr fr ex ty sz rows') := by
  have key : ∀ (rows rows' : List (List V)), rows.length = rows'.length → (∀ (j : Nat) (x x' : List V), rows[j]? = some x → rows'[j]? = some x' → LeL h nx ρ nx' Z x x') →
      rows.map List.length = rows'.map List.length ∧ ∀ (j : Nat) (v v' : V), rows.flatten[j]? = some v → rows'.flatten[j]? = some v' → LeV h nx ρ nx' Z v v' := by
    intro rows
    induction rows with
    | nil => intro rows' hl _; cases rows' with
      | nil => simp
      | cons _ _ => simp at hl
    | cons x r ih =>
      intro rows' hl hr
      cases rows' with
      | nil => simp at hl
      | cons x' r' =>
        obtain ⟨q1, q2⟩ := ih r' (by simpa using hl) (fun j y y' h1 h2 => hr (j + 1) y y' (by simpa using h1) (by simpa using h2))
        have hx := (hr 0 x x' rfl rfl).out
        refine ⟨by simp [q1, hx.1], fun j v v' h1 h2 => ?_⟩
        rw [List.flatten_cons] at h1 h2
        rcases Nat.lt_or_ge j x.length with hj | hj
        · rw [List.getElem?_append_left hj] at h1
          rw [List.getElem?_append_left (by omega)] at h2
          exact hx.2 j v v' h1 h2
        · rw [List.getElem?_append_right hj] at h1
          rw [List.getElem?_append_right (by omega), ← hx.1] at h2
          exact q2 _ v v' h1 h2
  obtain ⟨h1, h2⟩ := key rows rows' hl hr
  exact ⟨id, id, rfl, rfl, h1, h2⟩
theorem LeB.set {h : Heap} {nx nx' : Nat} {ρ : Nat → Nat} {Z : List Nat} {fr ex : Bool} {ty sz i : Nat} {rows : List (List V)} {x x' : List V} (hf : ∀ x ∈ rows, ∀ v ∈ x, Free v) (hx : LeL h nx ρ nx' Z x x') :
    LeB h nx ρ nx' Z (.arr fr ex ty sz (rows.set i x)) (.arr fr ex ty sz (rows.set i x')) :=
  LeB.rows (by simp) fun j y y' h1 h2 => by
    rw [List.getElem?_set] at h1 h2
    split at h1
    · rename_i e
      subst e
      split at h1
      · rename_i hlt
        rw [if_pos rfl, if_pos hlt] at h2
        cases h1; cases h2
        exact hx
      · cases h1
    · rename_i e
      rw [if_neg e] at h2
      rw [h1] at h2; cases h2
      exact LeL.free (hf _ (List.mem_of_getElem? h1))
theorem ne_none_of {ob : Option Blk} {x : Blk} (h : ob = some x) : ob ≠ none := by rw [h]; simp
def sameH (h : Heap) (nx' : Nat) : Heap → Prop
  | [] => True
  | (b, some blk) :: r => (hget h b = some blk ∧ FreeB blk ∧ b < nx') ∧ sameH h nx' r
  | (_, none) :: r => sameH h nx' r
theorem sameH.out {h : Heap} {nx nx' : Nat} : ∀ {h' : Heap}, sameH h nx' h' → leHL h nx id nx' [] h'
  | [], _ => trivial
  | (b, none) :: r, hh => sameH.out (h' := r) hh
  | (b, some blk) :: r, hh => ⟨⟨hh.1.2.2, .inl ⟨by simp, blk, hh.1.1, LeB.free hh.1.2.1⟩⟩, sameH.out hh.2⟩
theorem LeH.same {base : Nat} {h h' : Heap} {nx nx' : Nat} (hs : sameH h nx' h') (hn : base ≤ nx') : LeH base h nx id nx' [] h' :=
  LeH.of hs.out (fun _ _ _ _ h => h) (fun _ _ => rfl) hn (by simp)
theorem idxW {l : List UInt32} {i : Nat} (h : i < l.length) : (l.map fun x => [V.int .u32 x.toNat])[(i : Int).toNat]? = some [.int .u32 l[i].toNat] := by simp [h]
theorem idxB {l : List UInt8} {i : Nat} (h : i < l.length) : (l.map fun x => [V.int .u8 x.toNat])[(i : Int).toNat]? = some [.int .u8 l[i].toNat] := by simp [h]
theorem idxL {fr : Bool} {l : List Leg} {i : Nat} (h : i < l.length) : (l.map (encLeg fr))[(i : Int).toNat]? = some (encLeg fr l[i]) := by simp [h]
theorem wrap64_succ {n i : Nat} (h : i < n) (hn : n ≤ maxLen) : IntKind.i64.wrap ((i : Int) + 1) = ((i + 1 : Nat) : Int) := by
  rw [wrap64] <;> unfold maxLen at hn <;> omega
theorem wrap64_pred {n i : Nat} (h : i < n) (hn : n ≤ maxLen) : IntKind.i64.wrap (((i + 1 : Nat) : Int) - 1) = i := by
  rw [wrap64] <;> unfold maxLen at hn <;> omega

theorem all_take_succ {α : Type} {p : α → Bool} {l : List α} {i : Nat} (h : i < l.length) : (l.take (i + 1)).all p = ((l.take i).all p && p l[i]) := by
  rw [List.take_succ_eq_append_getElem h, List.all_append]; simp
theorem all_false {α : Type} {p : α → Bool} {l : List α} {i : Nat} (h : i < l.length) (hp : p l[i] = false) : l.all p = false := by
  rw [List.all_eq_false]
  exact ⟨l[i], List.getElem_mem h, by simp [hp]⟩
end Go.Proofs.Ytcfkendgjinmiaa
