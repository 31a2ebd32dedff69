/- The table of a program's types. -/
import Derived.Test.YtcfkendgjinmiaaVC
set_option linter.unusedVariables false
namespace Go.Proofs.Ytcfkendgjinmiaa

def kOf : TypeDesc → TK
  | .int k => .int k
  | .bool => .bool
  | .string => .str
  | .slice e => .slice e
  | .pointer e => .ptr e
  | .struct fields => .struct (fields.toList.map fun f => (f.offset, f.type))
  | .array n e => .array n e
  | .func .. => .func
  | .interface .. => .iface
  | .map k e => .map k e
  | .tuple .. => .tuple
  | _ => .other
def tiOf (P : Program) (t : TypeId) : TI :=
  match P.info? t with
  | some i => match i.zero, P.underlying t with
    | some z, some d => match Nat.beq z.cells.toList.length i.size with
      | true => ⟨kOf d, i.size, i.bytes, z.cells.toList⟩
      | false => default
    | _, _ => default
  | none => default
theorem kOf_ok (d : TypeDesc) : kOf d = .other ∨ DescOk (kOf d) d := by
  cases d <;> simp [kOf, DescOk]
theorem tiOf_ok (P : Program) (t : TypeId) : (∃ i z, P.info? t = some i ∧ i.size = (tiOf P t).size ∧ i.bytes = (tiOf P t).bytes ∧ i.zero = some z ∧ z.cells.toList = (tiOf P t).zero ∧ ∃ d, P.underlying t = some d ∧ DescOk (tiOf P t).k d ∧ (tiOf P t).zero.length = (tiOf P t).size) ∨ (tiOf P t).k = .other := by
  unfold tiOf
  split
  · rename_i i hi
    split
    · rename_i z d hz hd
      split
      · rename_i hl
        rcases kOf_ok d with h | h
        · exact .inr h
        · exact .inl ⟨i, z, hi, rfl, rfl, hz, rfl, d, hd, h, Nat.eq_of_beq_eq_true hl⟩
      · exact .inr rfl
    · exact .inr rfl
  · exact .inr rfl
theorem nth_of_ge {α : Type} (d : α) : ∀ (l : List α) (i : Nat), l.length ≤ i → nth d l i = d
  | [], _, _ => rfl
  | x :: l, 0, h => by simp at h
  | x :: l, i + 1, h => by simp at h; exact nth_of_ge d l i h
theorem nth_of_lt {α : Type} (d : α) : ∀ (l : List α) (i : Nat) (h : i < l.length), nth d l i = l[i]
  | [], _, h => by simp at h
  | x :: l, 0, h => rfl
  | x :: l, i + 1, h => by simp at h; simpa [nth] using nth_of_lt d l i h
theorem tabOk_of (P : Program) (l : List TI) (n : Nat) (h : (List.range n).map (tiOf P) = l) : TabOk P (tabOf l) := by
  intro t
  have hl : l.length = n := by rw [← h]; simp
  rcases Nat.lt_or_ge t n with ht | ht
  · have : tabOf l t = tiOf P t := by
      unfold tabOf
      rw [nth_of_lt _ _ _ (by omega)]
      simp [← h]
    rw [this]
    exact tiOf_ok P t
  · right
    unfold tabOf
    rw [nth_of_ge _ _ _ (by omega)]
    rfl
end Go.Proofs.Ytcfkendgjinmiaa
