/- What is read at the types of layer 19. -/
import Derived.Test.YtcfkendgjinmiaaC0
import Derived.Test.YtcfkendgjinmiaaVX
import Derived.Test.YtcfkendgjinmiaaRows
set_option linter.unusedVariables false
set_option linter.unusedSimpArgs false
namespace Go.Proofs.Ytcfkendgjinmiaa
open Go.RowKit Go.ChangeShapes Go.WideShapes
open Go.Proofs.Try (prog)

theorem rep_words : RepOk prog 24 (fun l : List UInt32 => [encW false l]) :=
  rep_slice (cells := fun x : UInt32 => [.int .u32 x.toNat]) Go.Proofs.Try.underlying24 (by kernel_rfl) (by decide) (fun _ => rfl) (rep_u32 Go.Proofs.Try.underlying23)
theorem rep_bytes : RepOk prog 30 (fun l : List UInt8 => [encB false l]) :=
  rep_slice (cells := fun x : UInt8 => [.int .u8 x.toNat]) Go.Proofs.Try.underlying30 (by kernel_rfl) (by decide) (fun _ => rfl) (rep_u8 Go.Proofs.Try.underlying5)
theorem vrs_join {G : Gh} {w : World} {vs : List V} {us : List Value} {v : V} {k n : Nat} (h : vrs G w vs (us.take n)) (hv : vrs G w [v] ((us.drop k).take 1)) (hk : k = n) (hn : n < us.length) : vrs G w (vs ++ [v]) (us.take (n + 1)) := by
  subst hk
  rw [List.take_succ_eq_append_getElem hn]
  refine h.append ?_
  rw [List.drop_eq_getElem_cons hn, List.take_succ_cons, List.take_zero] at hv
  exact hv
theorem one_join {us : List Value} {k n : Nat} (h : ∀ u ∈ us.take n, u.oneCell' = true) (hv : ∀ u ∈ (us.drop k).take 1, u.oneCell' = true) (hk : k = n) (hn : n < us.length) : ∀ u ∈ us.take (n + 1), u.oneCell' = true := by
  subst hk
  rw [List.take_succ_eq_append_getElem hn]
  intro u hu
  rcases List.mem_append.1 hu with hu | hu
  · exact h u hu
  · refine hv u ?_
    rw [List.drop_eq_getElem_cons hn, List.take_succ_cons, List.take_zero]
    exact hu
theorem vrs_take0 {G : Gh} {w : World} {us : List Value} : vrs G w [] (us.take 0) := by simp [vrs]
theorem field_at {H : Type} {enc : TypeId × Value → H} {w : World} {sp : Nat → Bool} {t : TypeId} {fs : Array Field} {fuel : Nat} {cs : List Value} {x : DataW H × List MemPlace} (ht : prog.underlying t = some (.struct fs)) (h : DataW.trod enc prog w 0 sp true fuel t cs = some x)
    (i : Nat) {f : Field} (hf : fs[i]? = some f) {α : Type} {cells : α → List V} (he : RepOk prog f.type cells) (ho : f.offset = i) (hz : prog.cellsOf f.type = 1) : ∃ a, vrs (G0 w) w (cells a) ((cs.drop i).take 1) ∧ ∀ u ∈ (cs.drop i).take 1, u.oneCell' = true := by
  have := field_of ht h hf he
  rw [ho, hz] at this
  exact this
theorem rep_leg : RepOk prog 54 (encLeg false) := fun enc w sp fuel cs x h => by
  have ht := Go.Proofs.Try.underlying54
  obtain ⟨xs, n, _, _, hlen, _, _⟩ := DataW.trod_struct ht h
  have hl : cs.length = 2 := hlen.trans (by kernel_rfl)
  obtain ⟨b, h0, o0⟩ := field_at ht h 0 rfl (rep_bool Go.Proofs.Try.underlying4) rfl (by kernel_rfl)
  obtain ⟨l, h1, o1⟩ := field_at ht h 1 rfl rep_words rfl (by kernel_rfl)
  have j1 := vrs_join (vrs_join vrs_take0 h0 rfl (by omega)) h1 rfl (by omega)
  have k1 := one_join (one_join (by simp) o0 rfl (by omega)) o1 rfl (by omega)
  rw [List.take_of_length_le (by omega)] at j1 k1
  exact ⟨⟨b, l⟩, j1, k1⟩
theorem rep_legs : RepOk prog 22 (fun l : List Leg => [encLegs false l]) :=
  rep_slice (cells := encLeg false) Go.Proofs.Try.underlying22 (by kernel_rfl) (by decide) (fun _ => rfl) rep_leg
theorem rep_attrs : RepOk prog 26 (cellsA false) := fun enc w sp fuel cs x h => by
  have ht := Go.Proofs.Try.underlying26
  obtain ⟨xs, n, _, _, hlen, _, _⟩ := DataW.trod_struct ht h
  have hl : cs.length = 8 := hlen.trans (by kernel_rfl)
  obtain ⟨a0, h0, o0⟩ := field_at ht h 0 rfl (rep_u8 Go.Proofs.Try.underlying5) rfl (by kernel_rfl)
  obtain ⟨a1, h1, o1⟩ := field_at ht h 1 rfl rep_legs rfl (by kernel_rfl)
  obtain ⟨a2, h2, o2⟩ := field_at ht h 2 rfl (rep_u32 Go.Proofs.Try.underlying23) rfl (by kernel_rfl)
  obtain ⟨a3, h3, o3⟩ := field_at ht h 3 rfl (rep_bool Go.Proofs.Try.underlying4) rfl (by kernel_rfl)
  obtain ⟨a4, h4, o4⟩ := field_at ht h 4 rfl (rep_u32 Go.Proofs.Try.underlying23) rfl (by kernel_rfl)
  obtain ⟨a5, h5, o5⟩ := field_at ht h 5 rfl (rep_bool Go.Proofs.Try.underlying4) rfl (by kernel_rfl)
  obtain ⟨a6, h6, o6⟩ := field_at ht h 6 rfl (rep_u32 Go.Proofs.Try.underlying23) rfl (by kernel_rfl)
  obtain ⟨a7, h7, o7⟩ := field_at ht h 7 rfl rep_words rfl (by kernel_rfl)
  have j := vrs_join (vrs_join (vrs_join (vrs_join (vrs_join (vrs_join (vrs_join (vrs_join vrs_take0 h0 rfl (by omega)) h1 rfl (by omega)) h2 rfl (by omega)) h3 rfl (by omega)) h4 rfl (by omega)) h5 rfl (by omega)) h6 rfl (by omega)) h7 rfl (by omega)
  have k := one_join (one_join (one_join (one_join (one_join (one_join (one_join (one_join (by simp) o0 rfl (by omega)) o1 rfl (by omega)) o2 rfl (by omega)) o3 rfl (by omega)) o4 rfl (by omega)) o5 rfl (by omega)) o6 rfl (by omega)) o7 rfl (by omega)
  rw [List.take_of_length_le (by omega)] at j k
  exact ⟨⟨a0, a1, a2, a3, a4, a5, a6, a7⟩, j, k⟩
theorem arg_attrs : ArgOk prog 26 (encA false) := arg_struct Go.Proofs.Try.underlying26 rep_attrs
theorem arg_bytes : ArgOk prog 30 (encB false) := arg_slice Go.Proofs.Try.underlying30 rep_bytes
theorem laidOut : laidOutB prog = true := by kernel_rfl
theorem own : ownKnob prog.godebug = none := by kernel_rfl
theorem read26 : prog.readableRec 26 = true ∧ 26 < prog.types.size := ⟨by kernel_rfl, of_decide_eq_true (by kernel_rfl)⟩
theorem read30 : prog.readableRec 30 = true ∧ 30 < prog.types.size := ⟨by kernel_rfl, of_decide_eq_true (by kernel_rfl)⟩
end Go.Proofs.Ytcfkendgjinmiaa
