/- Contracts: the row of attributes. -/
import Derived.Test.YtcfkendgjinmiaaC11
set_option linter.unusedVariables false
set_option linter.unusedSimpArgs false
namespace Go.Proofs.Ytcfkendgjinmiaa
open Go.RowKit
open Go.Proofs.Try (prog)
attribute [local irreducible] CallV RoundV

theorem LeV.fnL {h : Heap} {nx nx' : Nat} {ρ : Nat → Nat} {Z : List Nat} {f : Fn} {fs fs' cs cs' : List V} (h1 : LeL h nx ρ nx' Z fs fs') (h2 : LeL h nx ρ nx' Z cs cs') : LeV h nx ρ nx' Z (.fn f fs cs) (.fn f fs' cs') := fun G w u hr hv => by
  cases hv with
  | fn _ _ _ us ws q1 q2 q3 q4 =>
    have v1 := h1.vrs hr (us := us) ⟨q1, q3⟩
    have v2 := h2.vrs hr (us := ws) ⟨q2, q4⟩
    exact .fn _ _ _ us ws v1.1 v2.1 v1.2 v2.2
theorem LeV.freezePL {h : Heap} {nx nx' : Nat} {ρ : Nat → Nat} {Z : List Nat} {b : Nat} {fr : Bool} {ty : TypeId} {cells cells' : List V} (hz : b ∈ Z) (hb : hget h b = some (.var fr ty cells)) (hl : LeL h nx ρ nx' Z cells cells') :
    LeV h nx ρ nx' Z (.ptr b 0) (.iptr fr cells') := fun G w u hr hv => by
  have hown : Holds G w b fr true ty cells := hr.own b _ hb
  obtain ⟨c', cs, e1, hh, hle, hex, hfr, hcell⟩ := hown
  obtain ⟨l1, l2⟩ := hl.out
  cases hv with
  | ptr _ _ c hc =>
    rw [hc] at e1
    obtain rfl : c = c' := Option.some.inj e1
    have at' : ∀ (j : Nat) (v' : V), cells'[j]? = some v' → ∃ v u, cells[j]? = some v ∧ cs[j]? = some u ∧ u.oneCell' = true ∧ vr G w v u := by
      intro j v' hj
      have hlt : j < cells.length := by rw [l1]; exact (List.getElem?_eq_some_iff.1 hj).1
      obtain ⟨u, hu, h1, hv⟩ := hcell j _ (List.getElem?_eq_getElem hlt)
      exact ⟨_, u, List.getElem?_eq_getElem hlt, hu, h1, hv⟩
    refine .iptr fr cells' ⟨c, 0, none⟩ (fun j => cs[j]?.getD undef) rfl (fun j v' hj => ?_) (fun j v' hj => ?_)
    · obtain ⟨v, u, _, hu, h1, _⟩ := at' j v' hj
      exact ⟨by simp [World.cell?, hh, hu], .inr ⟨b, hz, hc⟩, fun hf => hfr hf, by simp [hu, h1]⟩
    · obtain ⟨v, u, hv, hu, h1, hvr⟩ := at' j v' hj
      simp only [hu, Option.getD_some]
      exact l2 j v v' hv hj G w u hr hvr

abbrev fnV (n : Nat) : V := .fn (.func n) [] []
def fourV (n : Nat) : V := .fn (.func 96) [] [.iptr true [fnV n]]
set_option maxRecDepth 100000 in
theorem four_ok (n : Nat) : PCon prog 67 [fnV n] (fourV n) := by
  refine callV_of (fn := Go.Proofs.Try.f67) (body := _) tab_ok mixed rfl rfl (by decide) (by simp [Go.Proofs.Try.f67]) ?_
  (conv => whnf)
  refine Ends.pure [0] (.fnL trivial ⟨.freezePL (by simp) rfl ⟨.free (.fn (by simp) (by simp)), trivial⟩, trivial⟩) (one_none rfl)
theorem fourV_free (n : Nat) : Free (fourV n) := .fn (by simp) (by
  intro v hv
  simp at hv; subst hv
  refine .iptr ?_
  intro v hv
  simp at hv; subst hv
  exact .fn (by simp) (by simp))
/-- The attributes, one by one. -/
def attrRows : List (List V) := [
  [.int .u8 1, .int .u8 64, fnV 60, fnV 61, fnV 62],
  [.int .u8 2, .int .u8 64, fnV 60, fnV 63, fnV 64],
  [.int .u8 3, .int .u8 64, fnV 60, fnV 65, fourV 68],
  [.int .u8 4, .int .u8 128, fnV 69, fnV 70, fourV 71],
  [.int .u8 5, .int .u8 64, fnV 72, fnV 73, fourV 74],
  [.int .u8 8, .int .u8 192, fnV 75, fnV 76, fnV 78]]
theorem fnV_free (n : Nat) : Free (fnV n) := .fn (by simp) (by simp)
theorem attrRows_free : ∀ x ∈ attrRows, ∀ v ∈ x, Free v := by
  intro x hx v hv
  simp only [attrRows, List.mem_cons, List.not_mem_nil, or_false] at hx
  rcases hx with rfl | rfl | rfl | rfl | rfl | rfl <;>
    (simp only [List.mem_cons, List.not_mem_nil, or_false] at hv; rcases hv with rfl | rfl | rfl | rfl | rfl <;> first | exact .int | exact fnV_free _ | exact fourV_free _)
def attributesV : V := .fn (.func 95) [] [.iptr true [.sl true 5 attrRows]]
set_option maxRecDepth 100000 in
theorem attributes_ok : PCon prog 36 [] attributesV := by
  refine callV_of (fn := Go.Proofs.Try.f36) (body := _) tab_ok mixed rfl rfl (by decide) (by simp [Go.Proofs.Try.f36]) ?_
  (conv => whnf)
  refine callV_pure (four_ok _) ⟨.free (fnV_free _), trivial⟩ ?_
  (conv => whnf)
  refine callV_pure (four_ok _) ⟨.free (fnV_free _), trivial⟩ ?_
  (conv => whnf)
  refine callV_pure (four_ok _) ⟨.free (fnV_free _), trivial⟩ ?_
  (conv => whnf)
  refine callV_of (fn := Go.Proofs.Try.f59) (body := _) tab_ok mixed rfl rfl (by decide) (by simp [Go.Proofs.Try.f59]) ?_
  (conv => whnf)
  refine ⟨_, _, _, Ends.here, ?_⟩
  (conv => whnf)
  refine Ends.pure [0, 1] (.fnL trivial ⟨.freezePL (by simp) rfl ⟨LeV.freeze_of (by simp) rfl (by simp) attrRows_free rfl, trivial⟩, trivial⟩) ?_
  intro z hz
  rcases List.mem_cons.1 hz with rfl | hz
  · exact ne_none_of rfl
  · exact one_none rfl z hz
end Go.Proofs.Ytcfkendgjinmiaa
