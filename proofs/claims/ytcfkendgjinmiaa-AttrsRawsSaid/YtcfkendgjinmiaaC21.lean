/- Contract: one system laid ahead of no path. -/
import Derived.Test.YtcfkendgjinmiaaC20
set_option linter.unusedVariables false
set_option linter.unusedSimpArgs false
namespace Go.Proofs.Ytcfkendgjinmiaa
open Go.RowKit
open Go.Proofs.Try (prog)
attribute [local irreducible] CallV RoundV

def nineA : Attrs := ⟨0, [], 9, false, 0, false, 0, []⟩
def nineV : V := .agg [.int .u8 0, .snil, .int .u32 9, .bool false, .int .u32 0, .bool false, .int .u32 0, .snil]
theorem LeV.nineA {h : Heap} {nx nx' : Nat} {ρ : Nat → Nat} {Z : List Nat} {fr : Bool} : LeV h nx ρ nx' Z nineV (encA fr nineA) :=
  .aggL ⟨.free .int, .snil_sl, .int_of rfl, .free .bool, .free .int, .free .bool, .free .int, .snil_sl, trivial⟩
def sevenA : Attrs := ⟨0, [⟨false, [7, 7]⟩], 9, false, 0, false, 0, []⟩
theorem Ends.ownNil {s : St} {sz : Nat} {fr ex : Bool} {ty : TypeId} : ∃ v1 h' nx', Ends 0 s .snil v1 h' nx' ∧ (v1 = .osl 0 sz 0 0 ∧ h' = [(0, some (.arr fr ex ty sz []))] ∧ nx' = 1) :=
  ⟨.osl 0 sz 0 0, [(0, some (.arr fr ex ty sz []))], 1, Ends.of (fun _ => s.nx) [] .osl0 (LeH.of ⟨⟨by omega, .inr ⟨by simp, _, _, _, _, rfl⟩⟩, trivial⟩ (by simp) (fun b hb => by omega) (by omega) (by simp)), rfl, rfl, rfl⟩
set_option maxRecDepth 100000 in
theorem cloneW_ok (fr : Bool) (v : V) (l : List UInt32) (h : IsW fr v l) (hl : l.length ≤ 1000000) : OCon prog 53 [v] true false 23 1 l.length (rowsW l) := by
  rcases h with rfl | ⟨rfl, rfl⟩
  · rcases l with _ | ⟨x, l⟩
    · refine callV_of (fn := Go.Proofs.Try.f53) (body := _) tab_ok mixed rfl rfl (by decide) (by simp [Go.Proofs.Try.f53]) ?_
      (conv => whnf)
      refine ⟨?_, ?_⟩
      · (conv => whnf)
        exact Ends.ownNil
      · (conv => whnf)
        refine ⟨⟨rfl, rfl, rfl, rfl, by decide⟩, by simp, ⟨by simp [tab, tabOf, nth], by simp⟩, ?_⟩
        (conv => whnf)
        exact Ends.own rfl (rowsW_free []) rfl rfl
    · refine callV_of (fn := Go.Proofs.Try.f53) (body := _) tab_ok mixed rfl rfl (by decide) (by simp [Go.Proofs.Try.f53]) ?_
      (conv => whnf)
      refine ⟨⟨rfl, rfl, rfl, rfl, by decide⟩, by simp, ⟨by simp [tab, tabOf, nth] at *; omega, by simp at *; omega⟩, ?_⟩
      (conv => whnf)
      exact Ends.own rfl (rowsW_free (x :: l)) (by simp) rfl
  · refine callV_of (fn := Go.Proofs.Try.f53) (body := _) tab_ok mixed rfl rfl (by decide) (by simp [Go.Proofs.Try.f53]) ?_
    (conv => whnf)
    refine ⟨?_, ?_⟩
    · (conv => whnf)
      exact Ends.ownNil
    · (conv => whnf)
      refine ⟨_, ⟨rfl, rfl, rfl, rfl, by decide⟩, by simp, ⟨by simp [tab, tabOf, nth], by simp⟩, ?_⟩
      (conv => whnf)
      exact Ends.own rfl (rowsW_free []) rfl rfl
set_option maxRecDepth 100000 in
theorem cloneL_nil : OCon prog 52 [.snil] true false 54 2 0 [] := by
  refine callV_of (fn := Go.Proofs.Try.f52) (body := _) tab_ok mixed rfl rfl (by decide) (by simp [Go.Proofs.Try.f52]) ?_
  (conv => whnf)
  refine ⟨?_, ?_⟩
  · (conv => whnf)
    exact Ends.ownNil
  · (conv => whnf)
    refine ⟨_, ⟨rfl, rfl, rfl, rfl, by decide⟩, by simp, ⟨by simp [tab, tabOf, nth], by simp⟩, ?_⟩
    (conv => whnf)
    exact Ends.own rfl (by simp) rfl rfl
theorem Less.encW {l : List UInt32} : Less (encW true l) (encW false l) := .sl (by simp) rfl fun j v v' h1 h2 => by rw [h1] at h2; cases h2; exact Less.refl _
theorem Less.pair {l1 : List UInt32} {v2 v2' : V} (h : Less v2 v2') : Less (pairV true l1 v2) (pairV false l1 v2') := .sl (by simp) rfl fun j v v' h1 h2 => by
  rcases j with _ | _ | j
  · simp at h1 h2; subst h1; subst h2; exact .encW
  · simp at h1 h2; subst h1; subst h2; exact h
  · simp at h1
theorem legs_less : ∀ (l : List Leg) (j : Nat) (v v' : V), (l.map (encLeg true)).flatten[j]? = some v → (l.map (encLeg false)).flatten[j]? = some v' → Less v v'
  | [], j, v, v', h1, h2 => by simp at h1
  | p :: l, j, v, v', h1, h2 => by
    rcases j with _ | _ | j
    · simp [encLeg] at h1 h2; subst h1; subst h2; exact Less.refl _
    · simp [encLeg] at h1 h2; subst h1; subst h2; exact .encW
    · simp [encLeg] at h1 h2
      exact legs_less l j v v' (by simpa [encLeg] using h1) (by simpa [encLeg] using h2)
theorem Less.legs {l : List Leg} : Less (encLegs true l) (encLegs false l) := .sl (by simp) (by rw [List.map_map, List.map_map]; rfl) (legs_less l)
theorem pairV_cold {l1 l2 : List UInt32} {v2 : V} (h : IsW false v2 l2) : Cold (pairV false l1 v2) := .sl (by
  intro x hx v hv
  simp at hx
  rcases hx with rfl | rfl
  · simp at hv; subst hv; exact encW_cold _
  · simp at hv; subst hv; exact h.cold)
theorem encW_rows_free {vs : List V} (h : ∀ v ∈ vs, Free v) : ∀ x ∈ vs.map (fun v => [v]), ∀ v ∈ x, Free v := by
  intro x hx v hv
  obtain ⟨y, hy, rfl⟩ := List.mem_map.1 hx
  simp at hv; subst hv; exact h _ hy
set_option maxRecDepth 100000 in
theorem prepend_seven : PCon prog 22 [nineV, cW 7, cI 2] (parseE true sevenA 0) := by
  refine callV_of (fn := Go.Proofs.Try.f22) (body := _) tab_ok mixed rfl rfl (by decide) (by simp [Go.Proofs.Try.f22]) ?_
  (conv => whnf)
  refine callV_pure (check_ok true nineA) ⟨.nineA, trivial⟩ ?_
  have hc : checkA nineA = 0 := by decide
  rw [hc]
  (conv => whnf)
  refine callV_of (fn := Go.Proofs.Try.f32) (body := _) tab_ok mixed rfl rfl (by decide) (by simp [Go.Proofs.Try.f32]) ?_
  (conv => whnf)
  refine callV_own [] cloneL_nil ⟨.free .snil, trivial⟩ (by simp; exact .snil) (by simp) (by simp) ?_
  (conv => whnf)
  intro _
  (conv => whnf)
  refine vcg_once tab_ok mixed ?_
  (conv => whnf)
  refine callV_own [] (cloneW_ok false .snil [] (.inr ⟨rfl, rfl⟩) (by simp)) ⟨.free .snil, trivial⟩ (by simp; exact .snil) (by simp) (by simp) ?_
  (conv => whnf)
  refine ⟨_, _, _, Ends.here, ?_⟩
  (conv => whnf)
  intro _
  (conv => whnf)
  refine callV_of (fn := Go.Proofs.Try.f48) (body := _) tab_ok mixed rfl rfl (by decide) (by simp [Go.Proofs.Try.f48]) ?_
  (conv => whnf)
  refine ⟨rfl, ⟨by simp, by simp⟩, ?_⟩
  (conv => whnf)
  intro _
  (conv => whnf)
  intro _
  (conv => whnf)
  refine ⟨rfl, by simp, ⟨rfl, rfl, rfl, rfl, by decide⟩, by simp, ⟨by simp [tab, tabOf, nth], by simp⟩, ?_⟩
  (conv => whnf)
  refine ⟨_, _, _, Ends.here, ?_⟩
  (conv => whnf)
  refine ⟨encW true (List.replicate 2 7), [(8, some (.arr true true 23 1 (rowsW [7])))], fun h nx hrd => ?_, ?_, ?_⟩
  · have h8 := hrd 8 _ (List.mem_singleton.2 rfl)
    refine pureV_lend [8] (repeat_ok false 7 2 (by omega)) ⟨LeV.fresh_off (LeV.freeze_of (by simp) h8 (by simp) (rowsW_free [7]) rfl), .free .int, trivial⟩ ?_ (one_none h8) (encW_fresh _)
    intro v hv
    simp at hv
    rcases hv with rfl | rfl
    · exact encW_cold _
    · exact .int
  · intro b ob hm
    obtain ⟨rfl, rfl⟩ : b = 8 ∧ ob = _ := by simpa using hm
    rfl
  (conv => whnf)
  refine ⟨rfl, ⟨by decide, by decide⟩, ?_⟩
  (conv => whnf)
  refine ⟨rfl, _, rfl, ?_⟩
  (conv => whnf)
  refine ⟨encW true [7, 7], [(9, some (.arr true true 24 1 [[encW true [7, 7]], [.snil]]))], fun h nx hrd => ?_, ?_, ?_⟩
  · have h9 := hrd 9 _ (List.mem_singleton.2 rfl)
    refine pureV_lend [9] (concat_ok false [7, 7] [] .snil (.inr ⟨rfl, rfl⟩) (by simp) (by simp)) ⟨.less (v1 := pairV true [7, 7] .snil) (LeV.freeze_of (by simp) h9 (by simp) (encW_rows_free (vs := [encW true [7, 7], .snil]) (by intro v hv; simp at hv; rcases hv with rfl | rfl; exact encW_free _ _; exact .snil)) rfl) (.pair (Less.refl _)), trivial⟩ ?_ (one_none h9) (encW_fresh _)
    intro v hv
    simp at hv
    subst hv
    exact pairV_cold (.inr ⟨rfl, rfl⟩)
  · intro b ob hm
    obtain ⟨rfl, rfl⟩ : b = 9 ∧ ob = _ := by simpa using hm
    rfl
  (conv => whnf)
  refine ⟨rfl, ⟨by decide, by decide⟩, ?_⟩
  (conv => whnf)
  refine ⟨rfl, _, rfl, ?_⟩
  (conv => whnf)
  refine ⟨by kernel_rfl, ?_⟩
  (conv => whnf)
  refine callV_lend [7] (path_ok false [⟨false, [7, 7]⟩]) ⟨.less (v1 := encLegs true [⟨false, [7, 7]⟩]) (LeV.freeze_of (by simp) rfl (by decide) (rowsLegs_free true [⟨false, [7, 7]⟩]) rfl) .legs, trivial⟩ (by intro v hv; simp at hv; subst hv; exact encLegs_cold _) (one_none rfl) .bool ?_
  have hp : pathOk [⟨false, [7, 7]⟩] = true := by decide
  rw [hp]
  (conv => whnf)
  refine Ends.pure [7, 5] (.tupL ⟨.aggL ⟨.free .int, LeV.freeze_of (by simp) rfl (by decide) (rowsLegs_free true [⟨false, [7, 7]⟩]) rfl, .int_of rfl, .free .bool, .free .int, .free .bool, .free .int, LeV.freeze_of (by simp) rfl (by decide) (by simp) rfl, trivial⟩, .int_of rfl, trivial⟩) ?_
  intro z hz
  simp at hz
  rcases hz with rfl | rfl
  · exact ne_none_of rfl
  · exact ne_none_of rfl
end Go.Proofs.Ytcfkendgjinmiaa
