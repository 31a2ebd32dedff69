/- Contract: the chapter's rows. -/
import Derived.Test.YtcfkendgjinmiaaC21
set_option linter.unusedVariables false
set_option linter.unusedSimpArgs false
namespace Go.Proofs.Ytcfkendgjinmiaa
open Go.RowKit
open Go.Proofs.Try (prog)
attribute [local irreducible] CallV RoundV

def rowB : List UInt8 := [64, 1, 1, 0, 64, 2, 0, 64, 3, 4, 0, 0, 0, 9]
theorem raw_nine : rawE nineA = .tup [encB true rowB, .int .i64 0] := by
  rw [rawE_yes (by decide)]
  rfl
theorem parseE_fresh (a : Attrs) (e : Int) : Fresh (parseE true a e) := .tup (by intro v hv; simp at hv; rcases hv with rfl | rfl; exact encA_fresh _; exact .int)
def legA : Leg := ⟨false, [1, 2]⟩
def legB' : Leg := ⟨true, [3, 4]⟩
def oneA : Attrs := ⟨0, [legB'], 0, false, 0, false, 0, []⟩
theorem cons_free {a b : V} (h1 : Free a) (h2 : Free b) : ∀ v ∈ [a, b], Free v := by intro v hv; simp at hv; rcases hv with rfl | rfl <;> assumption
set_option maxRecDepth 100000 in
theorem works_ok : PCon prog 12 [] (.bool true) := by
  refine callV_of (fn := Go.Proofs.Try.f12) (body := _) tab_ok mixed rfl rfl (by decide) (by simp [Go.Proofs.Try.f12]) ?_
  (conv => whnf)
  refine callV_pure (raw_ok true nineA (by decide)) ⟨.nineA, trivial⟩ ?_
  rw [raw_nine]
  (conv => whnf)
  refine callV_pure parse_nil ⟨.free .snil, trivial⟩ ?_
  (conv => whnf)
  refine callV_lend [1] (parse_bad false) ⟨LeV.fresh_off (LeV.freeze_of (by simp) rfl (by decide) (rowsB_free badB) rfl), trivial⟩ (by intro v hv; simp at hv; subst hv; exact encB_cold _) (one_none rfl) (parseE_fresh _ _) ?_
  (conv => whnf)
  refine callV_pure prepend_seven ⟨.eq_of rfl (.agg (by intro v hv; simp only [List.mem_cons, List.not_mem_nil, or_false] at hv; rcases hv with rfl | rfl | rfl | rfl | rfl | rfl | rfl | rfl <;> first | exact .int | exact .snil | exact .bool)), .int_of rfl, .int_of rfl, trivial⟩ ?_
  (conv => whnf)
  refine callV_pure (num_ok 0) ⟨.int_of rfl, trivial⟩ ?_
  (conv => whnf)
  refine callV_pure (num_ok 0) ⟨.int_of rfl, trivial⟩ ?_
  (conv => whnf)
  refine ⟨rfl, ⟨rowB.toArray⟩, rfl, ?_⟩
  (conv => whnf)
  refine callV_pure (num_ok 299) ⟨.int_of rfl, trivial⟩ ?_
  (conv => whnf)
  refine callV_pure (num_ok 295) ⟨.int_of rfl, trivial⟩ ?_
  (conv => whnf)
  refine callV_freeze (args' := [.osl 7 2 0 2]) [4, 6] (h' := [(7, some (.arr true true 54 2 [encLeg true legA, encLeg true legB'])), (5, some (.var true 54 (encLeg true legB'))), (3, some (.var true 26 (cellsA true sevenA)))]) (LeH.of ⟨⟨by decide, .inl ⟨by decide, _, rfl, ?_⟩⟩, ⟨by decide, .inl ⟨by decide, _, rfl, ?_⟩⟩, ⟨by decide, .inl ⟨by decide, _, rfl, ?_⟩⟩, trivial⟩ (fun _ _ _ _ h => h) (fun _ _ => rfl) (Nat.le_refl _) ?_) ⟨.osl rfl (by decide), trivial⟩ ?_
  · refine ⟨id, id, rfl, rfl, rfl, fun j v v' h1 h2 => ?_⟩
    rcases j with _ | _ | _ | _ | j
    · cases h1; cases h2; exact .free .bool
    · cases h1; cases h2; exact LeV.freeze_of (by simp) rfl (by decide) (rowsW_free [1, 2]) rfl
    · cases h1; cases h2; exact .free .bool
    · cases h1; cases h2; exact LeV.freeze_of (by simp) rfl (by decide) (rowsW_free [3, 4]) rfl
    · cases h1
  · exact ⟨id, rfl, .free .bool, LeV.freeze_of (by simp) rfl (by decide) (rowsW_free [3, 4]) rfl, trivial⟩
  · exact LeB.eq_of (b' := .var true 26 (cellsA true sevenA)) rfl (cellsA_free true sevenA)
  · intro z hz
    simp at hz
    rcases hz with rfl | rfl
    · exact ne_none_of rfl
    · exact ne_none_of rfl
  refine callV_lend [7] (length_ok false [legA, legB'] (by simp) (by simp [legA, legB'])) ⟨.less (v1 := encLegs true [legA, legB']) (LeV.freeze_of (by simp) rfl (by decide) (rowsLegs_free true [legA, legB']) rfl) .legs, trivial⟩ (by intro v hv; simp at hv; subst hv; exact encLegs_cold _) (one_none rfl) .int ?_
  (conv => whnf)
  refine callV_lend [8] (first_ok false oneA) ⟨.aggL ⟨.free .int, .less (v1 := encLegs true [legB']) (LeV.freeze_of (by simp) rfl (by decide) (rowsLegs_free true [legB']) rfl) .legs, .free .int, .free .bool, .free .int, .free .bool, .free .int, .snil_sl, trivial⟩, trivial⟩ (by intro v hv; simp at hv; subst hv; exact encA_cold _) (one_none rfl) .int ?_
  (conv => whnf)
  refine callV_pure (first_ok true sevenA) ⟨.free (encA_free _ _), trivial⟩ ?_
  (conv => whnf)
  refine callV_pure (length_ok true sevenA.path (by decide) (by decide)) ⟨.free (encLegs_free _ _), trivial⟩ ?_
  (conv => whnf)
  exact Ends.pure [] (.free .bool) (by simp)
end Go.Proofs.Ytcfkendgjinmiaa
