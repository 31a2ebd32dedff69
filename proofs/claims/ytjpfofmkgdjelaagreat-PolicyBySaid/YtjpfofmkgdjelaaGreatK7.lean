/- Joined: Q1, Q2. -/
import Derived.Test.YtjpfofmkgdjelaaGreatK6
/- Contract: the law PolicyFits. -/
set_option linter.unusedVariables false
set_option linter.unusedSimpArgs false
namespace Go.Proofs.YtjpfofmkgdjelaaGreat
open Go.RowKit
open Go.Proofs.Tryz (prog)
attribute [local irreducible] CallV RoundV

set_option maxRecDepth 100000 in
set_option maxHeartbeats 4000000 in
theorem policyFits_ok (r : Rule) (p : Policy) (to : Prefix) (a : Attrs) : PCon prog 3 [encRu r, encPo false p, encP to, encA false a] (.bool true) := by
  refine callV_of (fn := Go.Proofs.Tryz.f3) (body := _) tab_ok mixed rfl rfl (by decide) (by simp [Go.Proofs.Tryz.f3]) ?_
  (conv => whnf)
  refine callV_pure (few23_ok false false p a) ⟨.free (encPo_free _ _), .free (encA_free _ _), trivial⟩ ?_
  cases hf : fewP p a with
  | false =>
    (conv => whnf)
    refine callV_pure works23_ok trivial ?_
    (conv => whnf)
    exact (Ends.pure [] (by first | exact .ptr rfl (by omega) | exact .osl_of rfl (by omega) rfl | exact .fr rfl | exact LeL.fr rfl | exact .yld rfl (by omega) | exact .eptr rfl (by omega) | exact .osl0 | exact .snil_sl | exact .to_any | exact LeV.nineA | exact LeV.noA) (by simp))
  | true =>
    (conv => whnf)
    refine ⟨_, [], fun h nx _ => pureV_pure (fits_ok false r to a) ⟨.free (encRu_free _), .free (encP_free _), .free (encA_free _ _), trivial⟩, by simp, ?_⟩
    (conv => whnf)
    refine ⟨_, [], fun h nx _ => pureV_pure (rfits_ok false r to a) ⟨.free (encRu_free _), .free (encP_free _), .free (encA_free _ _), trivial⟩, by simp, ?_⟩
    (conv => whnf)
    split
    case h_2 hh => exact absurd hh (by simp)
    (conv => whnf)
    refine ⟨_, [], fun h nx _ => pureV_pure (which_ok false false p to a) ⟨.free (encPo_free _ _), .free (encP_free _), .free (encA_free _ _), trivial⟩, by simp, ?_⟩
    (conv => whnf)
    refine ⟨_, [], fun h nx _ => pureV_pure (rwhich_ok false false p to a) ⟨.free (encPo_free _ _), .free (encP_free _), .free (encA_free _ _), trivial⟩, by simp, ?_⟩
    (conv => whnf)
    split
    case h_2 hh => exact absurd hh (by simp)
    (conv => whnf)
    refine ⟨_, [], fun h nx _ => pureV_pure (check23_ok false p) ⟨.free (encPo_free _ _), trivial⟩, by simp, ?_⟩
    (conv => whnf)
    refine ⟨_, [], fun h nx _ => pureV_pure (num23_ok (checkP p)) ⟨.int_of rfl, trivial⟩, by simp, ?_⟩
    (conv => whnf)
    refine ⟨_, [], fun h nx _ => pureV_pure (rcheck23_ok false p) ⟨.free (encPo_free _ _), trivial⟩, by simp, ?_⟩
    (conv => whnf)
    split
    case h_2 hh => exact absurd hh (by simp)
    (conv => whnf)
    refine ⟨_, [], fun h nx _ => pureV_pure works23_ok trivial, by simp, ?_⟩
    (conv => whnf)
    refine ⟨by kernel_rfl, ?_⟩
    (conv => whnf)
    exact (Ends.pure [] (by first | exact .ptr rfl (by omega) | exact .osl_of rfl (by omega) rfl | exact .fr rfl | exact LeL.fr rfl | exact .yld rfl (by omega) | exact .eptr rfl (by omega) | exact .osl0 | exact .snil_sl | exact .to_any | exact LeV.nineA | exact LeV.noA) (by simp))
end Go.Proofs.YtjpfofmkgdjelaaGreat
/- Contract: the law PolicyOne. -/
set_option linter.unusedVariables false
set_option linter.unusedSimpArgs false
namespace Go.Proofs.YtjpfofmkgdjelaaGreat
open Go.RowKit
open Go.Proofs.Tryz (prog)
attribute [local irreducible] CallV RoundV

theorem byV_out (fr : Bool) (p : Policy) (own : UInt32) (to : Prefix) (a : Attrs) : ∃ (x : Attrs) (b : Bool) (e : Int), ∀ fr, byV fr p own to a = .tup [encA fr x, .bool b, .int .i64 e] := by
  by_cases h : byE p own to a = 0
  · exact ⟨byA p own to a, byOk p own to a, 0, fun fr => by rw [byV, if_neg (by simp [h])]⟩
  · exact ⟨noA, false, byE p own to a, fun fr => by rw [byV, if_pos h]⟩
set_option maxRecDepth 100000 in
set_option maxHeartbeats 4000000 in
theorem policyOne_ok (r : Rule) (own : UInt32) (to : Prefix) (a : Attrs) : PCon prog 6 [encRu r, cW own, encP to, encA false a] (.bool true) := by
  refine callV_of (fn := Go.Proofs.Tryz.f6) (body := _) tab_ok mixed rfl rfl (by decide) (by simp [Go.Proofs.Tryz.f6]) ?_
  (conv => whnf)
  refine callV_pure (few23_ok true false noPo a) ⟨.aggL ⟨.snil_sl, .free .bool, trivial⟩, .free (encA_free _ _), trivial⟩ ?_
  cases hf : fewP noPo a with
  | false =>
    (conv => whnf)
    refine callV_pure works23_ok trivial ?_
    (conv => whnf)
    exact (Ends.pure [] (by first | exact .ptr rfl (by omega) | exact .osl_of rfl (by omega) rfl | exact .fr rfl | exact LeL.fr rfl | exact .yld rfl (by omega) | exact .eptr rfl (by omega) | exact .osl0 | exact .snil_sl | exact .to_any | exact LeV.nineA | exact LeV.noA) (by simp))
  | true =>
    (conv => whnf)
    refine vcg_loop tab_ok mixed (fun k : {k : Nat // k ≤ 2} => ⟨[(1, cW own), (4, .ptr 0 0), (6, .ptr 1 0), (7, .ptr 2 0), (9, cI k.1)], [(0, some (.var true 26 (cellsRu r))), (1, some (.var true 24 (cellsP to))), (2, some (.var true 33 (cellsA false a)))], 3⟩) (fun k => 2 - k.1) ⟨0, by omega⟩ (Wk.i (by repeat' (first | exact True.intro | exact id | exact rfl | decide | exact Nat.le_of_ble_eq_true rfl | exact .ptr rfl (by omega) | exact .osl_of rfl (by omega) rfl | exact .fr rfl | exact LeL.fr rfl | exact .yld rfl (by omega) | exact .eptr rfl (by omega) | exact .osl0 | exact .snil_sl | exact .to_any | exact LeV.nineA | exact LeV.noA | exact LeB.fr rfl id id | exact LeB.fr (by simp; done) id id | refine Or.inl ⟨by simp, _, rfl, ?_⟩ | exact Or.inr ⟨by simp, _, _, _, _, rfl⟩ | refine ⟨rfl, rfl, rfl, rfl, rfl, rfl, ?_⟩ | refine ⟨?_, ?_⟩)) (by omega)) (fun k => ?_)
    obtain ⟨k, hk⟩ := k
    (conv => whnf)
    split
    · rename_i hc
      have hc : k < 2 := by simp at hc; omega
      have hfz : ∀ {h : Heap} {nx nx' : Nat} {ρ : Nat → Nat} {Z : List Nat}, 3 ∈ Z → hget h 3 = some (.arr true true 26 15 [cellsRu r]) → LeV h nx ρ nx' Z (.osl 3 15 0 1) (encRus true [r]) := fun hz hb => LeV.freezeE (ys := rowsRu [r]) hz hb (by simp) (by simp) (rowsRu_free _)
      obtain ⟨x, b, e, hx⟩ := byV_out true ⟨[r], ((k : Int) == 1)⟩ own to a
      (conv => whnf)
      refine callV_freeze (args' := [encPo true ⟨[r], ((k : Int) == 1)⟩, cW own, encP to, encA false a]) [3] (h' := [(4, some (.var true 29 (cellsPo true ⟨[r], ((k : Int) == 1)⟩))), (0, some (.var true 26 (cellsRu r))), (1, some (.var true 24 (cellsP to))), (2, some (.var true 33 (cellsA false a)))]) (LeH.i (by repeat' (first | exact True.intro | exact id | exact rfl | decide | exact Nat.le_of_ble_eq_true rfl | exact ⟨hfz (by simp) rfl, .free .bool, trivial⟩ | exact .ptr rfl (by omega) | exact .osl_of rfl (by omega) rfl | exact .fr rfl | exact LeL.fr rfl | exact .yld rfl (by omega) | exact .eptr rfl (by omega) | exact .osl0 | exact .snil_sl | exact .to_any | exact LeV.nineA | exact LeV.noA | exact LeB.fr rfl id id | exact LeB.fr (by simp; done) id id | refine Or.inl ⟨by simp, _, rfl, ?_⟩ | exact Or.inr ⟨by simp, _, _, _, _, rfl⟩ | refine ⟨rfl, rfl, rfl, rfl, rfl, rfl, ?_⟩ | refine ⟨?_, ?_⟩)) (Nat.le_refl _) (by intro z hz; simp only [List.mem_cons, List.not_mem_nil, or_false] at hz; rcases hz with rfl <;> exact ne_none_of rfl)) ⟨.aggL ⟨hfz (by simp) rfl, .free .bool, trivial⟩, .free .int, .free (encP_free _), .free (encA_free _ _), trivial⟩ ?_
      refine callV_pure (by_ok true false ⟨[r], ((k : Int) == 1)⟩ own to a) ⟨.free (encPo_free _ _), .free .int, .free (encP_free _), .free (encA_free _ _), trivial⟩ ?_
      rw [hx]
      (conv => whnf)
      refine callV_pure (rby_ok true false ⟨[r], ((k : Int) == 1)⟩ own to a) ⟨.free (encPo_free _ _), .free .int, .free (encP_free _), .free (encA_free _ _), trivial⟩ ?_
      rw [hx]
      (conv => whnf)
      refine callV_pure (ref_same_ok true false x x) ⟨.free (encA_free _ _), .free (encA_free _ _), trivial⟩ ?_
      rw [sameA_refl]
      (conv => whnf)
      split
      case h_1 hh => exact absurd hh (by simp)
      (conv => whnf)
      refine callV_pure (num23_ok e) ⟨.int_of rfl, trivial⟩ ?_
      (conv => whnf)
      split
      case h_1 hh => exact absurd hh (by simp)
      (conv => whnf)
      exact ⟨⟨k + 1, by omega⟩, (Wk.i (by repeat' (first | exact True.intro | exact id | exact rfl | decide | exact Nat.le_of_ble_eq_true rfl | exact .int_of (by simp only; rw [wrap64] <;> omega) | exact .ptr rfl (by omega) | exact .osl_of rfl (by omega) rfl | exact .fr rfl | exact LeL.fr rfl | exact .yld rfl (by omega) | exact .eptr rfl (by omega) | exact .osl0 | exact .snil_sl | exact .to_any | exact LeV.nineA | exact LeV.noA | exact LeB.fr rfl id id | exact LeB.fr (by simp; done) id id | refine Or.inl ⟨by simp, _, rfl, ?_⟩ | exact Or.inr ⟨by simp, _, _, _, _, rfl⟩ | refine ⟨rfl, rfl, rfl, rfl, rfl, rfl, ?_⟩ | refine ⟨?_, ?_⟩)) (by omega)), by simp only; omega⟩
    · (conv => whnf)
      refine callV_pure works23_ok trivial ?_
      (conv => whnf)
      exact (Ends.pure [] (by first | exact .ptr rfl (by omega) | exact .osl_of rfl (by omega) rfl | exact .fr rfl | exact LeL.fr rfl | exact .yld rfl (by omega) | exact .eptr rfl (by omega) | exact .osl0 | exact .snil_sl | exact .to_any | exact LeV.nineA | exact LeV.noA) (by simp))
end Go.Proofs.YtjpfofmkgdjelaaGreat
