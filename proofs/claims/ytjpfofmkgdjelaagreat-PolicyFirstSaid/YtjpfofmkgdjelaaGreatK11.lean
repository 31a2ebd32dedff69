/- Joined: T8. -/
import Derived.Test.YtjpfofmkgdjelaaGreatK10
/- Contract: the law PolicyBent. -/
set_option linter.unusedVariables false
set_option linter.unusedSimpArgs false
namespace Go.Proofs.YtjpfofmkgdjelaaGreat
open Go.RowKit
open Go.Proofs.Tryz (prog)
attribute [local irreducible] CallV RoundV aggK

def polP (b : List UInt8) : Policy := if parseOk b then parsed b else noPo
def errP (b : List UInt8) : Int := if parseOk b then 0 else 330
theorem parseV_eq (fr : Bool) (b : List UInt8) : parseV fr b = .tup [encPo fr (polP b), .int .i64 (errP b)] := by
  unfold parseV polP errP
  cases parseOk b <;> rfl
theorem parseT_ok (fr : Bool) (b : List UInt8) (hb : b.length ≤ 20000) : PCon prog 24 [encB fr b] (.tup [encPo true (polP b), .int .i64 (errP b)]) := by
  rw [← parseV_eq]; exact parse23_ok fr b hb
theorem rparseT_ok (fr : Bool) (b : List UInt8) (hb : b.length ≤ 20000) : PCon prog 25 [encB fr b] (.tup [encPo true (polP b), .int .i64 (errP b)]) := by
  rw [← parseV_eq]; exact rparse23_ok fr b hb
theorem polT_fresh (p : Policy) (e : Int) : Fresh (.tup [encPo true p, .int .i64 e]) := by
  refine .tup ?_
  intro v hv
  simp only [List.mem_cons, List.not_mem_nil, or_false] at hv
  rcases hv with rfl | rfl
  · exact encPo_fresh _
  · exact .int
theorem sameP_refl (p : Policy) : sameP p p = true := by simp [sameP]
set_option maxRecDepth 100000 in
set_option maxHeartbeats 8000000 in
theorem policyBent_ok (p : Policy) (at' : Int) (to : UInt8) (cut : Int) (hc : -9223372036854775808 ≤ cut ∧ cut ≤ 9223372036854775807) : PCon prog 5 [encPo false p, .int .i64 at', cB to, .int .i64 cut] (.bool true) := by
  refine callV_of (fn := Go.Proofs.Tryz.f5) (body := _) tab_ok mixed rfl rfl (by decide) (by simp [Go.Proofs.Tryz.f5]) ?_
  have fin : ∀ {s : St}, ∃ v1 h' nx', Ends 0 s (.bool true) v1 h' nx' ∧ (v1 = .bool true ∧ h' = [] ∧ nx' = 0) := Ends.pure [] (.bool_of rfl) (by simp)
  (conv => whnf)
  intro _
  (conv => whnf)
  split
  · (conv => whnf)
    refine callV_pure works23_ok trivial ?_
    (conv => whnf)
    exact fin
  rename_i h16
  have h16 : p.rules.length ≤ 16 := by simp at h16; omega
  (conv => whnf)
  refine callV_pure (rcheck23_ok false p) ⟨.free (encPo_free _ _), trivial⟩ ?_
  (conv => whnf)
  split
  · (conv => whnf)
    refine callV_pure works23_ok trivial ?_
    (conv => whnf)
    exact fin
  (conv => whnf)
  refine callV_own (nx := 1) [] (rraw23_own false p (by omega)) ⟨.free (encPo_free _ _), trivial⟩ (by intro v hv; simp at hv; subst hv; exact encPo_cold _) (by simp) (rowsB_ff _) ?_
  (conv => whnf)
  have hlen : (rawPo p).length ≤ 20000 := by rw [rawPo_len]; omega
  generalize hL : (rawPo p).length = L at *
  split
  case' h_2 =>
    (conv => whnf)
    have hr1 := hL
    clear hL
    generalize rawPo p = r1 at *
  case' h_1 =>
    rename_i hat
    have hat : 0 ≤ at' := by simpa using hat
    (conv => whnf)
    intro _
    (conv => whnf)
    split
    case' h_2 =>
      (conv => whnf)
      have hr1 := hL
      clear hL
      generalize rawPo p = r1 at *
    case' h_1 =>
      rename_i hat2
      have hat2 : at' < L := by simpa using hat2
      have hi : at'.toNat < (rawPo p).length := by omega
      (conv => whnf)
      refine ⟨rfl, ⟨by omega, by omega⟩, ?_⟩
      (conv => whnf)
      refine ⟨rfl, [cB (rawPo p)[at'.toNat]], by simp [rowsB, List.getElem?_eq_getElem hi], ?_⟩
      have hset : (rowsB (rawPo p)).set (0 + at'.toNat) [cB to] = rowsB ((rawPo p).set at'.toNat to) := by simp [rowsB, List.map_set]
      (conv => whnf)
      rw [hset]
      have hr1 : ((rawPo p).set at'.toNat to).length = L := by simp [hL]
      clear hi hset
      generalize (rawPo p).set at'.toNat to = r1 at *
  all_goals
    split
    case' h_2 =>
      (conv => whnf)
      refine callV_lend [1] (parseT_ok false (r1) (by (try simp); omega)) ⟨LeV.fresh_off (.freeze_of (by simp) rfl (by simp [rowsB, hr1]; try omega) (by exact rowsB_free _) (by simp [rowsB, hr1, List.map_take, List.take_of_length_le])), trivial⟩ (by intro v hv; simp at hv; subst hv; exact encB_cold _) (one_none rfl) (polT_fresh _ _) ?_
      (conv => whnf)
      refine callV_lend [1] (rparseT_ok false (r1) (by (try simp); omega)) ⟨LeV.fresh_off (.freeze_of (by simp) rfl (by simp [rowsB, hr1]; try omega) (by exact rowsB_free _) (by simp [rowsB, hr1, List.map_take, List.take_of_length_le])), trivial⟩ (by intro v hv; simp at hv; subst hv; exact encB_cold _) (one_none rfl) (polT_fresh _ _) ?_
      (conv => whnf)
      refine callV_pure (rsame_ok true true _ _) ⟨.free (encPo_free _ _), .free (encPo_free _ _), trivial⟩ ?_
      rw [sameP_refl]
      (conv => whnf)
      refine callV_pure (num23_ok _) ⟨.int_of rfl, trivial⟩ ?_
      (conv => whnf)
      split
      case h_2 h => exact absurd h (by simp)
      (conv => whnf)
      refine callV_pure works23_ok trivial ?_
      (conv => whnf)
      exact Ends.pure [] (.free .bool) (by simp)
    case' h_1 =>
      rename_i hp
      have hp : 0 < cut := by simpa using hp
      (conv => whnf)
      intro _
      (conv => whnf)
      split
      case' h_2 =>
        (conv => whnf)
        refine callV_lend [1] (parseT_ok false (r1) (by (try simp); omega)) ⟨LeV.fresh_off (.freeze_of (by simp) rfl (by simp [rowsB, hr1]; try omega) (by exact rowsB_free _) (by simp [rowsB, hr1, List.map_take, List.take_of_length_le])), trivial⟩ (by intro v hv; simp at hv; subst hv; exact encB_cold _) (one_none rfl) (polT_fresh _ _) ?_
        (conv => whnf)
        refine callV_lend [1] (rparseT_ok false (r1) (by (try simp); omega)) ⟨LeV.fresh_off (.freeze_of (by simp) rfl (by simp [rowsB, hr1]; try omega) (by exact rowsB_free _) (by simp [rowsB, hr1, List.map_take, List.take_of_length_le])), trivial⟩ (by intro v hv; simp at hv; subst hv; exact encB_cold _) (one_none rfl) (polT_fresh _ _) ?_
        (conv => whnf)
        refine callV_pure (rsame_ok true true _ _) ⟨.free (encPo_free _ _), .free (encPo_free _ _), trivial⟩ ?_
        rw [sameP_refl]
        (conv => whnf)
        refine callV_pure (num23_ok _) ⟨.int_of rfl, trivial⟩ ?_
        (conv => whnf)
        split
        case h_2 h => exact absurd h (by simp)
        (conv => whnf)
        refine callV_pure works23_ok trivial ?_
        (conv => whnf)
        exact Ends.pure [] (.free .bool) (by simp)
      case' h_1 =>
        rename_i hp2
        have hp2 : cut ≤ L := by simpa using hp2
        have hw : IntKind.i64.wrap ((L : Int) - cut) = ((L - cut.toNat : Nat) : Int) := by rw [wrap64] <;> omega
        (conv => whnf)
        intro _
        (conv => whnf)
        simp only [hw]
        refine ⟨trivial, .own, ⟨trivial, Int.natCast_nonneg _, Nat.zero_le _, by simp only [Int.toNat_natCast]; omega⟩, ?_⟩
        (conv => whnf)
        refine callV_lend [1] (parseT_ok false (r1.take (L - cut.toNat)) (by (try simp); omega)) ⟨LeV.fresh_off (.freeze_of (by simp) rfl (by simp [rowsB, hr1]; try omega) (by exact rowsB_free _) (by simp [rowsB, hr1, List.map_take, List.take_of_length_le])), trivial⟩ (by intro v hv; simp at hv; subst hv; exact encB_cold _) (one_none rfl) (polT_fresh _ _) ?_
        (conv => whnf)
        refine callV_lend [1] (rparseT_ok false (r1.take (L - cut.toNat)) (by (try simp); omega)) ⟨LeV.fresh_off (.freeze_of (by simp) rfl (by simp [rowsB, hr1]; try omega) (by exact rowsB_free _) (by simp [rowsB, hr1, List.map_take, List.take_of_length_le])), trivial⟩ (by intro v hv; simp at hv; subst hv; exact encB_cold _) (one_none rfl) (polT_fresh _ _) ?_
        (conv => whnf)
        refine callV_pure (rsame_ok true true _ _) ⟨.free (encPo_free _ _), .free (encPo_free _ _), trivial⟩ ?_
        rw [sameP_refl]
        (conv => whnf)
        refine callV_pure (num23_ok _) ⟨.int_of rfl, trivial⟩ ?_
        (conv => whnf)
        split
        case h_2 h => exact absurd h (by simp)
        (conv => whnf)
        refine callV_pure works23_ok trivial ?_
        (conv => whnf)
        exact Ends.pure [] (.free .bool) (by simp)
end Go.Proofs.YtjpfofmkgdjelaaGreat
