/- Contracts: a number many times; lists one behind the other. -/
import Derived.Test.YtcfkendgjinmiaaC18
set_option linter.unusedVariables false
set_option linter.unusedSimpArgs false
namespace Go.Proofs.Ytcfkendgjinmiaa
open Go.RowKit
open Go.Proofs.Try (prog)
attribute [local irreducible] CallV RoundV

theorem int2_free (a b : V) (h1 : Free a) (h2 : Free b) : Free (.tup [a, b]) := .tup (by intro v hv; simp at hv; rcases hv with rfl | rfl <;> assumption)
set_option maxRecDepth 100000 in
theorem mul_ok (n : Nat) (hn : n ≤ 8) : PCon prog 90 [.int .u64 1, .int .u64 n] (.tup [.int .u64 0, .int .u64 n]) := by
  have hn' : n = 0 ∨ n = 1 ∨ n = 2 ∨ n = 3 ∨ n = 4 ∨ n = 5 ∨ n = 6 ∨ n = 7 ∨ n = 8 := by omega
  rcases hn' with rfl | rfl | rfl | rfl | rfl | rfl | rfl | rfl | rfl
  · refine callV_of (fn := Go.Proofs.Try.f90) (body := _) tab_ok mixed rfl rfl (by decide) (by simp [Go.Proofs.Try.f90]) ?_
    (conv => whnf)
    refine callV_of (fn := Go.Proofs.Try.f104) (body := _) tab_ok mixed rfl rfl (by decide) (by simp [Go.Proofs.Try.f104]) ?_
    (conv => whnf)
    iterate 5
      refine ⟨by decide, ?_⟩
      (conv => whnf)
    refine ⟨_, _, _, Ends.here, ?_⟩
    (conv => whnf)
    exact Ends.pure [] (.eq_of (by kernel_rfl) (int2_free _ _ .int .int)) (by simp)
  · refine callV_of (fn := Go.Proofs.Try.f90) (body := _) tab_ok mixed rfl rfl (by decide) (by simp [Go.Proofs.Try.f90]) ?_
    (conv => whnf)
    refine callV_of (fn := Go.Proofs.Try.f104) (body := _) tab_ok mixed rfl rfl (by decide) (by simp [Go.Proofs.Try.f104]) ?_
    (conv => whnf)
    iterate 5
      refine ⟨by decide, ?_⟩
      (conv => whnf)
    refine ⟨_, _, _, Ends.here, ?_⟩
    (conv => whnf)
    exact Ends.pure [] (.eq_of (by kernel_rfl) (int2_free _ _ .int .int)) (by simp)
  · refine callV_of (fn := Go.Proofs.Try.f90) (body := _) tab_ok mixed rfl rfl (by decide) (by simp [Go.Proofs.Try.f90]) ?_
    (conv => whnf)
    refine callV_of (fn := Go.Proofs.Try.f104) (body := _) tab_ok mixed rfl rfl (by decide) (by simp [Go.Proofs.Try.f104]) ?_
    (conv => whnf)
    iterate 5
      refine ⟨by decide, ?_⟩
      (conv => whnf)
    refine ⟨_, _, _, Ends.here, ?_⟩
    (conv => whnf)
    exact Ends.pure [] (.eq_of (by kernel_rfl) (int2_free _ _ .int .int)) (by simp)
  · refine callV_of (fn := Go.Proofs.Try.f90) (body := _) tab_ok mixed rfl rfl (by decide) (by simp [Go.Proofs.Try.f90]) ?_
    (conv => whnf)
    refine callV_of (fn := Go.Proofs.Try.f104) (body := _) tab_ok mixed rfl rfl (by decide) (by simp [Go.Proofs.Try.f104]) ?_
    (conv => whnf)
    iterate 5
      refine ⟨by decide, ?_⟩
      (conv => whnf)
    refine ⟨_, _, _, Ends.here, ?_⟩
    (conv => whnf)
    exact Ends.pure [] (.eq_of (by kernel_rfl) (int2_free _ _ .int .int)) (by simp)
  · refine callV_of (fn := Go.Proofs.Try.f90) (body := _) tab_ok mixed rfl rfl (by decide) (by simp [Go.Proofs.Try.f90]) ?_
    (conv => whnf)
    refine callV_of (fn := Go.Proofs.Try.f104) (body := _) tab_ok mixed rfl rfl (by decide) (by simp [Go.Proofs.Try.f104]) ?_
    (conv => whnf)
    iterate 5
      refine ⟨by decide, ?_⟩
      (conv => whnf)
    refine ⟨_, _, _, Ends.here, ?_⟩
    (conv => whnf)
    exact Ends.pure [] (.eq_of (by kernel_rfl) (int2_free _ _ .int .int)) (by simp)
  · refine callV_of (fn := Go.Proofs.Try.f90) (body := _) tab_ok mixed rfl rfl (by decide) (by simp [Go.Proofs.Try.f90]) ?_
    (conv => whnf)
    refine callV_of (fn := Go.Proofs.Try.f104) (body := _) tab_ok mixed rfl rfl (by decide) (by simp [Go.Proofs.Try.f104]) ?_
    (conv => whnf)
    iterate 5
      refine ⟨by decide, ?_⟩
      (conv => whnf)
    refine ⟨_, _, _, Ends.here, ?_⟩
    (conv => whnf)
    exact Ends.pure [] (.eq_of (by kernel_rfl) (int2_free _ _ .int .int)) (by simp)
  · refine callV_of (fn := Go.Proofs.Try.f90) (body := _) tab_ok mixed rfl rfl (by decide) (by simp [Go.Proofs.Try.f90]) ?_
    (conv => whnf)
    refine callV_of (fn := Go.Proofs.Try.f104) (body := _) tab_ok mixed rfl rfl (by decide) (by simp [Go.Proofs.Try.f104]) ?_
    (conv => whnf)
    iterate 5
      refine ⟨by decide, ?_⟩
      (conv => whnf)
    refine ⟨_, _, _, Ends.here, ?_⟩
    (conv => whnf)
    exact Ends.pure [] (.eq_of (by kernel_rfl) (int2_free _ _ .int .int)) (by simp)
  · refine callV_of (fn := Go.Proofs.Try.f90) (body := _) tab_ok mixed rfl rfl (by decide) (by simp [Go.Proofs.Try.f90]) ?_
    (conv => whnf)
    refine callV_of (fn := Go.Proofs.Try.f104) (body := _) tab_ok mixed rfl rfl (by decide) (by simp [Go.Proofs.Try.f104]) ?_
    (conv => whnf)
    iterate 5
      refine ⟨by decide, ?_⟩
      (conv => whnf)
    refine ⟨_, _, _, Ends.here, ?_⟩
    (conv => whnf)
    exact Ends.pure [] (.eq_of (by kernel_rfl) (int2_free _ _ .int .int)) (by simp)
  · refine callV_of (fn := Go.Proofs.Try.f90) (body := _) tab_ok mixed rfl rfl (by decide) (by simp [Go.Proofs.Try.f90]) ?_
    (conv => whnf)
    refine callV_of (fn := Go.Proofs.Try.f104) (body := _) tab_ok mixed rfl rfl (by decide) (by simp [Go.Proofs.Try.f104]) ?_
    (conv => whnf)
    iterate 5
      refine ⟨by decide, ?_⟩
      (conv => whnf)
    refine ⟨_, _, _, Ends.here, ?_⟩
    (conv => whnf)
    exact Ends.pure [] (.eq_of (by kernel_rfl) (int2_free _ _ .int .int)) (by simp)

def repRows (x : UInt32) (m n : Nat) : List (List V) := List.replicate m [cW x] ++ List.replicate (n - m) [.int .u32 0]
theorem repRows_free (x : UInt32) (m n : Nat) : ∀ r ∈ repRows x m n, ∀ v ∈ r, Free v := by
  intro r hr v hv
  rcases List.mem_append.1 hr with h | h
  · rw [List.eq_of_mem_replicate h] at hv; simp at hv; subst hv; exact .int
  · rw [List.eq_of_mem_replicate h] at hv; simp at hv; subst hv; exact .int
theorem repRows_len (x : UInt32) (m n : Nat) (h : m ≤ n) : (repRows x m n).length = n := by simp [repRows]; omega
theorem repRows_step (x : UInt32) (m n : Nat) (h : m ≤ n) : (repRows x m n).take m ++ ((repRows x m n).take m).take (n - m) ++ (repRows x m n).drop (m + min m (n - m)) = repRows x (m + min m (n - m)) n := by
  have h1 : (repRows x m n).take m = List.replicate m [cW x] := by
    rw [repRows, List.take_append_of_le_length (by simp), List.take_of_length_le (by simp)]
  rw [h1]
  have h2 : (repRows x m n).drop (m + min m (n - m)) = List.replicate (n - m - min m (n - m)) [.int .u32 0] := by
    rw [repRows, List.drop_append, List.drop_eq_nil_of_le (by simp), List.nil_append, List.length_replicate, List.drop_replicate]
    congr 1
    omega
  rw [h2, repRows, List.take_replicate]
  rw [show List.replicate m [cW x] ++ List.replicate (min (n - m) m) [cW x] = List.replicate (m + min m (n - m)) [cW x] by rw [List.replicate_append_replicate, Nat.min_comm]]
  congr 2
  omega
set_option maxRecDepth 100000 in
theorem repeat_ok (fr : Bool) (x : UInt32) (n : Nat) (hn : n ≤ 8) : PCon prog 50 [encW fr [x], cI n] (encW true (List.replicate n x)) := by
  refine callV_of (fn := Go.Proofs.Try.f50) (body := _) tab_ok mixed rfl rfl (by decide) (by simp [Go.Proofs.Try.f50]) ?_
  (conv => whnf)
  intro _
  (conv => whnf)
  refine callV_pure (mul_ok n hn) ⟨.int_of ?_, .int_of ?_, trivial⟩ ?_
  · simp [wrapu64]
  · rw [wrapu64]; omega
  (conv => whnf)
  rw [show decide (((9223372036854775807 : Int)) < (n : Int)) = false by simp; omega]
  (conv => whnf)
  have hw : IntKind.i64.wrap (n : Int) = n := by rw [wrap64] <;> omega
  rw [hw]
  refine ⟨⟨by omega, by omega, by simp [tab, tabOf, nth]; omega, by omega⟩, ?_⟩
  (conv => whnf)
  refine ⟨⟨rfl, rfl, rfl⟩, by simp, ?_⟩
  (conv => whnf)
  refine vcg_loop tab_ok mixed (fun m : {m : Nat // m ≤ n ∧ (m = 0 → n = 0)} => ⟨[(7, .osl 0 1 0 n), (8, cI m.1)], [(0, some (.arr true true 23 1 (repRows x m.1 n)))], 1⟩) (fun m => n - m.1) ⟨min 1 n, by omega, by omega⟩ ?_ (fun m => ?_)
  · refine Wk.of id [] ⟨.osl_of rfl (by omega) (by simp), .int_of (by simp), trivial⟩ (LeH.of ⟨⟨by omega, .inl ⟨by simp, _, rfl, LeB.eq_of ?_ (repRows_free _ _ _)⟩⟩, trivial⟩ (fun _ _ _ _ h => h) (fun _ _ => rfl) (by omega) (by simp))
    rw [Int.toNat_natCast]
    simp only [List.length_map, List.length_cons, List.length_nil, Nat.zero_add, List.take_zero, List.nil_append, List.drop_replicate, repRows]
    congr 1
    rcases n with _ | n
    · rfl
    · simp [Nat.min_eq_left (show 1 ≤ n + 1 by omega)]
  obtain ⟨m, hm, hm0⟩ := m
  (conv => whnf)
  intro _
  (conv => whnf)
  split
  · rename_i hc
    have hc : m < n := by simpa using hc
    (conv => whnf)
    refine ⟨rfl, ⟨by simp, by simp; try omega⟩, ?_⟩
    (conv => whnf)
    refine ⟨rfl, ⟨by simp, by simp, by simp, by simp; try omega⟩, ?_⟩
    (conv => whnf)
    refine ⟨rfl, by simp [repRows_len x m n hm]; try omega, ⟨rfl, rfl, rfl⟩, by simp [repRows_len x m n hm]; try omega, ?_⟩
    (conv => whnf)
    refine ⟨by kernel_rfl, ?_⟩
    (conv => whnf)
    have hlen : min (List.take ((m : Int).toNat - 0) (List.drop (0 + 0) (repRows x m n))).length (n - (m : Int).toNat) = min m (n - m) := by
      simp [repRows_len x m n hm]
    refine ⟨⟨m + min m (n - m), by omega, by omega⟩, Wk.of id [] ⟨.osl_of rfl (by omega) rfl, .int_of ?_, trivial⟩ (LeH.of ⟨⟨by omega, .inl ⟨by simp, _, rfl, LeB.eq_of ?_ (repRows_free _ _ _)⟩⟩, trivial⟩ (fun _ _ _ _ h => h) (fun _ _ => rfl) (by omega) (by simp)), by simp only; omega⟩
    · simp only [hlen]
      rw [wrap64] <;> omega
    · simp only [hlen]
      have := repRows_step x m n hm
      simpa using this
  · rename_i hc
    have hc : m = n := by simp at hc; omega
    subst hc
    (conv => whnf)
    refine Ends.pure [0] (LeV.freeze_of (by simp) rfl (by simp [repRows_len]) (repRows_free _ _ _) ?_) (one_none rfl)
    simp [repRows]

/-- A list of numbers, or nil. -/
def IsW (fr : Bool) (v : V) (l : List UInt32) : Prop := v = encW fr l ∨ (v = .snil ∧ l = [])
theorem IsW.free {fr : Bool} {v : V} {l : List UInt32} (h : IsW fr v l) : Free v := by
  rcases h with rfl | ⟨rfl, _⟩
  · exact encW_free _ _
  · exact .snil
theorem IsW.cold {v : V} {l : List UInt32} (h : IsW false v l) : Cold v := by
  rcases h with rfl | ⟨rfl, _⟩
  · exact encW_cold _
  · exact .snil
def pairV (fr : Bool) (l1 : List UInt32) (v2 : V) : V := .sl fr 1 [[encW fr l1], [v2]]
theorem pairV_free {fr : Bool} {l1 l2 : List UInt32} {v2 : V} (h : IsW fr v2 l2) : Free (pairV fr l1 v2) := .sl (by
  intro x hx v hv
  simp at hx
  rcases hx with rfl | rfl
  · simp at hv; subst hv; exact encW_free _ _
  · simp at hv; subst hv; exact h.free)
def catRows (l1 l2 : List UInt32) : Nat → List (List V)
  | 0 => []
  | 1 => rowsW l1
  | _ => rowsW (l1 ++ l2)
def catLen (l1 l2 : List UInt32) : Nat → Nat
  | 0 => 0
  | 1 => l1.length
  | _ => l1.length + l2.length
theorem zeros_free (n : Nat) : ∀ r ∈ List.replicate n [V.int .u32 0], ∀ v ∈ r, Free v := by
  intro r hr v hv
  rw [List.eq_of_mem_replicate hr] at hv; simp at hv; subst hv; exact .int
def catR (r0 : List (List V)) (l1 l2 : List UInt32) : Nat → List (List V)
  | 0 => r0
  | 1 => rowsW l1
  | _ => rowsW (l1 ++ l2)
set_option maxRecDepth 100000 in
theorem concat_ok (fr : Bool) (l1 l2 : List UInt32) (v2 : V) (h2 : IsW fr v2 l2) (n1 : l1.length ≤ 1000) (n2 : l2.length ≤ 1000) : PCon prog 49 [pairV fr l1 v2] (encW true (l1 ++ l2)) := by
  refine callV_of (fn := Go.Proofs.Try.f49) (body := _) tab_ok mixed rfl rfl (by decide) (by simp [Go.Proofs.Try.f49]) ?_
  (conv => whnf)
  intro _
  (conv => whnf)
  refine vcg_loop tab_ok mixed (fun i : {i : Nat // i ≤ 2} => ⟨[(0, pairV fr l1 v2), (3, cI (catLen l1 l2 i.1)), (9, pairV fr l1 v2), (10, .int .i64 2), (11, cI i.1)], [], 0⟩) (fun i => 2 - i.1) ⟨0, by omega⟩ (Wk.of id [] ⟨.free (pairV_free h2), .int_of rfl, .free (pairV_free h2), .int_of rfl, .int_of rfl, trivial⟩ (LeH.nil (Nat.le_refl _) (fun b h => by omega) (by simp))) (fun i => ?_)
  obtain ⟨i, hi⟩ := i
  rcases i with _ | _ | _ | i
  case succ.succ.succ => omega
  case zero =>
    (conv => whnf)
    refine ⟨rfl, _, ⟨by simp, rfl⟩, ?_⟩
    (conv => whnf)
    intro _
    (conv => whnf)
    have hw : IntKind.i64.wrap (((catLen l1 l2 (⟨0, hi⟩ : {i : Nat // i ≤ 2}).val : Nat) : Int) + ((List.map (fun x => [V.int .u32 x.toNat]) l1).length : Nat)) = (catLen l1 l2 1 : Nat) := by
      simp only [catLen, List.length_map]; rw [wrap64] <;> omega
    split
    · rename_i h; rw [hw] at h; simp at h; omega
    (conv => whnf)
    exact ⟨⟨1, by omega⟩, Wk.of id [] ⟨.free (pairV_free h2), .int_of hw, .free (pairV_free h2), .int_of rfl, .int_of rfl, trivial⟩ (LeH.nil (Nat.le_refl _) (fun b h => by omega) (by simp)), by simp only; omega⟩
  case succ.zero =>
    (conv => whnf)
    refine ⟨rfl, _, ⟨by simp, rfl⟩, ?_⟩
    (conv => whnf)
    have hw : ∀ n : Nat, n = l2.length → IntKind.i64.wrap (((catLen l1 l2 (⟨0 + 1, hi⟩ : {i : Nat // i ≤ 2}).val : Nat) : Int) + (n : Nat)) = (catLen l1 l2 2 : Nat) := by
      intro n hn
      simp only [catLen]; rw [wrap64] <;> omega
    have h2' := h2
    rcases h2' with h | ⟨h, h0⟩
    · rw [h]
      (conv => whnf)
      intro _
      (conv => whnf)
      have hw := hw ((List.map (fun x => [V.int .u32 x.toNat]) l2).length) (by simp)
      split
      · rename_i h; rw [hw] at h; simp at h; omega
      (conv => whnf)
      exact ⟨⟨2, by omega⟩, Wk.of id [] ⟨h ▸ .free (pairV_free h2), .int_of hw, h ▸ .free (pairV_free h2), .int_of rfl, .int_of rfl, trivial⟩ (LeH.nil (Nat.le_refl _) (fun b h => by omega) (by simp)), by simp only; omega⟩
    · rw [h]
      (conv => whnf)
      have hw : IntKind.i64.wrap (((catLen l1 l2 (⟨0 + 1, hi⟩ : {i : Nat // i ≤ 2}).val : Nat) : Int) + 0) = (catLen l1 l2 2 : Nat) := hw 0 (by simp [h0])
      split
      · rename_i h; rw [hw] at h; simp at h; omega
      (conv => whnf)
      exact ⟨⟨2, by omega⟩, Wk.of id [] ⟨h ▸ .free (pairV_free h2), .int_of hw, h ▸ .free (pairV_free h2), .int_of rfl, .int_of rfl, trivial⟩ (LeH.nil (Nat.le_refl _) (fun b h => by omega) (by simp)), by simp only; omega⟩
  case succ.succ.zero =>
    (conv => whnf)
    refine callV_of (fn := Go.Proofs.Try.f89) (body := _) tab_ok mixed rfl rfl (by decide) (by simp [Go.Proofs.Try.f89]) ?_
    (conv => whnf)
    have hn : IntKind.i64.wrap (((catLen l1 l2 (⟨0 + 1 + 1, hi⟩ : {i : Nat // i ≤ 2}).val : Nat) : Int) - IntKind.i64.wrap (0 - 0)) = (l1.length + l2.length : Nat) := by
      rw [show IntKind.i64.wrap (0 - 0) = 0 by decide]
      simp only [catLen]; rw [wrap64] <;> omega
    split
    · rename_i hc
      (conv => whnf)
      refine ⟨⟨trivial, by simp, rfl, rfl⟩, ?_⟩
      (conv => whnf)
      refine ⟨by rw [hn]; exact ⟨by decide, by omega, by simp [tab, tabOf, nth]; omega, by omega⟩, ?_⟩
      (conv => whnf)
      refine ⟨rfl, ⟨trivial, by simp, by simp, by simp⟩, ?_⟩
      (conv => whnf)
      refine ⟨_, _, _, Ends.here, ?_⟩
      (conv => whnf)
      intro _
      (conv => whnf)
      refine vcg_loop tab_ok mixed (fun i : {i : Nat // i ≤ 2} => ⟨[(6, .osl 0 1 0 (catLen l1 l2 i.1)), (25, pairV fr l1 v2), (26, .int .i64 2), (27, cI i.1)], [(0, some (.arr true false 23 1 (catR (List.replicate (l1.length + l2.length) [.int .u32 0]) l1 l2 i.1)))], 1⟩) (fun i => 2 - i.1) ⟨0, by omega⟩ (Wk.of id [] ⟨.osl_of rfl (by omega) rfl, .free (pairV_free h2), .int_of rfl, .int_of rfl, trivial⟩ (LeH.of ⟨⟨by omega, .inl ⟨by simp, _, rfl, (LeB.eq_of (by simp only [hn, Int.toNat_natCast]; rfl) (by exact zeros_free _))⟩⟩, trivial⟩ (fun _ _ _ _ h => h) (fun _ _ => rfl) (by omega) (by simp))) (fun i => ?_)
      obtain ⟨i, hi⟩ := i
      rcases i with _ | _ | _ | i
      case succ.succ.succ => omega
      case zero =>
        (conv => whnf)
        refine ⟨rfl, _, ⟨by simp, rfl⟩, ?_⟩
        (conv => whnf)
        refine ⟨⟨rfl, rfl, rfl, rfl, by decide⟩, by simp [catLen], ⟨by simp [tab, tabOf, nth, catLen]; omega, by simp [catLen]; omega⟩, ?_⟩
        (conv => whnf)
        refine ⟨⟨1, by omega⟩, Wk.of (renOf [(0, 1)]) [] ⟨.osl_of rfl (by omega) (by simp [catLen]), .free (pairV_free h2), .int_of rfl, .int_of rfl, trivial⟩ (LeH.of ⟨⟨by omega, .inl ⟨by simp, _, rfl, LeB.eq_of ?_ (by exact rowsW_free l1)⟩⟩, trivial⟩ (show ∀ b ∈ [0], ∀ b' ∈ [0], renOf [(0, 1)] b = renOf [(0, 1)] b' → b = b' by decide) (show ∀ b, b < 0 → renOf [(0, 1)] b = b by decide) (by omega) (by simp)), by simp only; omega⟩
        simp [catR, catLen]
      case succ.zero =>
        (conv => whnf)
        refine ⟨rfl, _, ⟨by simp, rfl⟩, ?_⟩
        (conv => whnf)
        have h2' := h2
        rcases h2' with h | ⟨h, h0⟩
        · rw [h]
          (conv => whnf)
          refine ⟨⟨rfl, rfl, rfl, rfl, by decide⟩, by simp [catLen, catR], ⟨by simp [tab, tabOf, nth, catLen]; omega, by simp [catLen]; omega⟩, ?_⟩
          (conv => whnf)
          refine ⟨⟨2, by omega⟩, Wk.of (renOf [(0, 1)]) [] ⟨.osl_of rfl (by omega) (by simp [catLen]), h ▸ .free (pairV_free h2), .int_of rfl, .int_of rfl, trivial⟩ (LeH.of ⟨⟨by omega, .inl ⟨by simp, _, rfl, LeB.eq_of ?_ (rowsW_free (l1 ++ l2))⟩⟩, trivial⟩ (show ∀ b ∈ [0], ∀ b' ∈ [0], renOf [(0, 1)] b = renOf [(0, 1)] b' → b = b' by decide) (show ∀ b, b < 0 → renOf [(0, 1)] b = b by decide) (by omega) (by simp)), by simp only; omega⟩
          simp [catR, catLen]
          exact List.take_of_length_le (by simp)
        · rw [h]
          (conv => whnf)
          refine ⟨_, ⟨rfl, rfl, rfl, rfl, by decide⟩, by simp [catLen, catR], ⟨by simp [tab, tabOf, nth, catLen]; omega, by simp [catLen]; omega⟩, ?_⟩
          (conv => whnf)
          refine ⟨⟨2, by omega⟩, Wk.of (renOf [(0, 1)]) [] ⟨.osl_of rfl (by omega) (by simp [catLen, h0]), h ▸ .free (pairV_free h2), .int_of rfl, .int_of rfl, trivial⟩ (LeH.of ⟨⟨by omega, .inl ⟨by simp, _, rfl, LeB.eq_of ?_ (rowsW_free (l1 ++ l2))⟩⟩, trivial⟩ (show ∀ b ∈ [0], ∀ b' ∈ [0], renOf [(0, 1)] b = renOf [(0, 1)] b' → b = b' by decide) (show ∀ b, b < 0 → renOf [(0, 1)] b = b by decide) (by omega) (by simp)), by simp only; omega⟩
          simp [catR, catLen, h0]
          exact List.take_of_length_le (by simp)
      case succ.succ.zero =>
        (conv => whnf)
        refine Ends.pure [0] (LeV.freeze_of (by simp) rfl (by simp [catLen, catR]) (rowsW_free (l1 ++ l2)) ?_) (one_none rfl)
        simp [catLen, catR]
        exact List.take_of_length_le (by simp)
    · rename_i hc
      have h0 : l1.length + l2.length = 0 := by rw [hn] at hc; simp at hc; omega
      (conv => whnf)
      refine ⟨_, _, _, Ends.here, ?_⟩
      (conv => whnf)
      intro _
      (conv => whnf)
      refine vcg_loop tab_ok mixed (fun i : {i : Nat // i ≤ 2} => ⟨[(6, .osl 0 1 0 0), (25, pairV fr l1 v2), (26, .int .i64 2), (27, cI i.1)], [(0, some (.arr true false 23 1 []))], 1⟩) (fun i => 2 - i.1) ⟨0, by omega⟩ (Wk.of id [] ⟨.osl0, .free (pairV_free h2), .int_of rfl, .int_of rfl, trivial⟩ (LeH.of ⟨⟨by omega, .inr ⟨by simp, _, _, _, _, rfl⟩⟩, trivial⟩ (fun _ _ _ _ h => h) (fun _ _ => rfl) (by omega) (by simp))) (fun i => ?_)
      obtain rfl : l1 = [] := List.eq_nil_of_length_eq_zero (by omega)
      obtain rfl : l2 = [] := List.eq_nil_of_length_eq_zero (by omega)
      obtain ⟨i, hi⟩ := i
      rcases i with _ | _ | _ | i
      case succ.succ.succ => omega
      case zero =>
        (conv => whnf)
        refine ⟨rfl, _, ⟨by simp, rfl⟩, ?_⟩
        (conv => whnf)
        refine ⟨⟨rfl, rfl, rfl, rfl, by decide⟩, by simp, ⟨by simp [tab, tabOf, nth], by simp⟩, ?_⟩
        (conv => whnf)
        refine ⟨⟨1, by omega⟩, Wk.of (renOf [(0, 1)]) [] ⟨.osl_of rfl (by omega) (by simp), .free (pairV_free h2), .int_of rfl, .int_of rfl, trivial⟩ (LeH.of ⟨⟨by omega, .inl ⟨by simp, _, rfl, LeB.eq_of rfl (by intro x hx; simp at hx)⟩⟩, trivial⟩ (show ∀ b ∈ [0], ∀ b' ∈ [0], renOf [(0, 1)] b = renOf [(0, 1)] b' → b = b' by decide) (show ∀ b, b < 0 → renOf [(0, 1)] b = b by decide) (by omega) (by simp)), by simp only; omega⟩
      case succ.zero =>
        (conv => whnf)
        refine ⟨rfl, _, ⟨by simp, rfl⟩, ?_⟩
        (conv => whnf)
        have h2' := h2
        rcases h2' with h | ⟨h, h0⟩
        · rw [h]
          (conv => whnf)
          refine ⟨⟨rfl, rfl, rfl, rfl, by decide⟩, by simp, ⟨by simp [tab, tabOf, nth], by simp⟩, ?_⟩
          (conv => whnf)
          refine ⟨⟨2, by omega⟩, Wk.of (renOf [(0, 1)]) [] ⟨.osl_of rfl (by omega) (by simp), h ▸ .free (pairV_free h2), .int_of rfl, .int_of rfl, trivial⟩ (LeH.of ⟨⟨by omega, .inl ⟨by simp, _, rfl, LeB.eq_of rfl (by intro x hx; simp at hx)⟩⟩, trivial⟩ (show ∀ b ∈ [0], ∀ b' ∈ [0], renOf [(0, 1)] b = renOf [(0, 1)] b' → b = b' by decide) (show ∀ b, b < 0 → renOf [(0, 1)] b = b by decide) (by omega) (by simp)), by simp only; omega⟩
        · rw [h]
          (conv => whnf)
          refine ⟨_, ⟨rfl, rfl, rfl, rfl, by decide⟩, by simp, ⟨by simp [tab, tabOf, nth], by simp⟩, ?_⟩
          (conv => whnf)
          refine ⟨⟨2, by omega⟩, Wk.of (renOf [(0, 1)]) [] ⟨.osl_of rfl (by omega) (by simp), h ▸ .free (pairV_free h2), .int_of rfl, .int_of rfl, trivial⟩ (LeH.of ⟨⟨by omega, .inl ⟨by simp, _, rfl, LeB.eq_of rfl (by intro x hx; simp at hx)⟩⟩, trivial⟩ (show ∀ b ∈ [0], ∀ b' ∈ [0], renOf [(0, 1)] b = renOf [(0, 1)] b' → b = b' by decide) (show ∀ b, b < 0 → renOf [(0, 1)] b = b by decide) (by omega) (by simp)), by simp only; omega⟩
      case succ.succ.zero =>
        (conv => whnf)
        exact Ends.pure [0] (LeV.freeze_of (by simp) rfl (by simp) (by intro x hx; simp at hx) rfl) (one_none rfl)
end Go.Proofs.Ytcfkendgjinmiaa
