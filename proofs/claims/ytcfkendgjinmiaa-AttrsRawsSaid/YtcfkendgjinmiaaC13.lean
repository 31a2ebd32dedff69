/- Contract: a number of two bytes. -/
import Derived.Test.YtcfkendgjinmiaaC12
set_option linter.unusedVariables false
set_option linter.unusedSimpArgs false
namespace Go.Proofs.Ytcfkendgjinmiaa
open Go.RowKit
open Go.Proofs.Try (prog)
attribute [local irreducible] CallV RoundV

def twoB (n : Nat) : List UInt8 := [UInt8.ofNat (n / 256), UInt8.ofNat n]
def twoRows (n : Nat) : Nat → List (List V)
  | 0 => [[.int .u8 0], [.int .u8 0]]
  | 1 => [[.int .u8 0], [cB (UInt8.ofNat n)]]
  | _ => [[cB (UInt8.ofNat (n / 256))], [cB (UInt8.ofNat n)]]
def shrI (n : Nat) : Nat → Int
  | 0 => n
  | 1 => (n / 256 : Nat)
  | _ => (n / 65536 : Nat)
theorem twoRows_free (n : Nat) (k : Nat) : ∀ r ∈ twoRows n k, ∀ v ∈ r, Free v := by
  intro r hr v hv
  unfold twoRows at hr
  split at hr <;> (simp at hr; rcases hr with rfl | rfl <;> (simp at hv; subst hv; exact .int))
theorem shI_step (n : Nat) {m : Nat} (h : m = n / 256) (hn : n < 65536) : IntKind.i64.wrap ((IntKind.u64.wrap (n : Int)).fdiv (2 ^ (min (Int.toNat 8) IntKind.u64.bits))) = (m : Int) := by
  have h1 : IntKind.u64.wrap (n : Int) = n := by rw [wrapu64]; omega
  have e : (2 : Int) ^ (min (Int.toNat 8) IntKind.u64.bits) = 256 := by decide
  rw [h1, e, h, Int.fdiv_eq_ediv_of_nonneg _ (by decide), wrap64 (by omega) (by omega)]
  omega
set_option maxRecDepth 100000 in
theorem highI_ok (n : Nat) (hn : n < 65536) : PCon prog 37 [cI n, .int .i64 2] (encB true (twoB n)) := by
  refine callV_of (fn := Go.Proofs.Try.f37) (body := _) tab_ok mixed rfl rfl (by decide) (by simp [Go.Proofs.Try.f37]) ?_
  (conv => whnf)
  refine ⟨⟨by omega, by omega, by simp [tab, tabOf, nth], by omega⟩, ?_⟩
  (conv => whnf)
  refine callV_of (fn := Go.Proofs.Try.f80) (body := _) tab_ok mixed rfl rfl (by decide) (by simp [Go.Proofs.Try.f80]) ?_
  (conv => whnf)
  refine ⟨_, _, _, Ends.here, ?_⟩
  (conv => whnf)
  refine callV_loop [(2, .ptr 0 0), (5, .ptr 2 0)] ⟨rfl, rfl, trivial⟩ fun asg' body' hasg hbody => ?_
  refine callV_of (fn := Go.Proofs.Try.f99) (body := _) tab_ok mixed rfl rfl (by decide) (by simp [Go.Proofs.Try.f99]) ?_
  (conv => whnf)
  intro _
  (conv => whnf)
  refine vcg_loop tab_ok mixed (fun k : {k : Nat // k ≤ 2} => ⟨[(0, .yld 4), (1, .ptr 3 0), (3, .int .i64 (1 - k.1))], [(4, some (.loop 23 [(2, .ptr 0 0), (5, .ptr 2 0)] [11, 12] asg' body' .ready none)), (0, some (.var true 3 [.int .i64 (shrI n k.1)])), (1, some (.arr true true 5 1 (twoRows n k.1))), (2, some (.var true 30 [.osl 1 1 0 2])), (3, some (.var true 30 [.osl 1 1 0 2]))], 5⟩) (fun k => 2 - k.1) ⟨0, by omega⟩ ?_ (fun k => ?_)
  · refine Wk.of id [] ⟨?_, ?_, ?_, trivial⟩ (LeH.of ⟨⟨by omega, .inl ⟨by simp, _, rfl, ?_⟩⟩, ⟨by omega, .inl ⟨by simp, _, rfl, ?_⟩⟩, ⟨by omega, .inl ⟨by simp, _, rfl, ?_⟩⟩, ⟨by omega, .inl ⟨by simp, _, rfl, ?_⟩⟩, ⟨by omega, .inl ⟨by simp, _, rfl, ?_⟩⟩, trivial⟩ (fun _ _ _ _ h => h) (fun _ _ => rfl) (by omega) (by simp))
    · exact .yld rfl (by omega)
    · exact .ptr rfl (by omega)
    · exact .int_of rfl
    · exact ⟨rfl, rfl, rfl, rfl, rfl, rfl, .ptr rfl (by omega), .ptr rfl (by omega), trivial⟩
    · exact ⟨id, rfl, .int_of rfl, trivial⟩
    · exact LeB.free (blk := .arr true true 5 1 (twoRows n 0)) (twoRows_free n 0)
    · exact ⟨id, rfl, .osl_of rfl (by omega) rfl, trivial⟩
    · exact ⟨id, rfl, .osl_of rfl (by omega) rfl, trivial⟩
  obtain ⟨k, hk⟩ := k
  rcases k with _ | _ | _ | k
  case succ.succ.succ => omega
  case succ.succ.zero =>
    (conv => whnf)
    refine ⟨_, _, _, Ends.here, ?_⟩
    (conv => whnf)
    refine Ends.pure [1] ?_ ?_
    · refine LeV.freeze_of (by simp) rfl (by simp [twoRows]) (twoRows_free n 2) ?_
      simp [twoRows, twoB]
    · intro z hz
      obtain rfl := List.mem_singleton.1 hz
      exact ne_none_of rfl
  · (conv => whnf)
    refine ⟨rfl, ⟨by simp, by simp⟩, ?_⟩
    (conv => whnf)
    refine ⟨rfl, _, rfl, ?_⟩
    (conv => whnf)
    subst hasg hbody
    refine roundV_of tab_ok mixed rfl (by simp) (show 4 < 5 by omega) ?_
    (conv => whnf)
    refine ⟨rfl, ?_⟩
    (conv => whnf)
    refine ⟨rfl, ⟨by simp, by simp⟩, ?_⟩
    (conv => whnf)
    refine ⟨rfl, _, rfl, ?_⟩
    (conv => whnf)
    refine ⟨by decide, ?_⟩
    (conv => whnf)
    refine ⟨rfl, ?_⟩
    (conv => whnf)
    refine ⟨⟨1, by omega⟩, Wk.of id [] ⟨.yld rfl (by omega), .ptr rfl (by omega), .int_of ?_, trivial⟩ (LeH.of ⟨⟨by omega, .inl ⟨by simp, _, rfl, rfl, rfl, rfl, rfl, rfl, rfl, .ptr rfl (by omega), .ptr rfl (by omega), trivial⟩⟩, ⟨by omega, .inl ⟨by simp, _, rfl, id, rfl, .int_of ?_, trivial⟩⟩, ⟨by omega, .inl ⟨by simp, _, rfl, LeB.eq_of ?_ (twoRows_free n 1)⟩⟩, ⟨by omega, .inl ⟨by simp, _, rfl, id, rfl, .osl_of rfl (by omega) rfl, trivial⟩⟩, ⟨by omega, .inl ⟨by simp, _, rfl, id, rfl, .osl_of rfl (by omega) rfl, trivial⟩⟩, trivial⟩ (fun _ _ _ _ h => h) (fun _ _ => rfl) (by omega) (by simp)), ?_⟩
    · simp [wrap64']
    · exact shI_step _ (by simp [Nat.div_div_eq_div_mul]) (by omega)
    · simp [twoRows, shrI, cB, wrap8]
    · simp
  · (conv => whnf)
    refine ⟨rfl, ⟨by simp, by simp⟩, ?_⟩
    (conv => whnf)
    refine ⟨rfl, _, rfl, ?_⟩
    (conv => whnf)
    subst hasg hbody
    refine roundV_of tab_ok mixed rfl (by simp) (show 4 < 5 by omega) ?_
    (conv => whnf)
    refine ⟨rfl, ?_⟩
    (conv => whnf)
    refine ⟨rfl, ⟨by simp, by simp⟩, ?_⟩
    (conv => whnf)
    refine ⟨rfl, _, rfl, ?_⟩
    (conv => whnf)
    refine ⟨by decide, ?_⟩
    (conv => whnf)
    refine ⟨rfl, ?_⟩
    (conv => whnf)
    refine ⟨⟨2, by omega⟩, Wk.of id [] ⟨.yld rfl (by omega), .ptr rfl (by omega), .int_of ?_, trivial⟩ (LeH.of ⟨⟨by omega, .inl ⟨by simp, _, rfl, rfl, rfl, rfl, rfl, rfl, rfl, .ptr rfl (by omega), .ptr rfl (by omega), trivial⟩⟩, ⟨by omega, .inl ⟨by simp, _, rfl, id, rfl, .int_of ?_, trivial⟩⟩, ⟨by omega, .inl ⟨by simp, _, rfl, LeB.eq_of ?_ (twoRows_free n 2)⟩⟩, ⟨by omega, .inl ⟨by simp, _, rfl, id, rfl, .osl_of rfl (by omega) rfl, trivial⟩⟩, ⟨by omega, .inl ⟨by simp, _, rfl, id, rfl, .osl_of rfl (by omega) rfl, trivial⟩⟩, trivial⟩ (fun _ _ _ _ h => h) (fun _ _ => rfl) (by omega) (by simp)), ?_⟩
    · simp [wrap64']
    · exact shI_step _ (by simp [Nat.div_div_eq_div_mul]) (by omega)
    · simp [twoRows, shrI, cB, wrap8]
    · simp
end Go.Proofs.Ytcfkendgjinmiaa
