/- Joined: T1, T2, T3, T4. -/
import Derived.Test.YtjpfofmkgdjelaaGreatK8
import Derived.Test.YtjpfofmkgdjelaaGreatK2
/- Contracts: numbers of policies, written. -/
set_option linter.unusedVariables false
set_option linter.unusedSimpArgs false
namespace Go.Proofs.YtjpfofmkgdjelaaGreat
open Go.RowKit
open Go.Proofs.Tryz (prog)
attribute [local irreducible] CallV RoundV aggK

set_option maxRecDepth 100000 in
theorem highW_ok (x : UInt32) : PCon prog 115 [cW x, .int .i64 4] (encB true (fourB x)) := by
  refine callV_of (fn := Go.Proofs.Tryz.f115) (body := _) tab_ok mixed rfl rfl (by decide) (by simp [Go.Proofs.Tryz.f115]) ?_
  (conv => whnf)
  refine ⟨⟨by omega, by omega, by simp [tab, tabOf, nth], by omega⟩, ?_⟩
  (conv => whnf)
  refine callV_of (fn := Go.Proofs.Tryz.f127) (body := _) tab_ok mixed rfl rfl (by decide) (by simp [Go.Proofs.Tryz.f127]) ?_
  (conv => whnf)
  refine ⟨_, _, _, Ends.here, ?_⟩
  (conv => whnf)
  refine callV_loop [(2, .ptr 0 0), (5, .ptr 2 0)] ⟨rfl, rfl, trivial⟩ fun asg' body' hasg hbody => ?_
  refine callV_of (fn := Go.Proofs.Tryz.f130) (body := _) tab_ok mixed rfl rfl (by decide) (by simp [Go.Proofs.Tryz.f130]) ?_
  (conv => whnf)
  intro _
  (conv => whnf)
  refine vcg_loop tab_ok mixed (fun k : {k : Nat // k ≤ 4} => ⟨[(0, .yld 4), (1, .ptr 3 0), (3, .int .i64 (3 - k.1))], [(4, some (.loop 23 [(2, .ptr 0 0), (5, .ptr 2 0)] [11, 12] asg' body' .ready none)), (0, some (.var true 22 [.int .u32 (shr8 x k.1)])), (1, some (.arr true true 5 1 (highRows x k.1))), (2, some (.var true 51 [.osl 1 1 0 4])), (3, some (.var true 51 [.osl 1 1 0 4]))], 5⟩) (fun k => 4 - k.1) ⟨0, by omega⟩ ?_ (fun k => ?_)
  · refine Wk.of id [] ⟨?_, ?_, ?_, trivial⟩ (LeH.of ⟨⟨by omega, .inl ⟨by simp, _, rfl, ?_⟩⟩, ⟨by omega, .inl ⟨by simp, _, rfl, ?_⟩⟩, ⟨by omega, .inl ⟨by simp, _, rfl, ?_⟩⟩, ⟨by omega, .inl ⟨by simp, _, rfl, ?_⟩⟩, ⟨by omega, .inl ⟨by simp, _, rfl, ?_⟩⟩, trivial⟩ (fun _ _ _ _ h => h) (fun _ _ => rfl) (by omega) (by simp))
    · exact .yld rfl (by omega)
    · exact .ptr rfl (by omega)
    · exact .int_of rfl
    · exact ⟨rfl, rfl, rfl, rfl, rfl, rfl, .ptr rfl (by omega), .ptr rfl (by omega), trivial⟩
    · exact ⟨id, rfl, .int_of rfl, trivial⟩
    · exact LeB.free (blk := .arr true true 5 1 (highRows x 0)) (highRows_free x 0)
    · exact ⟨id, rfl, .osl_of rfl (by omega) rfl, trivial⟩
    · exact ⟨id, rfl, .osl_of rfl (by omega) rfl, trivial⟩
  obtain ⟨k, hk⟩ := k
  rcases k with _ | _ | _ | _ | _ | k
  case succ.succ.succ.succ.succ => omega
  case succ.succ.succ.succ.zero =>
    (conv => whnf)
    refine ⟨_, _, _, Ends.here, ?_⟩
    (conv => whnf)
    refine Ends.pure [1] ?_ ?_
    · refine LeV.freeze_of (by simp) rfl (by simp [highRows]) (highRows_free x 4) ?_
      simp [highRows, fourB]
    · intro z hz
      obtain rfl := List.mem_singleton.1 hz
      exact ne_none_of rfl
  · (conv => whnf)
    refine ⟨rfl, ⟨by simp, by simp⟩, ?_⟩
    (conv => whnf)
    refine ⟨rfl, _, rfl, ?_⟩
    (conv => whnf)
    subst hasg hbody
    refine roundV_of tab_ok mixed rfl (by simp) (show 4 < 5 by omega) ?_
    (conv => whnf)
    refine ⟨rfl, ?_⟩
    (conv => whnf)
    refine ⟨rfl, ⟨by simp, by simp⟩, ?_⟩
    (conv => whnf)
    refine ⟨rfl, _, rfl, ?_⟩
    (conv => whnf)
    refine ⟨by decide, ?_⟩
    (conv => whnf)
    refine ⟨rfl, ?_⟩
    (conv => whnf)
    refine ⟨⟨1, by omega⟩, Wk.of id [] ⟨.yld rfl (by omega), .ptr rfl (by omega), .int_of ?_, trivial⟩ (LeH.of ⟨⟨by omega, .inl ⟨by simp, _, rfl, rfl, rfl, rfl, rfl, rfl, rfl, .ptr rfl (by omega), .ptr rfl (by omega), trivial⟩⟩, ⟨by omega, .inl ⟨by simp, _, rfl, id, rfl, .int_of ?_, trivial⟩⟩, ⟨by omega, .inl ⟨by simp, _, rfl, LeB.eq_of ?_ (highRows_free x 1)⟩⟩, ⟨by omega, .inl ⟨by simp, _, rfl, id, rfl, .osl_of rfl (by omega) rfl, trivial⟩⟩, ⟨by omega, .inl ⟨by simp, _, rfl, id, rfl, .osl_of rfl (by omega) rfl, trivial⟩⟩, trivial⟩ (fun _ _ _ _ h => h) (fun _ _ => rfl) (by omega) (by simp)), ?_⟩
    · simp [wrap64']
    · refine sh_step ?_
      have := x.toNat_lt
      simp [UInt32.toNat_shiftRight, Nat.shiftRight_eq_div_pow, Nat.div_div_eq_div_mul] <;> omega
    · simp [highRows, shr8, cB, wrap8]
    · simp
  · (conv => whnf)
    refine ⟨rfl, ⟨by simp, by simp⟩, ?_⟩
    (conv => whnf)
    refine ⟨rfl, _, rfl, ?_⟩
    (conv => whnf)
    subst hasg hbody
    refine roundV_of tab_ok mixed rfl (by simp) (show 4 < 5 by omega) ?_
    (conv => whnf)
    refine ⟨rfl, ?_⟩
    (conv => whnf)
    refine ⟨rfl, ⟨by simp, by simp⟩, ?_⟩
    (conv => whnf)
    refine ⟨rfl, _, rfl, ?_⟩
    (conv => whnf)
    refine ⟨by decide, ?_⟩
    (conv => whnf)
    refine ⟨rfl, ?_⟩
    (conv => whnf)
    refine ⟨⟨2, by omega⟩, Wk.of id [] ⟨.yld rfl (by omega), .ptr rfl (by omega), .int_of ?_, trivial⟩ (LeH.of ⟨⟨by omega, .inl ⟨by simp, _, rfl, rfl, rfl, rfl, rfl, rfl, rfl, .ptr rfl (by omega), .ptr rfl (by omega), trivial⟩⟩, ⟨by omega, .inl ⟨by simp, _, rfl, id, rfl, .int_of ?_, trivial⟩⟩, ⟨by omega, .inl ⟨by simp, _, rfl, LeB.eq_of ?_ (highRows_free x 2)⟩⟩, ⟨by omega, .inl ⟨by simp, _, rfl, id, rfl, .osl_of rfl (by omega) rfl, trivial⟩⟩, ⟨by omega, .inl ⟨by simp, _, rfl, id, rfl, .osl_of rfl (by omega) rfl, trivial⟩⟩, trivial⟩ (fun _ _ _ _ h => h) (fun _ _ => rfl) (by omega) (by simp)), ?_⟩
    · simp [wrap64']
    · refine sh_step ?_
      have := x.toNat_lt
      simp [UInt32.toNat_shiftRight, Nat.shiftRight_eq_div_pow, Nat.div_div_eq_div_mul] <;> omega
    · simp [highRows, shr8, cB, wrap8]
    · simp
  · (conv => whnf)
    refine ⟨rfl, ⟨by simp, by simp⟩, ?_⟩
    (conv => whnf)
    refine ⟨rfl, _, rfl, ?_⟩
    (conv => whnf)
    subst hasg hbody
    refine roundV_of tab_ok mixed rfl (by simp) (show 4 < 5 by omega) ?_
    (conv => whnf)
    refine ⟨rfl, ?_⟩
    (conv => whnf)
    refine ⟨rfl, ⟨by simp, by simp⟩, ?_⟩
    (conv => whnf)
    refine ⟨rfl, _, rfl, ?_⟩
    (conv => whnf)
    refine ⟨by decide, ?_⟩
    (conv => whnf)
    refine ⟨rfl, ?_⟩
    (conv => whnf)
    refine ⟨⟨3, by omega⟩, Wk.of id [] ⟨.yld rfl (by omega), .ptr rfl (by omega), .int_of ?_, trivial⟩ (LeH.of ⟨⟨by omega, .inl ⟨by simp, _, rfl, rfl, rfl, rfl, rfl, rfl, rfl, .ptr rfl (by omega), .ptr rfl (by omega), trivial⟩⟩, ⟨by omega, .inl ⟨by simp, _, rfl, id, rfl, .int_of ?_, trivial⟩⟩, ⟨by omega, .inl ⟨by simp, _, rfl, LeB.eq_of ?_ (highRows_free x 3)⟩⟩, ⟨by omega, .inl ⟨by simp, _, rfl, id, rfl, .osl_of rfl (by omega) rfl, trivial⟩⟩, ⟨by omega, .inl ⟨by simp, _, rfl, id, rfl, .osl_of rfl (by omega) rfl, trivial⟩⟩, trivial⟩ (fun _ _ _ _ h => h) (fun _ _ => rfl) (by omega) (by simp)), ?_⟩
    · simp [wrap64']
    · refine sh_step ?_
      have := x.toNat_lt
      simp [UInt32.toNat_shiftRight, Nat.shiftRight_eq_div_pow, Nat.div_div_eq_div_mul] <;> omega
    · simp [highRows, shr8, cB, wrap8]
    · simp
  · (conv => whnf)
    refine ⟨rfl, ⟨by simp, by simp⟩, ?_⟩
    (conv => whnf)
    refine ⟨rfl, _, rfl, ?_⟩
    (conv => whnf)
    subst hasg hbody
    refine roundV_of tab_ok mixed rfl (by simp) (show 4 < 5 by omega) ?_
    (conv => whnf)
    refine ⟨rfl, ?_⟩
    (conv => whnf)
    refine ⟨rfl, ⟨by simp, by simp⟩, ?_⟩
    (conv => whnf)
    refine ⟨rfl, _, rfl, ?_⟩
    (conv => whnf)
    refine ⟨by decide, ?_⟩
    (conv => whnf)
    refine ⟨rfl, ?_⟩
    (conv => whnf)
    refine ⟨⟨4, by omega⟩, Wk.of id [] ⟨.yld rfl (by omega), .ptr rfl (by omega), .int_of ?_, trivial⟩ (LeH.of ⟨⟨by omega, .inl ⟨by simp, _, rfl, rfl, rfl, rfl, rfl, rfl, rfl, .ptr rfl (by omega), .ptr rfl (by omega), trivial⟩⟩, ⟨by omega, .inl ⟨by simp, _, rfl, id, rfl, .int_of ?_, trivial⟩⟩, ⟨by omega, .inl ⟨by simp, _, rfl, LeB.eq_of ?_ (highRows_free x 4)⟩⟩, ⟨by omega, .inl ⟨by simp, _, rfl, id, rfl, .osl_of rfl (by omega) rfl, trivial⟩⟩, ⟨by omega, .inl ⟨by simp, _, rfl, id, rfl, .osl_of rfl (by omega) rfl, trivial⟩⟩, trivial⟩ (fun _ _ _ _ h => h) (fun _ _ => rfl) (by omega) (by simp)), ?_⟩
    · simp [wrap64']
    · refine sh_step ?_
      have := x.toNat_lt
      simp [UInt32.toNat_shiftRight, Nat.shiftRight_eq_div_pow, Nat.div_div_eq_div_mul] <;> omega
    · simp [highRows, shr8, cB, wrap8]
    · simp
set_option maxRecDepth 100000 in
theorem highB_ok (x : UInt8) : PCon prog 118 [cB x, .int .i64 1] (encB true [x]) := by
  refine callV_of (fn := Go.Proofs.Tryz.f118) (body := _) tab_ok mixed rfl rfl (by decide) (by simp [Go.Proofs.Tryz.f118]) ?_
  (conv => whnf)
  refine ⟨⟨by omega, by omega, by simp [tab, tabOf, nth], by omega⟩, ?_⟩
  (conv => whnf)
  refine callV_of (fn := Go.Proofs.Tryz.f127) (body := _) tab_ok mixed rfl rfl (by decide) (by simp [Go.Proofs.Tryz.f127]) ?_
  (conv => whnf)
  refine ⟨_, _, _, Ends.here, ?_⟩
  (conv => whnf)
  refine callV_loop [(2, .ptr 0 0), (5, .ptr 2 0)] ⟨rfl, rfl, trivial⟩ fun asg' body' hasg hbody => ?_
  refine callV_of (fn := Go.Proofs.Tryz.f130) (body := _) tab_ok mixed rfl rfl (by decide) (by simp [Go.Proofs.Tryz.f130]) ?_
  (conv => whnf)
  intro _
  (conv => whnf)
  refine vcg_loop tab_ok mixed (fun k : {k : Nat // k ≤ 1} => ⟨[(0, .yld 4), (1, .ptr 3 0), (3, .int .i64 (0 - k.1))], [(4, some (.loop 22 [(2, .ptr 0 0), (5, .ptr 2 0)] [11, 12] asg' body' .ready none)), (0, some (.var true 5 [.int .u8 (if k.1 = 0 then (x.toNat : Int) else 0)])), (1, some (.arr true true 5 1 [[.int .u8 (if k.1 = 0 then (0 : Int) else x.toNat)]])), (2, some (.var true 51 [.osl 1 1 0 1])), (3, some (.var true 51 [.osl 1 1 0 1]))], 5⟩) (fun k => 1 - k.1) ⟨0, by omega⟩ ?_ (fun k => ?_)
  · refine Wk.of id [] ⟨?_, ?_, ?_, trivial⟩ (LeH.of ⟨⟨by omega, .inl ⟨by simp, _, rfl, ?_⟩⟩, ⟨by omega, .inl ⟨by simp, _, rfl, ?_⟩⟩, ⟨by omega, .inl ⟨by simp, _, rfl, ?_⟩⟩, ⟨by omega, .inl ⟨by simp, _, rfl, ?_⟩⟩, ⟨by omega, .inl ⟨by simp, _, rfl, ?_⟩⟩, trivial⟩ (fun _ _ _ _ h => h) (fun _ _ => rfl) (by omega) (by simp))
    · exact .yld rfl (by omega)
    · exact .ptr rfl (by omega)
    · exact .int_of rfl
    · exact ⟨rfl, rfl, rfl, rfl, rfl, rfl, .ptr rfl (by omega), .ptr rfl (by omega), trivial⟩
    · exact ⟨id, rfl, .int_of rfl, trivial⟩
    · exact LeB.eq_of rfl (by intro r hr v hv; simp at hr; subst hr; simp at hv; subst hv; exact .int)
    · exact ⟨id, rfl, .osl_of rfl (by omega) rfl, trivial⟩
    · exact ⟨id, rfl, .osl_of rfl (by omega) rfl, trivial⟩
  obtain ⟨k, hk⟩ := k
  rcases k with _ | _ | k
  case succ.succ => omega
  case succ.zero =>
    (conv => whnf)
    refine ⟨_, _, _, Ends.here, ?_⟩
    (conv => whnf)
    refine Ends.pure [1] ?_ ?_
    · refine LeV.freeze_of (ys := [[cB x]]) (by simp) rfl (by simp) (by intro r hr v hv; simp at hr; subst hr; simp at hv; subst hv; exact .int) ?_
      simp [cB]
    · intro z hz
      obtain rfl := List.mem_singleton.1 hz
      exact ne_none_of rfl
  · (conv => whnf)
    refine ⟨rfl, ⟨by simp, by simp⟩, ?_⟩
    (conv => whnf)
    refine ⟨rfl, _, rfl, ?_⟩
    (conv => whnf)
    subst hasg hbody
    refine roundV_of tab_ok mixed rfl (by simp) (show 4 < 5 by omega) ?_
    (conv => whnf)
    refine ⟨rfl, ?_⟩
    (conv => whnf)
    refine ⟨rfl, ⟨by simp, by simp⟩, ?_⟩
    (conv => whnf)
    refine ⟨rfl, _, rfl, ?_⟩
    (conv => whnf)
    refine ⟨by decide, ?_⟩
    (conv => whnf)
    refine ⟨rfl, ?_⟩
    (conv => whnf)
    refine ⟨⟨1, by omega⟩, Wk.of id [] ⟨.yld rfl (by omega), .ptr rfl (by omega), .int_of ?_, trivial⟩ (LeH.of ⟨⟨by omega, .inl ⟨by simp, _, rfl, rfl, rfl, rfl, rfl, rfl, rfl, .ptr rfl (by omega), .ptr rfl (by omega), trivial⟩⟩, ⟨by omega, .inl ⟨by simp, _, rfl, id, rfl, .int_of ?_, trivial⟩⟩, ⟨by omega, .inl ⟨by simp, _, rfl, LeB.eq_of ?_ (by intro r hr v hv; simp at hr; subst hr; simp at hv; subst hv; exact .int)⟩⟩, ⟨by omega, .inl ⟨by simp, _, rfl, id, rfl, .osl_of rfl (by omega) rfl, trivial⟩⟩, ⟨by omega, .inl ⟨by simp, _, rfl, id, rfl, .osl_of rfl (by omega) rfl, trivial⟩⟩, trivial⟩ (fun _ _ _ _ h => h) (fun _ _ => rfl) (by omega) (by simp)), ?_⟩
    · simp [wrap64']
    · have := x.toNat_lt
      have h1 : IntKind.u64.wrap (x.toNat : Int) = x.toNat := by rw [wrapu64]; omega
      have e : (2 : Int) ^ (min (Int.toNat 8) IntKind.u64.bits) = 256 := by decide
      simp only [h1, e, wrap8]
      rw [Int.fdiv_eq_ediv_of_nonneg _ (by decide)]
      simp
      omega
    · simp [cB, wrap8]
    · simp
end Go.Proofs.YtjpfofmkgdjelaaGreat
/- Contracts: a rule's parts laid. -/
set_option linter.unusedVariables false
set_option linter.unusedSimpArgs false
namespace Go.Proofs.YtjpfofmkgdjelaaGreat
open Go.RowKit
open Go.Proofs.Tryz (prog)
attribute [local irreducible] CallV RoundV aggK

theorem pureV_intoR {f : FuncId} {k nx b : Nat} {fr : Bool} {r : Rule} {h : Heap} (hc : CallV prog f [.ptr 0 0] [(0, some (.var fr 26 (cellsRu r)))] 1 (fun v' h' nx' => v' = .ptr 0 k ∧ h' = [(0, some (.var fr 26 (cellsRu r)))] ∧ nx' = 1))
    (hb : hget h b = some (.var fr 26 (cellsRu r))) : PureV prog f [.ptr b 0] (.ptr b k) h nx := pureV_into hc hb (cellsRu_free r) ⟨.ptr rfl (by omega), trivial⟩
set_option maxRecDepth 100000 in
theorem into3_ok (fr : Bool) (r : Rule) : CallV prog 88 [.ptr 0 0] [(0, some (.var fr 26 (cellsRu r)))] 1 (fun v' h' nx' => v' = .ptr 0 0 ∧ h' = [(0, some (.var fr 26 (cellsRu r)))] ∧ nx' = 1) := by
  refine callV_of (fn := Go.Proofs.Tryz.f88) (body := _) tab_ok mixed rfl rfl (by decide) (by simp [Go.Proofs.Tryz.f88]) ?_
  (conv => whnf)
  exact ⟨_, _, _, (Ends.all id [] (by repeat' (first | exact True.intro | exact id | exact rfl | decide | exact Nat.le_of_ble_eq_true rfl | exact .ptr rfl (by omega) | exact .osl_of rfl (by omega) rfl | exact .fr rfl | exact LeL.fr rfl | exact .yld rfl (by omega) | exact .eptr rfl (by omega) | exact .osl0 | exact .snil_sl | exact .to_any | exact LeV.nineA | exact LeV.noA | exact LeB.fr rfl id id | exact LeB.fr (by simp; done) id id | refine Or.inl ⟨by simp, _, rfl, ?_⟩ | exact Or.inr ⟨by simp, _, _, _, _, rfl⟩ | refine ⟨rfl, rfl, rfl, rfl, rfl, rfl, ?_⟩ | refine ⟨?_, ?_⟩)) (fun _ _ _ _ h => h) (fun _ _ => rfl) (by omega) (by simp)), rfl, rfl, rfl⟩
set_option maxRecDepth 100000 in
theorem into9_ok (fr : Bool) (r : Rule) : CallV prog 95 [.ptr 0 0] [(0, some (.var fr 26 (cellsRu r)))] 1 (fun v' h' nx' => v' = .ptr 0 5 ∧ h' = [(0, some (.var fr 26 (cellsRu r)))] ∧ nx' = 1) := by
  refine callV_of (fn := Go.Proofs.Tryz.f95) (body := _) tab_ok mixed rfl rfl (by decide) (by simp [Go.Proofs.Tryz.f95]) ?_
  (conv => whnf)
  exact ⟨_, _, _, (Ends.all id [] (by repeat' (first | exact True.intro | exact id | exact rfl | decide | exact Nat.le_of_ble_eq_true rfl | exact .ptr rfl (by omega) | exact .osl_of rfl (by omega) rfl | exact .fr rfl | exact LeL.fr rfl | exact .yld rfl (by omega) | exact .eptr rfl (by omega) | exact .osl0 | exact .snil_sl | exact .to_any | exact LeV.nineA | exact LeV.noA | exact LeB.fr rfl id id | exact LeB.fr (by simp; done) id id | refine Or.inl ⟨by simp, _, rfl, ?_⟩ | exact Or.inr ⟨by simp, _, _, _, _, rfl⟩ | refine ⟨rfl, rfl, rfl, rfl, rfl, rfl, ?_⟩ | refine ⟨?_, ?_⟩)) (fun _ _ _ _ h => h) (fun _ _ => rfl) (by omega) (by simp)), rfl, rfl, rfl⟩
set_option maxRecDepth 100000 in
theorem into10_ok (fr : Bool) (r : Rule) : CallV prog 96 [.ptr 0 0] [(0, some (.var fr 26 (cellsRu r)))] 1 (fun v' h' nx' => v' = .ptr 0 6 ∧ h' = [(0, some (.var fr 26 (cellsRu r)))] ∧ nx' = 1) := by
  refine callV_of (fn := Go.Proofs.Tryz.f96) (body := _) tab_ok mixed rfl rfl (by decide) (by simp [Go.Proofs.Tryz.f96]) ?_
  (conv => whnf)
  exact ⟨_, _, _, (Ends.all id [] (by repeat' (first | exact True.intro | exact id | exact rfl | decide | exact Nat.le_of_ble_eq_true rfl | exact .ptr rfl (by omega) | exact .osl_of rfl (by omega) rfl | exact .fr rfl | exact LeL.fr rfl | exact .yld rfl (by omega) | exact .eptr rfl (by omega) | exact .osl0 | exact .snil_sl | exact .to_any | exact LeV.nineA | exact LeV.noA | exact LeB.fr rfl id id | exact LeB.fr (by simp; done) id id | refine Or.inl ⟨by simp, _, rfl, ?_⟩ | exact Or.inr ⟨by simp, _, _, _, _, rfl⟩ | refine ⟨rfl, rfl, rfl, rfl, rfl, rfl, ?_⟩ | refine ⟨?_, ?_⟩)) (fun _ _ _ _ h => h) (fun _ _ => rfl) (by omega) (by simp)), rfl, rfl, rfl⟩
set_option maxRecDepth 100000 in
theorem into11_ok (fr : Bool) (r : Rule) : CallV prog 97 [.ptr 0 0] [(0, some (.var fr 26 (cellsRu r)))] 1 (fun v' h' nx' => v' = .ptr 0 11 ∧ h' = [(0, some (.var fr 26 (cellsRu r)))] ∧ nx' = 1) := by
  refine callV_of (fn := Go.Proofs.Tryz.f97) (body := _) tab_ok mixed rfl rfl (by decide) (by simp [Go.Proofs.Tryz.f97]) ?_
  (conv => whnf)
  exact ⟨_, _, _, (Ends.all id [] (by repeat' (first | exact True.intro | exact id | exact rfl | decide | exact Nat.le_of_ble_eq_true rfl | exact .ptr rfl (by omega) | exact .osl_of rfl (by omega) rfl | exact .fr rfl | exact LeL.fr rfl | exact .yld rfl (by omega) | exact .eptr rfl (by omega) | exact .osl0 | exact .snil_sl | exact .to_any | exact LeV.nineA | exact LeV.noA | exact LeB.fr rfl id id | exact LeB.fr (by simp; done) id id | refine Or.inl ⟨by simp, _, rfl, ?_⟩ | exact Or.inr ⟨by simp, _, _, _, _, rfl⟩ | refine ⟨rfl, rfl, rfl, rfl, rfl, rfl, ?_⟩ | refine ⟨?_, ?_⟩)) (fun _ _ _ _ h => h) (fun _ _ => rfl) (by omega) (by simp)), rfl, rfl, rfl⟩
set_option maxRecDepth 100000 in
theorem into12_ok (fr : Bool) (r : Rule) : CallV prog 98 [.ptr 0 0] [(0, some (.var fr 26 (cellsRu r)))] 1 (fun v' h' nx' => v' = .ptr 0 12 ∧ h' = [(0, some (.var fr 26 (cellsRu r)))] ∧ nx' = 1) := by
  refine callV_of (fn := Go.Proofs.Tryz.f98) (body := _) tab_ok mixed rfl rfl (by decide) (by simp [Go.Proofs.Tryz.f98]) ?_
  (conv => whnf)
  exact ⟨_, _, _, (Ends.all id [] (by repeat' (first | exact True.intro | exact id | exact rfl | decide | exact Nat.le_of_ble_eq_true rfl | exact .ptr rfl (by omega) | exact .osl_of rfl (by omega) rfl | exact .fr rfl | exact LeL.fr rfl | exact .yld rfl (by omega) | exact .eptr rfl (by omega) | exact .osl0 | exact .snil_sl | exact .to_any | exact LeV.nineA | exact LeV.noA | exact LeB.fr rfl id id | exact LeB.fr (by simp; done) id id | refine Or.inl ⟨by simp, _, rfl, ?_⟩ | exact Or.inr ⟨by simp, _, _, _, _, rfl⟩ | refine ⟨rfl, rfl, rfl, rfl, rfl, rfl, ?_⟩ | refine ⟨?_, ?_⟩)) (fun _ _ _ _ h => h) (fun _ _ => rfl) (by omega) (by simp)), rfl, rfl, rfl⟩
set_option maxRecDepth 100000 in
theorem into13_ok (fr : Bool) (r : Rule) : CallV prog 99 [.ptr 0 0] [(0, some (.var fr 26 (cellsRu r)))] 1 (fun v' h' nx' => v' = .ptr 0 13 ∧ h' = [(0, some (.var fr 26 (cellsRu r)))] ∧ nx' = 1) := by
  refine callV_of (fn := Go.Proofs.Tryz.f99) (body := _) tab_ok mixed rfl rfl (by decide) (by simp [Go.Proofs.Tryz.f99]) ?_
  (conv => whnf)
  exact ⟨_, _, _, (Ends.all id [] (by repeat' (first | exact True.intro | exact id | exact rfl | decide | exact Nat.le_of_ble_eq_true rfl | exact .ptr rfl (by omega) | exact .osl_of rfl (by omega) rfl | exact .fr rfl | exact LeL.fr rfl | exact .yld rfl (by omega) | exact .eptr rfl (by omega) | exact .osl0 | exact .snil_sl | exact .to_any | exact LeV.nineA | exact LeV.noA | exact LeB.fr rfl id id | exact LeB.fr (by simp; done) id id | refine Or.inl ⟨by simp, _, rfl, ?_⟩ | exact Or.inr ⟨by simp, _, _, _, _, rfl⟩ | refine ⟨rfl, rfl, rfl, rfl, rfl, rfl, ?_⟩ | refine ⟨?_, ?_⟩)) (fun _ _ _ _ h => h) (fun _ _ => rfl) (by omega) (by simp)), rfl, rfl, rfl⟩
set_option maxRecDepth 100000 in
theorem into4_ok (fr : Bool) (r : Rule) : CallV prog 89 [.ptr 0 0] [(0, some (.var fr 26 (cellsRu r)))] 1 (fun v' h' nx' => v' = .ptr 0 1 ∧ h' = [(0, some (.var fr 26 (cellsRu r)))] ∧ nx' = 1) := by
  refine callV_of (fn := Go.Proofs.Tryz.f89) (body := _) tab_ok mixed rfl rfl (by decide) (by simp [Go.Proofs.Tryz.f89]) ?_
  (conv => whnf)
  exact ⟨_, _, _, (Ends.all id [] (by repeat' (first | exact True.intro | exact id | exact rfl | decide | exact Nat.le_of_ble_eq_true rfl | exact .ptr rfl (by omega) | exact .osl_of rfl (by omega) rfl | exact .fr rfl | exact LeL.fr rfl | exact .yld rfl (by omega) | exact .eptr rfl (by omega) | exact .osl0 | exact .snil_sl | exact .to_any | exact LeV.nineA | exact LeV.noA | exact LeB.fr rfl id id | exact LeB.fr (by simp; done) id id | refine Or.inl ⟨by simp, _, rfl, ?_⟩ | exact Or.inr ⟨by simp, _, _, _, _, rfl⟩ | refine ⟨rfl, rfl, rfl, rfl, rfl, rfl, ?_⟩ | refine ⟨?_, ?_⟩)) (fun _ _ _ _ h => h) (fun _ _ => rfl) (by omega) (by simp)), rfl, rfl, rfl⟩
set_option maxRecDepth 100000 in
theorem into5_ok (fr : Bool) (r : Rule) : CallV prog 90 [.ptr 0 0] [(0, some (.var fr 26 (cellsRu r)))] 1 (fun v' h' nx' => v' = .ptr 0 2 ∧ h' = [(0, some (.var fr 26 (cellsRu r)))] ∧ nx' = 1) := by
  refine callV_of (fn := Go.Proofs.Tryz.f90) (body := _) tab_ok mixed rfl rfl (by decide) (by simp [Go.Proofs.Tryz.f90]) ?_
  (conv => whnf)
  exact ⟨_, _, _, (Ends.all id [] (by repeat' (first | exact True.intro | exact id | exact rfl | decide | exact Nat.le_of_ble_eq_true rfl | exact .ptr rfl (by omega) | exact .osl_of rfl (by omega) rfl | exact .fr rfl | exact LeL.fr rfl | exact .yld rfl (by omega) | exact .eptr rfl (by omega) | exact .osl0 | exact .snil_sl | exact .to_any | exact LeV.nineA | exact LeV.noA | exact LeB.fr rfl id id | exact LeB.fr (by simp; done) id id | refine Or.inl ⟨by simp, _, rfl, ?_⟩ | exact Or.inr ⟨by simp, _, _, _, _, rfl⟩ | refine ⟨rfl, rfl, rfl, rfl, rfl, rfl, ?_⟩ | refine ⟨?_, ?_⟩)) (fun _ _ _ _ h => h) (fun _ _ => rfl) (by omega) (by simp)), rfl, rfl, rfl⟩
set_option maxRecDepth 100000 in
theorem into6_ok (fr : Bool) (r : Rule) : CallV prog 91 [.ptr 0 0] [(0, some (.var fr 26 (cellsRu r)))] 1 (fun v' h' nx' => v' = .ptr 0 3 ∧ h' = [(0, some (.var fr 26 (cellsRu r)))] ∧ nx' = 1) := by
  refine callV_of (fn := Go.Proofs.Tryz.f91) (body := _) tab_ok mixed rfl rfl (by decide) (by simp [Go.Proofs.Tryz.f91]) ?_
  (conv => whnf)
  exact ⟨_, _, _, (Ends.all id [] (by repeat' (first | exact True.intro | exact id | exact rfl | decide | exact Nat.le_of_ble_eq_true rfl | exact .ptr rfl (by omega) | exact .osl_of rfl (by omega) rfl | exact .fr rfl | exact LeL.fr rfl | exact .yld rfl (by omega) | exact .eptr rfl (by omega) | exact .osl0 | exact .snil_sl | exact .to_any | exact LeV.nineA | exact LeV.noA | exact LeB.fr rfl id id | exact LeB.fr (by simp; done) id id | refine Or.inl ⟨by simp, _, rfl, ?_⟩ | exact Or.inr ⟨by simp, _, _, _, _, rfl⟩ | refine ⟨rfl, rfl, rfl, rfl, rfl, rfl, ?_⟩ | refine ⟨?_, ?_⟩)) (fun _ _ _ _ h => h) (fun _ _ => rfl) (by omega) (by simp)), rfl, rfl, rfl⟩
set_option maxRecDepth 100000 in
theorem into14_ok (fr : Bool) (r : Rule) : CallV prog 100 [.ptr 0 0] [(0, some (.var fr 26 (cellsRu r)))] 1 (fun v' h' nx' => v' = .ptr 0 14 ∧ h' = [(0, some (.var fr 26 (cellsRu r)))] ∧ nx' = 1) := by
  refine callV_of (fn := Go.Proofs.Tryz.f100) (body := _) tab_ok mixed rfl rfl (by decide) (by simp [Go.Proofs.Tryz.f100]) ?_
  (conv => whnf)
  exact ⟨_, _, _, (Ends.all id [] (by repeat' (first | exact True.intro | exact id | exact rfl | decide | exact Nat.le_of_ble_eq_true rfl | exact .ptr rfl (by omega) | exact .osl_of rfl (by omega) rfl | exact .fr rfl | exact LeL.fr rfl | exact .yld rfl (by omega) | exact .eptr rfl (by omega) | exact .osl0 | exact .snil_sl | exact .to_any | exact LeV.nineA | exact LeV.noA | exact LeB.fr rfl id id | exact LeB.fr (by simp; done) id id | refine Or.inl ⟨by simp, _, rfl, ?_⟩ | exact Or.inr ⟨by simp, _, _, _, _, rfl⟩ | refine ⟨rfl, rfl, rfl, rfl, rfl, rfl, ?_⟩ | refine ⟨?_, ?_⟩)) (fun _ _ _ _ h => h) (fun _ _ => rfl) (by omega) (by simp)), rfl, rfl, rfl⟩
set_option maxRecDepth 100000 in
theorem lay3_ok (r : Rule) : PCon prog 114 [encRu r, .iptr true [fnV 88], .iptr true [.int .i64 4]] (encB true (fourB r.cover.addr)) := by
  refine callV_of (fn := Go.Proofs.Tryz.f114) (body := _) tab_ok mixed rfl rfl (by decide) (by simp [Go.Proofs.Tryz.f114]) ?_
  (conv => whnf)
  refine ⟨.ptr 0 0, [(0, some (.var true 26 (cellsRu r)))], fun h nx hr => pureV_intoR (into3_ok true r) (hr 0 _ (List.mem_singleton.2 rfl)), by intro b ob hb; simp only [List.mem_singleton, Prod.mk.injEq] at hb; obtain ⟨rfl, rfl⟩ := hb; rfl, ?_⟩
  (conv => whnf)
  refine ⟨_, [], fun h nx _ => pureV_pure (highW_ok r.cover.addr) ⟨.int_of rfl, .int_of rfl, trivial⟩, by simp, ?_⟩
  (conv => whnf)
  refine ⟨by kernel_rfl, ?_⟩
  (conv => whnf)
  exact Ends.pure [] (.free (encB_free _ _)) (by simp)
set_option maxRecDepth 100000 in
theorem lay9_ok (r : Rule) : PCon prog 114 [encRu r, .iptr true [fnV 95], .iptr true [.int .i64 4]] (encB true (fourB r.tag)) := by
  refine callV_of (fn := Go.Proofs.Tryz.f114) (body := _) tab_ok mixed rfl rfl (by decide) (by simp [Go.Proofs.Tryz.f114]) ?_
  (conv => whnf)
  refine ⟨.ptr 0 5, [(0, some (.var true 26 (cellsRu r)))], fun h nx hr => pureV_intoR (into9_ok true r) (hr 0 _ (List.mem_singleton.2 rfl)), by intro b ob hb; simp only [List.mem_singleton, Prod.mk.injEq] at hb; obtain ⟨rfl, rfl⟩ := hb; rfl, ?_⟩
  (conv => whnf)
  refine ⟨_, [], fun h nx _ => pureV_pure (highW_ok r.tag) ⟨.int_of rfl, .int_of rfl, trivial⟩, by simp, ?_⟩
  (conv => whnf)
  refine ⟨by kernel_rfl, ?_⟩
  (conv => whnf)
  exact Ends.pure [] (.free (encB_free _ _)) (by simp)
set_option maxRecDepth 100000 in
theorem lay10_ok (r : Rule) : PCon prog 114 [encRu r, .iptr true [fnV 96], .iptr true [.int .i64 4]] (encB true (fourB r.sys)) := by
  refine callV_of (fn := Go.Proofs.Tryz.f114) (body := _) tab_ok mixed rfl rfl (by decide) (by simp [Go.Proofs.Tryz.f114]) ?_
  (conv => whnf)
  refine ⟨.ptr 0 6, [(0, some (.var true 26 (cellsRu r)))], fun h nx hr => pureV_intoR (into10_ok true r) (hr 0 _ (List.mem_singleton.2 rfl)), by intro b ob hb; simp only [List.mem_singleton, Prod.mk.injEq] at hb; obtain ⟨rfl, rfl⟩ := hb; rfl, ?_⟩
  (conv => whnf)
  refine ⟨_, [], fun h nx _ => pureV_pure (highW_ok r.sys) ⟨.int_of rfl, .int_of rfl, trivial⟩, by simp, ?_⟩
  (conv => whnf)
  refine ⟨by kernel_rfl, ?_⟩
  (conv => whnf)
  exact Ends.pure [] (.free (encB_free _ _)) (by simp)
set_option maxRecDepth 100000 in
theorem lay11_ok (r : Rule) : PCon prog 114 [encRu r, .iptr true [fnV 97], .iptr true [.int .i64 4]] (encB true (fourB r.pref)) := by
  refine callV_of (fn := Go.Proofs.Tryz.f114) (body := _) tab_ok mixed rfl rfl (by decide) (by simp [Go.Proofs.Tryz.f114]) ?_
  (conv => whnf)
  refine ⟨.ptr 0 11, [(0, some (.var true 26 (cellsRu r)))], fun h nx hr => pureV_intoR (into11_ok true r) (hr 0 _ (List.mem_singleton.2 rfl)), by intro b ob hb; simp only [List.mem_singleton, Prod.mk.injEq] at hb; obtain ⟨rfl, rfl⟩ := hb; rfl, ?_⟩
  (conv => whnf)
  refine ⟨_, [], fun h nx _ => pureV_pure (highW_ok r.pref) ⟨.int_of rfl, .int_of rfl, trivial⟩, by simp, ?_⟩
  (conv => whnf)
  refine ⟨by kernel_rfl, ?_⟩
  (conv => whnf)
  exact Ends.pure [] (.free (encB_free _ _)) (by simp)
set_option maxRecDepth 100000 in
theorem lay12_ok (r : Rule) : PCon prog 114 [encRu r, .iptr true [fnV 98], .iptr true [.int .i64 4]] (encB true (fourB r.med)) := by
  refine callV_of (fn := Go.Proofs.Tryz.f114) (body := _) tab_ok mixed rfl rfl (by decide) (by simp [Go.Proofs.Tryz.f114]) ?_
  (conv => whnf)
  refine ⟨.ptr 0 12, [(0, some (.var true 26 (cellsRu r)))], fun h nx hr => pureV_intoR (into12_ok true r) (hr 0 _ (List.mem_singleton.2 rfl)), by intro b ob hb; simp only [List.mem_singleton, Prod.mk.injEq] at hb; obtain ⟨rfl, rfl⟩ := hb; rfl, ?_⟩
  (conv => whnf)
  refine ⟨_, [], fun h nx _ => pureV_pure (highW_ok r.med) ⟨.int_of rfl, .int_of rfl, trivial⟩, by simp, ?_⟩
  (conv => whnf)
  refine ⟨by kernel_rfl, ?_⟩
  (conv => whnf)
  exact Ends.pure [] (.free (encB_free _ _)) (by simp)
set_option maxRecDepth 100000 in
theorem lay13_ok (r : Rule) : PCon prog 114 [encRu r, .iptr true [fnV 99], .iptr true [.int .i64 4]] (encB true (fourB r.add)) := by
  refine callV_of (fn := Go.Proofs.Tryz.f114) (body := _) tab_ok mixed rfl rfl (by decide) (by simp [Go.Proofs.Tryz.f114]) ?_
  (conv => whnf)
  refine ⟨.ptr 0 13, [(0, some (.var true 26 (cellsRu r)))], fun h nx hr => pureV_intoR (into13_ok true r) (hr 0 _ (List.mem_singleton.2 rfl)), by intro b ob hb; simp only [List.mem_singleton, Prod.mk.injEq] at hb; obtain ⟨rfl, rfl⟩ := hb; rfl, ?_⟩
  (conv => whnf)
  refine ⟨_, [], fun h nx _ => pureV_pure (highW_ok r.add) ⟨.int_of rfl, .int_of rfl, trivial⟩, by simp, ?_⟩
  (conv => whnf)
  refine ⟨by kernel_rfl, ?_⟩
  (conv => whnf)
  exact Ends.pure [] (.free (encB_free _ _)) (by simp)
set_option maxRecDepth 100000 in
theorem lay4_ok (r : Rule) : PCon prog 117 [encRu r, .iptr true [fnV 89], .iptr true [.int .i64 1]] (encB true ([r.cover.len])) := by
  refine callV_of (fn := Go.Proofs.Tryz.f117) (body := _) tab_ok mixed rfl rfl (by decide) (by simp [Go.Proofs.Tryz.f117]) ?_
  (conv => whnf)
  refine ⟨.ptr 0 1, [(0, some (.var true 26 (cellsRu r)))], fun h nx hr => pureV_intoR (into4_ok true r) (hr 0 _ (List.mem_singleton.2 rfl)), by intro b ob hb; simp only [List.mem_singleton, Prod.mk.injEq] at hb; obtain ⟨rfl, rfl⟩ := hb; rfl, ?_⟩
  (conv => whnf)
  refine ⟨_, [], fun h nx _ => pureV_pure (highB_ok r.cover.len) ⟨.int_of rfl, .int_of rfl, trivial⟩, by simp, ?_⟩
  (conv => whnf)
  refine ⟨by kernel_rfl, ?_⟩
  (conv => whnf)
  exact Ends.pure [] (.free (encB_free _ _)) (by simp)
set_option maxRecDepth 100000 in
theorem lay5_ok (r : Rule) : PCon prog 117 [encRu r, .iptr true [fnV 90], .iptr true [.int .i64 1]] (encB true ([r.least])) := by
  refine callV_of (fn := Go.Proofs.Tryz.f117) (body := _) tab_ok mixed rfl rfl (by decide) (by simp [Go.Proofs.Tryz.f117]) ?_
  (conv => whnf)
  refine ⟨.ptr 0 2, [(0, some (.var true 26 (cellsRu r)))], fun h nx hr => pureV_intoR (into5_ok true r) (hr 0 _ (List.mem_singleton.2 rfl)), by intro b ob hb; simp only [List.mem_singleton, Prod.mk.injEq] at hb; obtain ⟨rfl, rfl⟩ := hb; rfl, ?_⟩
  (conv => whnf)
  refine ⟨_, [], fun h nx _ => pureV_pure (highB_ok r.least) ⟨.int_of rfl, .int_of rfl, trivial⟩, by simp, ?_⟩
  (conv => whnf)
  refine ⟨by kernel_rfl, ?_⟩
  (conv => whnf)
  exact Ends.pure [] (.free (encB_free _ _)) (by simp)
set_option maxRecDepth 100000 in
theorem lay6_ok (r : Rule) : PCon prog 117 [encRu r, .iptr true [fnV 91], .iptr true [.int .i64 1]] (encB true ([r.most])) := by
  refine callV_of (fn := Go.Proofs.Tryz.f117) (body := _) tab_ok mixed rfl rfl (by decide) (by simp [Go.Proofs.Tryz.f117]) ?_
  (conv => whnf)
  refine ⟨.ptr 0 3, [(0, some (.var true 26 (cellsRu r)))], fun h nx hr => pureV_intoR (into6_ok true r) (hr 0 _ (List.mem_singleton.2 rfl)), by intro b ob hb; simp only [List.mem_singleton, Prod.mk.injEq] at hb; obtain ⟨rfl, rfl⟩ := hb; rfl, ?_⟩
  (conv => whnf)
  refine ⟨_, [], fun h nx _ => pureV_pure (highB_ok r.most) ⟨.int_of rfl, .int_of rfl, trivial⟩, by simp, ?_⟩
  (conv => whnf)
  refine ⟨by kernel_rfl, ?_⟩
  (conv => whnf)
  exact Ends.pure [] (.free (encB_free _ _)) (by simp)
set_option maxRecDepth 100000 in
theorem lay14_ok (r : Rule) : PCon prog 117 [encRu r, .iptr true [fnV 100], .iptr true [.int .i64 1]] (encB true ([r.times])) := by
  refine callV_of (fn := Go.Proofs.Tryz.f117) (body := _) tab_ok mixed rfl rfl (by decide) (by simp [Go.Proofs.Tryz.f117]) ?_
  (conv => whnf)
  refine ⟨.ptr 0 14, [(0, some (.var true 26 (cellsRu r)))], fun h nx hr => pureV_intoR (into14_ok true r) (hr 0 _ (List.mem_singleton.2 rfl)), by intro b ob hb; simp only [List.mem_singleton, Prod.mk.injEq] at hb; obtain ⟨rfl, rfl⟩ := hb; rfl, ?_⟩
  (conv => whnf)
  refine ⟨_, [], fun h nx _ => pureV_pure (highB_ok r.times) ⟨.int_of rfl, .int_of rfl, trivial⟩, by simp, ?_⟩
  (conv => whnf)
  refine ⟨by kernel_rfl, ?_⟩
  (conv => whnf)
  exact Ends.pure [] (.free (encB_free _ _)) (by simp)
/-- The truths of a rule, as bits. -/
def flag (r : Rule) : Nat → Bool
  | 0 => r.hasTag | 1 => r.deny | 2 => r.hasPref | 3 => r.hasMed | _ => r.hasAdd
def flagB (r : Rule) : Nat → UInt8
  | 0 => 0
  | k + 1 => if flag r k then flagB r k ||| (1 <<< k.toUInt8) else flagB r k
theorem or_bit : ∀ k : Nat, k < 5 → ∀ n : Nat, n < 256 → bits .or .u8 (n : Int) (IntKind.u8.wrap (1 * 2 ^ (min (Int.toNat (k : Int)) IntKind.u8.bits))) = ((UInt8.ofNat n ||| (1 <<< k.toUInt8)).toNat : Int) := by decide +kernel
theorem flag_step (x : UInt8) {k : Nat} (hk : k < 5) : bits .or .u8 (x.toNat : Int) (IntKind.u8.wrap (1 * 2 ^ (min (Int.toNat (k : Int)) IntKind.u8.bits))) = ((x ||| (1 <<< k.toUInt8)).toNat : Int) := by
  rw [or_bit k hk x.toNat x.toNat_lt, UInt8.ofNat_toNat]
theorem flag_set {r : Rule} {k : Nat} {n : Int} (h : flag r k = true) (e : n = ((flagB r k ||| (1 <<< k.toUInt8)).toNat : Int)) : n = ((flagB r (k + 1)).toNat : Int) := by
  rw [e, flagB, if_pos h]
theorem flag_keep {r : Rule} {k : Nat} (h : flag r k = false) : ((flagB r k).toNat : Int) = ((flagB r (k + 1)).toNat : Int) := by
  rw [flagB, if_neg (by simp [h])]
def flagPs (b : Nat) : List (List V) := [[.ptr b 4], [.ptr b 7], [.ptr b 8], [.ptr b 9], [.ptr b 10]]
theorem LeB.fps {h : Heap} {nx nx' : Nat} {ρ : Nat → Nat} {Z : List Nat} {fr ex : Bool} {t b b' : Nat} (e : ρ b' = b) (hn : b' < nx') : LeB h nx ρ nx' Z (.arr fr ex t 1 (flagPs b)) (.arr fr ex t 1 (flagPs b')) :=
  ⟨id, id, rfl, rfl, LeR.out (xs := flagPs b) (ys := flagPs b') ⟨⟨.ptr e hn, trivial⟩, ⟨.ptr e hn, trivial⟩, ⟨.ptr e hn, trivial⟩, ⟨.ptr e hn, trivial⟩, ⟨.ptr e hn, trivial⟩, trivial⟩⟩
set_option maxRecDepth 100000 in
set_option maxHeartbeats 4000000 in
theorem layF_ok (r : Rule) : PCon prog 92 [encRu r] (encB true [flagB r 5]) := by
  refine callV_of (fn := Go.Proofs.Tryz.f92) (body := _) tab_ok mixed rfl rfl (by decide) (by simp [Go.Proofs.Tryz.f92]) ?_
  (conv => whnf)
  refine callV_of (fn := Go.Proofs.Tryz.f93) (body := _) tab_ok mixed rfl rfl (by decide) (by simp [Go.Proofs.Tryz.f93]) ?_
  (conv => whnf)
  refine ⟨by kernel_rfl, ?_⟩
  (conv => whnf)
  refine ⟨_, _, _, Ends.here, ?_⟩
  (conv => whnf)
  intro _
  (conv => whnf)
  refine vcg_loop tab_ok mixed (fun k : {k : Nat // k ≤ 5} => ⟨[(3, cB (flagB r k.1)), (6, .osl 1 1 0 5), (7, .int .i64 5), (8, cI k.1)], [(0, some (.var true 26 (cellsRu r))), (1, some (.arr true true 129 1 (flagPs 0)))], 2⟩) (fun k => 5 - k.1) ⟨0, by omega⟩ (Wk.i (by repeat' (first | exact True.intro | exact id | exact rfl | decide | exact Nat.le_of_ble_eq_true rfl | exact LeB.fps rfl (by omega) | exact .int_of rfl | exact .ptr rfl (by omega) | exact .osl_of rfl (by omega) rfl | exact .fr rfl | exact LeL.fr rfl | exact .yld rfl (by omega) | exact .eptr rfl (by omega) | exact .osl0 | exact .snil_sl | exact .to_any | exact LeV.nineA | exact LeV.noA | exact LeB.fr rfl id id | exact LeB.fr (by simp; done) id id | refine Or.inl ⟨by simp, _, rfl, ?_⟩ | exact Or.inr ⟨by simp, _, _, _, _, rfl⟩ | refine ⟨rfl, rfl, rfl, rfl, rfl, rfl, ?_⟩ | refine ⟨?_, ?_⟩)) (by omega)) (fun k => ?_)
  obtain ⟨k, hk⟩ := k
  rcases k with _ | _ | _ | _ | _ | _ | k
  case succ.succ.succ.succ.succ.succ => omega
  case succ.succ.succ.succ.succ.zero =>
    (conv => whnf)
    exact Ends.pure [2] (LeV.freezeE (ys := [[cB (flagB r 5)]]) (by simp) rfl (by simp) rfl (by intro x hx v hv; simp at hx; subst hx; simp at hv; subst hv; exact .int)) (one_none rfl)
  · (conv => whnf)
    refine ⟨rfl, ⟨by simp, by simp⟩, ?_⟩
    (conv => whnf)
    refine ⟨rfl, _, rfl, ?_⟩
    (conv => whnf)
    split
    · rename_i h
      (conv => whnf)
      refine ⟨Int.natCast_nonneg _, ?_⟩
      (conv => whnf)
      exact ⟨⟨1, by omega⟩, (Wk.i (by repeat' (first | exact True.intro | exact id | exact rfl | decide | exact Nat.le_of_ble_eq_true rfl | exact LeB.fps rfl (by omega) | exact .int_of (by refine flag_set (r := r) (k := 0) h ?_; exact flag_step (k := 0) (flagB r 0) (by decide)) | exact .int_of (by simp [wrap64']) | exact .ptr rfl (by omega) | exact .osl_of rfl (by omega) rfl | exact .fr rfl | exact LeL.fr rfl | exact .yld rfl (by omega) | exact .eptr rfl (by omega) | exact .osl0 | exact .snil_sl | exact .to_any | exact LeV.nineA | exact LeV.noA | exact LeB.fr rfl id id | exact LeB.fr (by simp; done) id id | refine Or.inl ⟨by simp, _, rfl, ?_⟩ | exact Or.inr ⟨by simp, _, _, _, _, rfl⟩ | refine ⟨rfl, rfl, rfl, rfl, rfl, rfl, ?_⟩ | refine ⟨?_, ?_⟩)) (by omega)), by simp⟩
    · rename_i h
      (conv => whnf)
      exact ⟨⟨1, by omega⟩, (Wk.i (by repeat' (first | exact True.intro | exact id | exact rfl | decide | exact Nat.le_of_ble_eq_true rfl | exact LeB.fps rfl (by omega) | exact .int_of (flag_keep (r := r) (k := 0) h) | exact .int_of (by simp [wrap64']) | exact .ptr rfl (by omega) | exact .osl_of rfl (by omega) rfl | exact .fr rfl | exact LeL.fr rfl | exact .yld rfl (by omega) | exact .eptr rfl (by omega) | exact .osl0 | exact .snil_sl | exact .to_any | exact LeV.nineA | exact LeV.noA | exact LeB.fr rfl id id | exact LeB.fr (by simp; done) id id | refine Or.inl ⟨by simp, _, rfl, ?_⟩ | exact Or.inr ⟨by simp, _, _, _, _, rfl⟩ | refine ⟨rfl, rfl, rfl, rfl, rfl, rfl, ?_⟩ | refine ⟨?_, ?_⟩)) (by omega)), by simp⟩
  · (conv => whnf)
    refine ⟨rfl, ⟨by simp, by simp⟩, ?_⟩
    (conv => whnf)
    refine ⟨rfl, _, rfl, ?_⟩
    (conv => whnf)
    split
    · rename_i h
      (conv => whnf)
      refine ⟨Int.natCast_nonneg _, ?_⟩
      (conv => whnf)
      exact ⟨⟨2, by omega⟩, (Wk.i (by repeat' (first | exact True.intro | exact id | exact rfl | decide | exact Nat.le_of_ble_eq_true rfl | exact LeB.fps rfl (by omega) | exact .int_of (by refine flag_set (r := r) (k := 1) h ?_; exact flag_step (k := 1) (flagB r 1) (by decide)) | exact .int_of (by simp [wrap64']) | exact .ptr rfl (by omega) | exact .osl_of rfl (by omega) rfl | exact .fr rfl | exact LeL.fr rfl | exact .yld rfl (by omega) | exact .eptr rfl (by omega) | exact .osl0 | exact .snil_sl | exact .to_any | exact LeV.nineA | exact LeV.noA | exact LeB.fr rfl id id | exact LeB.fr (by simp; done) id id | refine Or.inl ⟨by simp, _, rfl, ?_⟩ | exact Or.inr ⟨by simp, _, _, _, _, rfl⟩ | refine ⟨rfl, rfl, rfl, rfl, rfl, rfl, ?_⟩ | refine ⟨?_, ?_⟩)) (by omega)), by simp⟩
    · rename_i h
      (conv => whnf)
      exact ⟨⟨2, by omega⟩, (Wk.i (by repeat' (first | exact True.intro | exact id | exact rfl | decide | exact Nat.le_of_ble_eq_true rfl | exact LeB.fps rfl (by omega) | exact .int_of (flag_keep (r := r) (k := 1) h) | exact .int_of (by simp [wrap64']) | exact .ptr rfl (by omega) | exact .osl_of rfl (by omega) rfl | exact .fr rfl | exact LeL.fr rfl | exact .yld rfl (by omega) | exact .eptr rfl (by omega) | exact .osl0 | exact .snil_sl | exact .to_any | exact LeV.nineA | exact LeV.noA | exact LeB.fr rfl id id | exact LeB.fr (by simp; done) id id | refine Or.inl ⟨by simp, _, rfl, ?_⟩ | exact Or.inr ⟨by simp, _, _, _, _, rfl⟩ | refine ⟨rfl, rfl, rfl, rfl, rfl, rfl, ?_⟩ | refine ⟨?_, ?_⟩)) (by omega)), by simp⟩
  · (conv => whnf)
    refine ⟨rfl, ⟨by simp, by simp⟩, ?_⟩
    (conv => whnf)
    refine ⟨rfl, _, rfl, ?_⟩
    (conv => whnf)
    split
    · rename_i h
      (conv => whnf)
      refine ⟨Int.natCast_nonneg _, ?_⟩
      (conv => whnf)
      exact ⟨⟨3, by omega⟩, (Wk.i (by repeat' (first | exact True.intro | exact id | exact rfl | decide | exact Nat.le_of_ble_eq_true rfl | exact LeB.fps rfl (by omega) | exact .int_of (by refine flag_set (r := r) (k := 2) h ?_; exact flag_step (k := 2) (flagB r 2) (by decide)) | exact .int_of (by simp [wrap64']) | exact .ptr rfl (by omega) | exact .osl_of rfl (by omega) rfl | exact .fr rfl | exact LeL.fr rfl | exact .yld rfl (by omega) | exact .eptr rfl (by omega) | exact .osl0 | exact .snil_sl | exact .to_any | exact LeV.nineA | exact LeV.noA | exact LeB.fr rfl id id | exact LeB.fr (by simp; done) id id | refine Or.inl ⟨by simp, _, rfl, ?_⟩ | exact Or.inr ⟨by simp, _, _, _, _, rfl⟩ | refine ⟨rfl, rfl, rfl, rfl, rfl, rfl, ?_⟩ | refine ⟨?_, ?_⟩)) (by omega)), by simp⟩
    · rename_i h
      (conv => whnf)
      exact ⟨⟨3, by omega⟩, (Wk.i (by repeat' (first | exact True.intro | exact id | exact rfl | decide | exact Nat.le_of_ble_eq_true rfl | exact LeB.fps rfl (by omega) | exact .int_of (flag_keep (r := r) (k := 2) h) | exact .int_of (by simp [wrap64']) | exact .ptr rfl (by omega) | exact .osl_of rfl (by omega) rfl | exact .fr rfl | exact LeL.fr rfl | exact .yld rfl (by omega) | exact .eptr rfl (by omega) | exact .osl0 | exact .snil_sl | exact .to_any | exact LeV.nineA | exact LeV.noA | exact LeB.fr rfl id id | exact LeB.fr (by simp; done) id id | refine Or.inl ⟨by simp, _, rfl, ?_⟩ | exact Or.inr ⟨by simp, _, _, _, _, rfl⟩ | refine ⟨rfl, rfl, rfl, rfl, rfl, rfl, ?_⟩ | refine ⟨?_, ?_⟩)) (by omega)), by simp⟩
  · (conv => whnf)
    refine ⟨rfl, ⟨by simp, by simp⟩, ?_⟩
    (conv => whnf)
    refine ⟨rfl, _, rfl, ?_⟩
    (conv => whnf)
    split
    · rename_i h
      (conv => whnf)
      refine ⟨Int.natCast_nonneg _, ?_⟩
      (conv => whnf)
      exact ⟨⟨4, by omega⟩, (Wk.i (by repeat' (first | exact True.intro | exact id | exact rfl | decide | exact Nat.le_of_ble_eq_true rfl | exact LeB.fps rfl (by omega) | exact .int_of (by refine flag_set (r := r) (k := 3) h ?_; exact flag_step (k := 3) (flagB r 3) (by decide)) | exact .int_of (by simp [wrap64']) | exact .ptr rfl (by omega) | exact .osl_of rfl (by omega) rfl | exact .fr rfl | exact LeL.fr rfl | exact .yld rfl (by omega) | exact .eptr rfl (by omega) | exact .osl0 | exact .snil_sl | exact .to_any | exact LeV.nineA | exact LeV.noA | exact LeB.fr rfl id id | exact LeB.fr (by simp; done) id id | refine Or.inl ⟨by simp, _, rfl, ?_⟩ | exact Or.inr ⟨by simp, _, _, _, _, rfl⟩ | refine ⟨rfl, rfl, rfl, rfl, rfl, rfl, ?_⟩ | refine ⟨?_, ?_⟩)) (by omega)), by simp⟩
    · rename_i h
      (conv => whnf)
      exact ⟨⟨4, by omega⟩, (Wk.i (by repeat' (first | exact True.intro | exact id | exact rfl | decide | exact Nat.le_of_ble_eq_true rfl | exact LeB.fps rfl (by omega) | exact .int_of (flag_keep (r := r) (k := 3) h) | exact .int_of (by simp [wrap64']) | exact .ptr rfl (by omega) | exact .osl_of rfl (by omega) rfl | exact .fr rfl | exact LeL.fr rfl | exact .yld rfl (by omega) | exact .eptr rfl (by omega) | exact .osl0 | exact .snil_sl | exact .to_any | exact LeV.nineA | exact LeV.noA | exact LeB.fr rfl id id | exact LeB.fr (by simp; done) id id | refine Or.inl ⟨by simp, _, rfl, ?_⟩ | exact Or.inr ⟨by simp, _, _, _, _, rfl⟩ | refine ⟨rfl, rfl, rfl, rfl, rfl, rfl, ?_⟩ | refine ⟨?_, ?_⟩)) (by omega)), by simp⟩
  · (conv => whnf)
    refine ⟨rfl, ⟨by simp, by simp⟩, ?_⟩
    (conv => whnf)
    refine ⟨rfl, _, rfl, ?_⟩
    (conv => whnf)
    split
    · rename_i h
      (conv => whnf)
      refine ⟨Int.natCast_nonneg _, ?_⟩
      (conv => whnf)
      exact ⟨⟨5, by omega⟩, (Wk.i (by repeat' (first | exact True.intro | exact id | exact rfl | decide | exact Nat.le_of_ble_eq_true rfl | exact LeB.fps rfl (by omega) | exact .int_of (by refine flag_set (r := r) (k := 4) h ?_; exact flag_step (k := 4) (flagB r 4) (by decide)) | exact .int_of (by simp [wrap64']) | exact .ptr rfl (by omega) | exact .osl_of rfl (by omega) rfl | exact .fr rfl | exact LeL.fr rfl | exact .yld rfl (by omega) | exact .eptr rfl (by omega) | exact .osl0 | exact .snil_sl | exact .to_any | exact LeV.nineA | exact LeV.noA | exact LeB.fr rfl id id | exact LeB.fr (by simp; done) id id | refine Or.inl ⟨by simp, _, rfl, ?_⟩ | exact Or.inr ⟨by simp, _, _, _, _, rfl⟩ | refine ⟨rfl, rfl, rfl, rfl, rfl, rfl, ?_⟩ | refine ⟨?_, ?_⟩)) (by omega)), by simp⟩
    · rename_i h
      (conv => whnf)
      exact ⟨⟨5, by omega⟩, (Wk.i (by repeat' (first | exact True.intro | exact id | exact rfl | decide | exact Nat.le_of_ble_eq_true rfl | exact LeB.fps rfl (by omega) | exact .int_of (flag_keep (r := r) (k := 4) h) | exact .int_of (by simp [wrap64']) | exact .ptr rfl (by omega) | exact .osl_of rfl (by omega) rfl | exact .fr rfl | exact LeL.fr rfl | exact .yld rfl (by omega) | exact .eptr rfl (by omega) | exact .osl0 | exact .snil_sl | exact .to_any | exact LeV.nineA | exact LeV.noA | exact LeB.fr rfl id id | exact LeB.fr (by simp; done) id id | refine Or.inl ⟨by simp, _, rfl, ?_⟩ | exact Or.inr ⟨by simp, _, _, _, _, rfl⟩ | refine ⟨rfl, rfl, rfl, rfl, rfl, rfl, ?_⟩ | refine ⟨?_, ?_⟩)) (by omega)), by simp⟩
/-- One part. -/
def numX (f : Nat) : V := .fn (.func 114) [] [.iptr true [fnV f], .iptr true [.int .i64 4]]
def tkX (f : Nat) : V := .fn (.func 116) [] [.iptr true [fnV f]]
def numY (f : Nat) : V := .fn (.func 117) [] [.iptr true [fnV f], .iptr true [.int .i64 1]]
def tkY (f : Nat) : V := .fn (.func 119) [] [.iptr true [fnV f]]
theorem num_free {g f : Nat} {k : Int} : Free (.fn (.func g) [] [.iptr true [fnV f], .iptr true [.int .i64 k]]) := by
  refine .fn (by simp) ?_
  intro v hv
  simp only [List.mem_cons, List.not_mem_nil, or_false] at hv
  rcases hv with rfl | rfl
  · exact .iptr (by intro v hv; simp at hv; subst hv; exact fnV_free _)
  · exact .iptr (by intro v hv; simp at hv; subst hv; exact .int)
theorem tk_free {g f : Nat} : Free (.fn (.func g) [] [.iptr true [fnV f]]) := by
  refine .fn (by simp) ?_
  intro v hv
  simp only [List.mem_cons, List.not_mem_nil, or_false] at hv
  subst hv
  exact .iptr (by intro v hv; simp at hv; subst hv; exact fnV_free _)
def partW (f : Nat) : List V := [.int .i64 4, numX f, tkX f]
def partB (f : Nat) : List V := [.int .i64 1, numY f, tkY f]
def partF : List V := [.int .i64 1, fnV 92, fnV 94]
theorem partW_free (f : Nat) : ∀ v ∈ partW f, Free v := by
  intro v hv
  simp only [partW, List.mem_cons, List.not_mem_nil, or_false] at hv
  rcases hv with rfl | rfl | rfl
  · exact .int
  · exact num_free
  · exact tk_free
theorem partB_free (f : Nat) : ∀ v ∈ partB f, Free v := by
  intro v hv
  simp only [partB, List.mem_cons, List.not_mem_nil, or_false] at hv
  rcases hv with rfl | rfl | rfl
  · exact .int
  · exact num_free
  · exact tk_free
theorem partF_free : ∀ v ∈ partF, Free v := by
  intro v hv
  simp only [partF, List.mem_cons, List.not_mem_nil, or_false] at hv
  rcases hv with rfl | rfl | rfl
  · exact .int
  · exact fnV_free _
  · exact fnV_free _
def partRows : List (List V) := [partW 88, partB 89, partB 90, partB 91, partF, partW 95, partW 96, partW 97, partW 98, partW 99, partB 100]
theorem partRows_free : ∀ x ∈ partRows, ∀ v ∈ x, Free v := by
  intro x hx
  simp only [partRows, List.mem_cons, List.not_mem_nil, or_false] at hx
  rcases hx with rfl | rfl | rfl | rfl | rfl | rfl | rfl | rfl | rfl | rfl | rfl <;> first | exact partW_free _ | exact partB_free _ | exact partF_free
set_option maxRecDepth 100000 in
theorem numberW_ok (f : Nat) : PCon prog 85 [.int .i64 4, fnV f] (.agg (partW f)) := by
  refine callV_of (fn := Go.Proofs.Tryz.f85) (body := _) tab_ok mixed rfl rfl (by decide) (by simp [Go.Proofs.Tryz.f85]) ?_
  (conv => whnf)
  exact Ends.pure [0, 1] (.aggL ⟨.int_of rfl, .fnL trivial ⟨.freezePL (by simp) rfl ⟨.free (fnV_free _), trivial⟩, .freezePL (by simp) rfl ⟨.int_of rfl, trivial⟩, trivial⟩, .fnL trivial ⟨.freezePL (by simp) rfl ⟨.free (fnV_free _), trivial⟩, trivial⟩, trivial⟩) (by intro z hz; simp only [List.mem_cons, List.not_mem_nil, or_false] at hz; rcases hz with rfl | rfl <;> exact ne_none_of rfl)
set_option maxRecDepth 100000 in
theorem numberB_ok (f : Nat) : PCon prog 87 [.int .i64 1, fnV f] (.agg (partB f)) := by
  refine callV_of (fn := Go.Proofs.Tryz.f87) (body := _) tab_ok mixed rfl rfl (by decide) (by simp [Go.Proofs.Tryz.f87]) ?_
  (conv => whnf)
  exact Ends.pure [0, 1] (.aggL ⟨.int_of rfl, .fnL trivial ⟨.freezePL (by simp) rfl ⟨.free (fnV_free _), trivial⟩, .freezePL (by simp) rfl ⟨.int_of rfl, trivial⟩, trivial⟩, .fnL trivial ⟨.freezePL (by simp) rfl ⟨.free (fnV_free _), trivial⟩, trivial⟩, trivial⟩) (by intro z hz; simp only [List.mem_cons, List.not_mem_nil, or_false] at hz; rcases hz with rfl | rfl <;> exact ne_none_of rfl)
set_option maxRecDepth 100000 in
theorem wordP_ok (f : Nat) : PCon prog 84 [fnV f] (.agg (partW f)) := by
  refine callV_of (fn := Go.Proofs.Tryz.f84) (body := _) tab_ok mixed rfl rfl (by decide) (by simp [Go.Proofs.Tryz.f84]) ?_
  (conv => whnf)
  refine callV_pure (numberW_ok f) ⟨.int_of rfl, .free (fnV_free _), trivial⟩ ?_
  (conv => whnf)
  exact Ends.pure [] (.free (.agg (partW_free f))) (by simp)
set_option maxRecDepth 100000 in
theorem oneP_ok (f : Nat) : PCon prog 86 [fnV f] (.agg (partB f)) := by
  refine callV_of (fn := Go.Proofs.Tryz.f86) (body := _) tab_ok mixed rfl rfl (by decide) (by simp [Go.Proofs.Tryz.f86]) ?_
  (conv => whnf)
  refine callV_pure (numberB_ok f) ⟨.int_of rfl, .free (fnV_free _), trivial⟩ ?_
  (conv => whnf)
  exact Ends.pure [] (.free (.agg (partB_free f))) (by simp)
set_option maxRecDepth 100000 in
theorem parts23_ok : PCon prog 54 [] (.sl true 3 partRows) := by
  refine callV_of (fn := Go.Proofs.Tryz.f54) (body := _) tab_ok mixed rfl rfl (by decide) (by simp [Go.Proofs.Tryz.f54]) ?_
  (conv => whnf)
  refine callV_pure (wordP_ok _) ⟨.free (fnV_free _), trivial⟩ ?_
  (conv => whnf)
  refine callV_pure (oneP_ok _) ⟨.free (fnV_free _), trivial⟩ ?_
  (conv => whnf)
  refine callV_pure (oneP_ok _) ⟨.free (fnV_free _), trivial⟩ ?_
  (conv => whnf)
  refine callV_pure (oneP_ok _) ⟨.free (fnV_free _), trivial⟩ ?_
  (conv => whnf)
  refine callV_pure (wordP_ok _) ⟨.free (fnV_free _), trivial⟩ ?_
  (conv => whnf)
  refine callV_pure (wordP_ok _) ⟨.free (fnV_free _), trivial⟩ ?_
  (conv => whnf)
  refine callV_pure (wordP_ok _) ⟨.free (fnV_free _), trivial⟩ ?_
  (conv => whnf)
  refine callV_pure (wordP_ok _) ⟨.free (fnV_free _), trivial⟩ ?_
  (conv => whnf)
  refine callV_pure (wordP_ok _) ⟨.free (fnV_free _), trivial⟩ ?_
  (conv => whnf)
  refine callV_pure (oneP_ok _) ⟨.free (fnV_free _), trivial⟩ ?_
  (conv => whnf)
  exact Ends.pure [0] (LeV.freezeE (ys := partRows) (by simp) rfl (by simp) rfl partRows_free) (one_none rfl)
end Go.Proofs.YtjpfofmkgdjelaaGreat
/- Contracts: a rule's parts taken. -/
set_option linter.unusedVariables false
set_option linter.unusedSimpArgs false
namespace Go.Proofs.YtjpfofmkgdjelaaGreat
open Go.RowKit
open Go.Proofs.Tryz (prog)
attribute [local irreducible] CallV RoundV aggK

def numN (b : List UInt8) : Nat := b.foldl (fun n c => n * 256 + c.toNat) 0
theorem numN_succ {b : List UInt8} {j : Nat} (h : j < b.length) : numN (b.take (j + 1)) = numN (b.take j) * 256 + (b[j]).toNat := by
  unfold numN
  rw [List.take_succ_eq_append_getElem h, List.foldl_append]
  rfl
theorem numN_lt (b : List UInt8) : ∀ j, j ≤ b.length → numN (b.take j) < 256 ^ j
  | 0, _ => by simp [numN]
  | j + 1, h => by
    have ih := numN_lt b j (by omega)
    have := (b[j]'(by omega)).toNat_lt
    rw [numN_succ (by omega), Nat.pow_succ]
    omega
theorem or64 {n c : Nat} (hn : n < 2 ^ 32) (hc : c < 256) : bits .or .u64 (IntKind.u64.wrap ((n : Int) * 2 ^ (min (Int.toNat 8) IntKind.u64.bits))) (IntKind.u64.wrap (c : Int)) = ((n * 256 + c : Nat) : Int) := by
  have e : (2 : Int) ^ (min (Int.toNat 8) IntKind.u64.bits) = 256 := by decide
  have e1 : IntKind.u64.wrap (c : Int) = c := by rw [wrapu64]; omega
  rw [e, e1, wrapu64]
  rw [bits_join .u64 64 (by decide) (fun n h0 h1 => by rw [wrapu64]; omega) 8 _ _ (by omega) (by omega) (by omega) (by omega) (by omega) (by omega)]
  omega
def rsAddr (r : Rule) (x : UInt32) : Rule := { r with cover := { r.cover with addr := x } }
def rsTag (r : Rule) (x : UInt32) : Rule := { r with tag := x }
def rsSys (r : Rule) (x : UInt32) : Rule := { r with sys := x }
def rsPref (r : Rule) (x : UInt32) : Rule := { r with pref := x }
def rsMed (r : Rule) (x : UInt32) : Rule := { r with med := x }
def rsAdd (r : Rule) (x : UInt32) : Rule := { r with add := x }
def rsLen (r : Rule) (x : UInt8) : Rule := { r with cover := { r.cover with len := x } }
def rsLeast (r : Rule) (x : UInt8) : Rule := { r with least := x }
def rsMost (r : Rule) (x : UInt8) : Rule := { r with most := x }
def rsTimes (r : Rule) (x : UInt8) : Rule := { r with times := x }
set_option maxRecDepth 100000 in
set_option maxHeartbeats 4000000 in
theorem take3_ok (fr fr' : Bool) (r : Rule) (b : List UInt8) (hb : b.length = 4) : CallV prog 116 [.ptr 0 0, encB fr b, .iptr true [fnV 88]] [(0, some (.var fr' 26 (cellsRu r)))] 1
    (fun v' h' nx' => v' = .tup [] ∧ h' = [(0, some (.var fr' 26 (cellsRu (rsAddr r (UInt32.ofNat (numN b))))))] ∧ nx' = 1) := by
  refine callV_of (fn := Go.Proofs.Tryz.f116) (body := _) tab_ok mixed rfl rfl (by decide) (by simp [Go.Proofs.Tryz.f116]) ?_
  (conv => whnf)
  intro _
  (conv => whnf)
  refine vcg_loop tab_ok mixed (fun j : {j : Nat // j ≤ b.length} => ⟨[(0, .ptr 0 0), (2, .iptr true [fnV 88]), (5, .int .u64 (numN (b.take j.1) : Nat)), (8, encB fr b), (9, cI b.length), (10, cI j.1)], [(0, some (.var fr' 26 (cellsRu r)))], 1⟩) (fun j => b.length - j.1) ⟨0, by omega⟩ (Wk.i (by repeat' (first | exact True.intro | exact id | exact rfl | decide | exact Nat.le_of_ble_eq_true rfl | exact .int_of rfl | exact .int_of (by simp) | exact .free (encB_free _ _) | exact .ptr rfl (by omega) | exact .osl_of rfl (by omega) rfl | exact .fr rfl | exact LeL.fr rfl | exact .yld rfl (by omega) | exact .eptr rfl (by omega) | exact .osl0 | exact .snil_sl | exact .to_any | exact LeV.nineA | exact LeV.noA | exact LeB.fr rfl id id | exact LeB.fr (by simp; done) id id | refine Or.inl ⟨by simp, _, rfl, ?_⟩ | exact Or.inr ⟨by simp, _, _, _, _, rfl⟩ | refine ⟨rfl, rfl, rfl, rfl, rfl, rfl, ?_⟩ | refine ⟨?_, ?_⟩)) (by omega)) (fun j => ?_)
  obtain ⟨j, hj⟩ := j
  (conv => whnf)
  split
  · rename_i hc
    have hc : j < b.length := by simpa using hc
    (conv => whnf)
    refine ⟨rfl, _, ⟨by first | omega | (simp only; omega), idxB hc⟩, ?_⟩
    (conv => whnf)
    refine ⟨by decide, ?_⟩
    (conv => whnf)
    have h1 := numN_lt b j hj
    have h2 : 256 ^ j ≤ 256 ^ 3 := Nat.pow_le_pow_right (by decide) (by omega)
    have h3 : numN (b.take j) < 2 ^ 32 := Nat.lt_of_lt_of_le h1 (Nat.le_trans h2 (by decide))
    refine ⟨⟨j + 1, by omega⟩, (Wk.i (by repeat' (first | exact True.intro | exact id | exact rfl | decide | exact Nat.le_of_ble_eq_true rfl | exact .int_of (wrap64_succ hc (by rw [hb]; decide)) | exact .int_of (by rw [numN_succ hc]; exact or64 h3 (b[j]).toNat_lt) | exact .free (encB_free _ _) | exact .ptr rfl (by omega) | exact .osl_of rfl (by omega) rfl | exact .fr rfl | exact LeL.fr rfl | exact .yld rfl (by omega) | exact .eptr rfl (by omega) | exact .osl0 | exact .snil_sl | exact .to_any | exact LeV.nineA | exact LeV.noA | exact LeB.fr rfl id id | exact LeB.fr (by simp; done) id id | refine Or.inl ⟨by simp, _, rfl, ?_⟩ | exact Or.inr ⟨by simp, _, _, _, _, rfl⟩ | refine ⟨rfl, rfl, rfl, rfl, rfl, rfl, ?_⟩ | refine ⟨?_, ?_⟩)) (by omega)), by simp only; omega⟩
  · rename_i hc
    have hc : j = b.length := by simp at hc; omega
    subst hc
    (conv => whnf)
    refine callV_of (fn := Go.Proofs.Tryz.f88) (body := _) tab_ok mixed rfl rfl (by decide) (by simp [Go.Proofs.Tryz.f88]) ?_
    (conv => whnf)
    refine ⟨_, _, _, Ends.here, ?_⟩
    (conv => whnf)
    have hN : IntKind.u32.wrap ((numN (b.take b.length) : Nat) : Int) = ((UInt32.ofNat (numN b)).toNat : Int) := by
      rw [wrap32, List.take_length]
      simp
    exact ⟨_, _, _, (Ends.all id [] (by repeat' (first | exact True.intro | exact id | exact rfl | decide | exact Nat.le_of_ble_eq_true rfl | exact .int_of hN | exact .ptr rfl (by omega) | exact .osl_of rfl (by omega) rfl | exact .fr rfl | exact LeL.fr rfl | exact .yld rfl (by omega) | exact .eptr rfl (by omega) | exact .osl0 | exact .snil_sl | exact .to_any | exact LeV.nineA | exact LeV.noA | exact LeB.fr rfl id id | exact LeB.fr (by simp; done) id id | refine Or.inl ⟨by simp, _, rfl, ?_⟩ | exact Or.inr ⟨by simp, _, _, _, _, rfl⟩ | refine ⟨rfl, rfl, rfl, rfl, rfl, rfl, ?_⟩ | refine ⟨?_, ?_⟩)) (fun _ _ _ _ h => h) (fun _ _ => rfl) (by omega) (by simp)), rfl, rfl, rfl⟩
set_option maxRecDepth 100000 in
set_option maxHeartbeats 4000000 in
theorem take9_ok (fr fr' : Bool) (r : Rule) (b : List UInt8) (hb : b.length = 4) : CallV prog 116 [.ptr 0 0, encB fr b, .iptr true [fnV 95]] [(0, some (.var fr' 26 (cellsRu r)))] 1
    (fun v' h' nx' => v' = .tup [] ∧ h' = [(0, some (.var fr' 26 (cellsRu (rsTag r (UInt32.ofNat (numN b))))))] ∧ nx' = 1) := by
  refine callV_of (fn := Go.Proofs.Tryz.f116) (body := _) tab_ok mixed rfl rfl (by decide) (by simp [Go.Proofs.Tryz.f116]) ?_
  (conv => whnf)
  intro _
  (conv => whnf)
  refine vcg_loop tab_ok mixed (fun j : {j : Nat // j ≤ b.length} => ⟨[(0, .ptr 0 0), (2, .iptr true [fnV 95]), (5, .int .u64 (numN (b.take j.1) : Nat)), (8, encB fr b), (9, cI b.length), (10, cI j.1)], [(0, some (.var fr' 26 (cellsRu r)))], 1⟩) (fun j => b.length - j.1) ⟨0, by omega⟩ (Wk.i (by repeat' (first | exact True.intro | exact id | exact rfl | decide | exact Nat.le_of_ble_eq_true rfl | exact .int_of rfl | exact .int_of (by simp) | exact .free (encB_free _ _) | exact .ptr rfl (by omega) | exact .osl_of rfl (by omega) rfl | exact .fr rfl | exact LeL.fr rfl | exact .yld rfl (by omega) | exact .eptr rfl (by omega) | exact .osl0 | exact .snil_sl | exact .to_any | exact LeV.nineA | exact LeV.noA | exact LeB.fr rfl id id | exact LeB.fr (by simp; done) id id | refine Or.inl ⟨by simp, _, rfl, ?_⟩ | exact Or.inr ⟨by simp, _, _, _, _, rfl⟩ | refine ⟨rfl, rfl, rfl, rfl, rfl, rfl, ?_⟩ | refine ⟨?_, ?_⟩)) (by omega)) (fun j => ?_)
  obtain ⟨j, hj⟩ := j
  (conv => whnf)
  split
  · rename_i hc
    have hc : j < b.length := by simpa using hc
    (conv => whnf)
    refine ⟨rfl, _, ⟨by first | omega | (simp only; omega), idxB hc⟩, ?_⟩
    (conv => whnf)
    refine ⟨by decide, ?_⟩
    (conv => whnf)
    have h1 := numN_lt b j hj
    have h2 : 256 ^ j ≤ 256 ^ 3 := Nat.pow_le_pow_right (by decide) (by omega)
    have h3 : numN (b.take j) < 2 ^ 32 := Nat.lt_of_lt_of_le h1 (Nat.le_trans h2 (by decide))
    refine ⟨⟨j + 1, by omega⟩, (Wk.i (by repeat' (first | exact True.intro | exact id | exact rfl | decide | exact Nat.le_of_ble_eq_true rfl | exact .int_of (wrap64_succ hc (by rw [hb]; decide)) | exact .int_of (by rw [numN_succ hc]; exact or64 h3 (b[j]).toNat_lt) | exact .free (encB_free _ _) | exact .ptr rfl (by omega) | exact .osl_of rfl (by omega) rfl | exact .fr rfl | exact LeL.fr rfl | exact .yld rfl (by omega) | exact .eptr rfl (by omega) | exact .osl0 | exact .snil_sl | exact .to_any | exact LeV.nineA | exact LeV.noA | exact LeB.fr rfl id id | exact LeB.fr (by simp; done) id id | refine Or.inl ⟨by simp, _, rfl, ?_⟩ | exact Or.inr ⟨by simp, _, _, _, _, rfl⟩ | refine ⟨rfl, rfl, rfl, rfl, rfl, rfl, ?_⟩ | refine ⟨?_, ?_⟩)) (by omega)), by simp only; omega⟩
  · rename_i hc
    have hc : j = b.length := by simp at hc; omega
    subst hc
    (conv => whnf)
    refine callV_of (fn := Go.Proofs.Tryz.f95) (body := _) tab_ok mixed rfl rfl (by decide) (by simp [Go.Proofs.Tryz.f95]) ?_
    (conv => whnf)
    refine ⟨_, _, _, Ends.here, ?_⟩
    (conv => whnf)
    have hN : IntKind.u32.wrap ((numN (b.take b.length) : Nat) : Int) = ((UInt32.ofNat (numN b)).toNat : Int) := by
      rw [wrap32, List.take_length]
      simp
    exact ⟨_, _, _, (Ends.all id [] (by repeat' (first | exact True.intro | exact id | exact rfl | decide | exact Nat.le_of_ble_eq_true rfl | exact .int_of hN | exact .ptr rfl (by omega) | exact .osl_of rfl (by omega) rfl | exact .fr rfl | exact LeL.fr rfl | exact .yld rfl (by omega) | exact .eptr rfl (by omega) | exact .osl0 | exact .snil_sl | exact .to_any | exact LeV.nineA | exact LeV.noA | exact LeB.fr rfl id id | exact LeB.fr (by simp; done) id id | refine Or.inl ⟨by simp, _, rfl, ?_⟩ | exact Or.inr ⟨by simp, _, _, _, _, rfl⟩ | refine ⟨rfl, rfl, rfl, rfl, rfl, rfl, ?_⟩ | refine ⟨?_, ?_⟩)) (fun _ _ _ _ h => h) (fun _ _ => rfl) (by omega) (by simp)), rfl, rfl, rfl⟩
set_option maxRecDepth 100000 in
set_option maxHeartbeats 4000000 in
theorem take10_ok (fr fr' : Bool) (r : Rule) (b : List UInt8) (hb : b.length = 4) : CallV prog 116 [.ptr 0 0, encB fr b, .iptr true [fnV 96]] [(0, some (.var fr' 26 (cellsRu r)))] 1
    (fun v' h' nx' => v' = .tup [] ∧ h' = [(0, some (.var fr' 26 (cellsRu (rsSys r (UInt32.ofNat (numN b))))))] ∧ nx' = 1) := by
  refine callV_of (fn := Go.Proofs.Tryz.f116) (body := _) tab_ok mixed rfl rfl (by decide) (by simp [Go.Proofs.Tryz.f116]) ?_
  (conv => whnf)
  intro _
  (conv => whnf)
  refine vcg_loop tab_ok mixed (fun j : {j : Nat // j ≤ b.length} => ⟨[(0, .ptr 0 0), (2, .iptr true [fnV 96]), (5, .int .u64 (numN (b.take j.1) : Nat)), (8, encB fr b), (9, cI b.length), (10, cI j.1)], [(0, some (.var fr' 26 (cellsRu r)))], 1⟩) (fun j => b.length - j.1) ⟨0, by omega⟩ (Wk.i (by repeat' (first | exact True.intro | exact id | exact rfl | decide | exact Nat.le_of_ble_eq_true rfl | exact .int_of rfl | exact .int_of (by simp) | exact .free (encB_free _ _) | exact .ptr rfl (by omega) | exact .osl_of rfl (by omega) rfl | exact .fr rfl | exact LeL.fr rfl | exact .yld rfl (by omega) | exact .eptr rfl (by omega) | exact .osl0 | exact .snil_sl | exact .to_any | exact LeV.nineA | exact LeV.noA | exact LeB.fr rfl id id | exact LeB.fr (by simp; done) id id | refine Or.inl ⟨by simp, _, rfl, ?_⟩ | exact Or.inr ⟨by simp, _, _, _, _, rfl⟩ | refine ⟨rfl, rfl, rfl, rfl, rfl, rfl, ?_⟩ | refine ⟨?_, ?_⟩)) (by omega)) (fun j => ?_)
  obtain ⟨j, hj⟩ := j
  (conv => whnf)
  split
  · rename_i hc
    have hc : j < b.length := by simpa using hc
    (conv => whnf)
    refine ⟨rfl, _, ⟨by first | omega | (simp only; omega), idxB hc⟩, ?_⟩
    (conv => whnf)
    refine ⟨by decide, ?_⟩
    (conv => whnf)
    have h1 := numN_lt b j hj
    have h2 : 256 ^ j ≤ 256 ^ 3 := Nat.pow_le_pow_right (by decide) (by omega)
    have h3 : numN (b.take j) < 2 ^ 32 := Nat.lt_of_lt_of_le h1 (Nat.le_trans h2 (by decide))
    refine ⟨⟨j + 1, by omega⟩, (Wk.i (by repeat' (first | exact True.intro | exact id | exact rfl | decide | exact Nat.le_of_ble_eq_true rfl | exact .int_of (wrap64_succ hc (by rw [hb]; decide)) | exact .int_of (by rw [numN_succ hc]; exact or64 h3 (b[j]).toNat_lt) | exact .free (encB_free _ _) | exact .ptr rfl (by omega) | exact .osl_of rfl (by omega) rfl | exact .fr rfl | exact LeL.fr rfl | exact .yld rfl (by omega) | exact .eptr rfl (by omega) | exact .osl0 | exact .snil_sl | exact .to_any | exact LeV.nineA | exact LeV.noA | exact LeB.fr rfl id id | exact LeB.fr (by simp; done) id id | refine Or.inl ⟨by simp, _, rfl, ?_⟩ | exact Or.inr ⟨by simp, _, _, _, _, rfl⟩ | refine ⟨rfl, rfl, rfl, rfl, rfl, rfl, ?_⟩ | refine ⟨?_, ?_⟩)) (by omega)), by simp only; omega⟩
  · rename_i hc
    have hc : j = b.length := by simp at hc; omega
    subst hc
    (conv => whnf)
    refine callV_of (fn := Go.Proofs.Tryz.f96) (body := _) tab_ok mixed rfl rfl (by decide) (by simp [Go.Proofs.Tryz.f96]) ?_
    (conv => whnf)
    refine ⟨_, _, _, Ends.here, ?_⟩
    (conv => whnf)
    have hN : IntKind.u32.wrap ((numN (b.take b.length) : Nat) : Int) = ((UInt32.ofNat (numN b)).toNat : Int) := by
      rw [wrap32, List.take_length]
      simp
    exact ⟨_, _, _, (Ends.all id [] (by repeat' (first | exact True.intro | exact id | exact rfl | decide | exact Nat.le_of_ble_eq_true rfl | exact .int_of hN | exact .ptr rfl (by omega) | exact .osl_of rfl (by omega) rfl | exact .fr rfl | exact LeL.fr rfl | exact .yld rfl (by omega) | exact .eptr rfl (by omega) | exact .osl0 | exact .snil_sl | exact .to_any | exact LeV.nineA | exact LeV.noA | exact LeB.fr rfl id id | exact LeB.fr (by simp; done) id id | refine Or.inl ⟨by simp, _, rfl, ?_⟩ | exact Or.inr ⟨by simp, _, _, _, _, rfl⟩ | refine ⟨rfl, rfl, rfl, rfl, rfl, rfl, ?_⟩ | refine ⟨?_, ?_⟩)) (fun _ _ _ _ h => h) (fun _ _ => rfl) (by omega) (by simp)), rfl, rfl, rfl⟩
set_option maxRecDepth 100000 in
set_option maxHeartbeats 4000000 in
theorem take11_ok (fr fr' : Bool) (r : Rule) (b : List UInt8) (hb : b.length = 4) : CallV prog 116 [.ptr 0 0, encB fr b, .iptr true [fnV 97]] [(0, some (.var fr' 26 (cellsRu r)))] 1
    (fun v' h' nx' => v' = .tup [] ∧ h' = [(0, some (.var fr' 26 (cellsRu (rsPref r (UInt32.ofNat (numN b))))))] ∧ nx' = 1) := by
  refine callV_of (fn := Go.Proofs.Tryz.f116) (body := _) tab_ok mixed rfl rfl (by decide) (by simp [Go.Proofs.Tryz.f116]) ?_
  (conv => whnf)
  intro _
  (conv => whnf)
  refine vcg_loop tab_ok mixed (fun j : {j : Nat // j ≤ b.length} => ⟨[(0, .ptr 0 0), (2, .iptr true [fnV 97]), (5, .int .u64 (numN (b.take j.1) : Nat)), (8, encB fr b), (9, cI b.length), (10, cI j.1)], [(0, some (.var fr' 26 (cellsRu r)))], 1⟩) (fun j => b.length - j.1) ⟨0, by omega⟩ (Wk.i (by repeat' (first | exact True.intro | exact id | exact rfl | decide | exact Nat.le_of_ble_eq_true rfl | exact .int_of rfl | exact .int_of (by simp) | exact .free (encB_free _ _) | exact .ptr rfl (by omega) | exact .osl_of rfl (by omega) rfl | exact .fr rfl | exact LeL.fr rfl | exact .yld rfl (by omega) | exact .eptr rfl (by omega) | exact .osl0 | exact .snil_sl | exact .to_any | exact LeV.nineA | exact LeV.noA | exact LeB.fr rfl id id | exact LeB.fr (by simp; done) id id | refine Or.inl ⟨by simp, _, rfl, ?_⟩ | exact Or.inr ⟨by simp, _, _, _, _, rfl⟩ | refine ⟨rfl, rfl, rfl, rfl, rfl, rfl, ?_⟩ | refine ⟨?_, ?_⟩)) (by omega)) (fun j => ?_)
  obtain ⟨j, hj⟩ := j
  (conv => whnf)
  split
  · rename_i hc
    have hc : j < b.length := by simpa using hc
    (conv => whnf)
    refine ⟨rfl, _, ⟨by first | omega | (simp only; omega), idxB hc⟩, ?_⟩
    (conv => whnf)
    refine ⟨by decide, ?_⟩
    (conv => whnf)
    have h1 := numN_lt b j hj
    have h2 : 256 ^ j ≤ 256 ^ 3 := Nat.pow_le_pow_right (by decide) (by omega)
    have h3 : numN (b.take j) < 2 ^ 32 := Nat.lt_of_lt_of_le h1 (Nat.le_trans h2 (by decide))
    refine ⟨⟨j + 1, by omega⟩, (Wk.i (by repeat' (first | exact True.intro | exact id | exact rfl | decide | exact Nat.le_of_ble_eq_true rfl | exact .int_of (wrap64_succ hc (by rw [hb]; decide)) | exact .int_of (by rw [numN_succ hc]; exact or64 h3 (b[j]).toNat_lt) | exact .free (encB_free _ _) | exact .ptr rfl (by omega) | exact .osl_of rfl (by omega) rfl | exact .fr rfl | exact LeL.fr rfl | exact .yld rfl (by omega) | exact .eptr rfl (by omega) | exact .osl0 | exact .snil_sl | exact .to_any | exact LeV.nineA | exact LeV.noA | exact LeB.fr rfl id id | exact LeB.fr (by simp; done) id id | refine Or.inl ⟨by simp, _, rfl, ?_⟩ | exact Or.inr ⟨by simp, _, _, _, _, rfl⟩ | refine ⟨rfl, rfl, rfl, rfl, rfl, rfl, ?_⟩ | refine ⟨?_, ?_⟩)) (by omega)), by simp only; omega⟩
  · rename_i hc
    have hc : j = b.length := by simp at hc; omega
    subst hc
    (conv => whnf)
    refine callV_of (fn := Go.Proofs.Tryz.f97) (body := _) tab_ok mixed rfl rfl (by decide) (by simp [Go.Proofs.Tryz.f97]) ?_
    (conv => whnf)
    refine ⟨_, _, _, Ends.here, ?_⟩
    (conv => whnf)
    have hN : IntKind.u32.wrap ((numN (b.take b.length) : Nat) : Int) = ((UInt32.ofNat (numN b)).toNat : Int) := by
      rw [wrap32, List.take_length]
      simp
    exact ⟨_, _, _, (Ends.all id [] (by repeat' (first | exact True.intro | exact id | exact rfl | decide | exact Nat.le_of_ble_eq_true rfl | exact .int_of hN | exact .ptr rfl (by omega) | exact .osl_of rfl (by omega) rfl | exact .fr rfl | exact LeL.fr rfl | exact .yld rfl (by omega) | exact .eptr rfl (by omega) | exact .osl0 | exact .snil_sl | exact .to_any | exact LeV.nineA | exact LeV.noA | exact LeB.fr rfl id id | exact LeB.fr (by simp; done) id id | refine Or.inl ⟨by simp, _, rfl, ?_⟩ | exact Or.inr ⟨by simp, _, _, _, _, rfl⟩ | refine ⟨rfl, rfl, rfl, rfl, rfl, rfl, ?_⟩ | refine ⟨?_, ?_⟩)) (fun _ _ _ _ h => h) (fun _ _ => rfl) (by omega) (by simp)), rfl, rfl, rfl⟩
set_option maxRecDepth 100000 in
set_option maxHeartbeats 4000000 in
theorem take12_ok (fr fr' : Bool) (r : Rule) (b : List UInt8) (hb : b.length = 4) : CallV prog 116 [.ptr 0 0, encB fr b, .iptr true [fnV 98]] [(0, some (.var fr' 26 (cellsRu r)))] 1
    (fun v' h' nx' => v' = .tup [] ∧ h' = [(0, some (.var fr' 26 (cellsRu (rsMed r (UInt32.ofNat (numN b))))))] ∧ nx' = 1) := by
  refine callV_of (fn := Go.Proofs.Tryz.f116) (body := _) tab_ok mixed rfl rfl (by decide) (by simp [Go.Proofs.Tryz.f116]) ?_
  (conv => whnf)
  intro _
  (conv => whnf)
  refine vcg_loop tab_ok mixed (fun j : {j : Nat // j ≤ b.length} => ⟨[(0, .ptr 0 0), (2, .iptr true [fnV 98]), (5, .int .u64 (numN (b.take j.1) : Nat)), (8, encB fr b), (9, cI b.length), (10, cI j.1)], [(0, some (.var fr' 26 (cellsRu r)))], 1⟩) (fun j => b.length - j.1) ⟨0, by omega⟩ (Wk.i (by repeat' (first | exact True.intro | exact id | exact rfl | decide | exact Nat.le_of_ble_eq_true rfl | exact .int_of rfl | exact .int_of (by simp) | exact .free (encB_free _ _) | exact .ptr rfl (by omega) | exact .osl_of rfl (by omega) rfl | exact .fr rfl | exact LeL.fr rfl | exact .yld rfl (by omega) | exact .eptr rfl (by omega) | exact .osl0 | exact .snil_sl | exact .to_any | exact LeV.nineA | exact LeV.noA | exact LeB.fr rfl id id | exact LeB.fr (by simp; done) id id | refine Or.inl ⟨by simp, _, rfl, ?_⟩ | exact Or.inr ⟨by simp, _, _, _, _, rfl⟩ | refine ⟨rfl, rfl, rfl, rfl, rfl, rfl, ?_⟩ | refine ⟨?_, ?_⟩)) (by omega)) (fun j => ?_)
  obtain ⟨j, hj⟩ := j
  (conv => whnf)
  split
  · rename_i hc
    have hc : j < b.length := by simpa using hc
    (conv => whnf)
    refine ⟨rfl, _, ⟨by first | omega | (simp only; omega), idxB hc⟩, ?_⟩
    (conv => whnf)
    refine ⟨by decide, ?_⟩
    (conv => whnf)
    have h1 := numN_lt b j hj
    have h2 : 256 ^ j ≤ 256 ^ 3 := Nat.pow_le_pow_right (by decide) (by omega)
    have h3 : numN (b.take j) < 2 ^ 32 := Nat.lt_of_lt_of_le h1 (Nat.le_trans h2 (by decide))
    refine ⟨⟨j + 1, by omega⟩, (Wk.i (by repeat' (first | exact True.intro | exact id | exact rfl | decide | exact Nat.le_of_ble_eq_true rfl | exact .int_of (wrap64_succ hc (by rw [hb]; decide)) | exact .int_of (by rw [numN_succ hc]; exact or64 h3 (b[j]).toNat_lt) | exact .free (encB_free _ _) | exact .ptr rfl (by omega) | exact .osl_of rfl (by omega) rfl | exact .fr rfl | exact LeL.fr rfl | exact .yld rfl (by omega) | exact .eptr rfl (by omega) | exact .osl0 | exact .snil_sl | exact .to_any | exact LeV.nineA | exact LeV.noA | exact LeB.fr rfl id id | exact LeB.fr (by simp; done) id id | refine Or.inl ⟨by simp, _, rfl, ?_⟩ | exact Or.inr ⟨by simp, _, _, _, _, rfl⟩ | refine ⟨rfl, rfl, rfl, rfl, rfl, rfl, ?_⟩ | refine ⟨?_, ?_⟩)) (by omega)), by simp only; omega⟩
  · rename_i hc
    have hc : j = b.length := by simp at hc; omega
    subst hc
    (conv => whnf)
    refine callV_of (fn := Go.Proofs.Tryz.f98) (body := _) tab_ok mixed rfl rfl (by decide) (by simp [Go.Proofs.Tryz.f98]) ?_
    (conv => whnf)
    refine ⟨_, _, _, Ends.here, ?_⟩
    (conv => whnf)
    have hN : IntKind.u32.wrap ((numN (b.take b.length) : Nat) : Int) = ((UInt32.ofNat (numN b)).toNat : Int) := by
      rw [wrap32, List.take_length]
      simp
    exact ⟨_, _, _, (Ends.all id [] (by repeat' (first | exact True.intro | exact id | exact rfl | decide | exact Nat.le_of_ble_eq_true rfl | exact .int_of hN | exact .ptr rfl (by omega) | exact .osl_of rfl (by omega) rfl | exact .fr rfl | exact LeL.fr rfl | exact .yld rfl (by omega) | exact .eptr rfl (by omega) | exact .osl0 | exact .snil_sl | exact .to_any | exact LeV.nineA | exact LeV.noA | exact LeB.fr rfl id id | exact LeB.fr (by simp; done) id id | refine Or.inl ⟨by simp, _, rfl, ?_⟩ | exact Or.inr ⟨by simp, _, _, _, _, rfl⟩ | refine ⟨rfl, rfl, rfl, rfl, rfl, rfl, ?_⟩ | refine ⟨?_, ?_⟩)) (fun _ _ _ _ h => h) (fun _ _ => rfl) (by omega) (by simp)), rfl, rfl, rfl⟩
set_option maxRecDepth 100000 in
set_option maxHeartbeats 4000000 in
theorem take13_ok (fr fr' : Bool) (r : Rule) (b : List UInt8) (hb : b.length = 4) : CallV prog 116 [.ptr 0 0, encB fr b, .iptr true [fnV 99]] [(0, some (.var fr' 26 (cellsRu r)))] 1
    (fun v' h' nx' => v' = .tup [] ∧ h' = [(0, some (.var fr' 26 (cellsRu (rsAdd r (UInt32.ofNat (numN b))))))] ∧ nx' = 1) := by
  refine callV_of (fn := Go.Proofs.Tryz.f116) (body := _) tab_ok mixed rfl rfl (by decide) (by simp [Go.Proofs.Tryz.f116]) ?_
  (conv => whnf)
  intro _
  (conv => whnf)
  refine vcg_loop tab_ok mixed (fun j : {j : Nat // j ≤ b.length} => ⟨[(0, .ptr 0 0), (2, .iptr true [fnV 99]), (5, .int .u64 (numN (b.take j.1) : Nat)), (8, encB fr b), (9, cI b.length), (10, cI j.1)], [(0, some (.var fr' 26 (cellsRu r)))], 1⟩) (fun j => b.length - j.1) ⟨0, by omega⟩ (Wk.i (by repeat' (first | exact True.intro | exact id | exact rfl | decide | exact Nat.le_of_ble_eq_true rfl | exact .int_of rfl | exact .int_of (by simp) | exact .free (encB_free _ _) | exact .ptr rfl (by omega) | exact .osl_of rfl (by omega) rfl | exact .fr rfl | exact LeL.fr rfl | exact .yld rfl (by omega) | exact .eptr rfl (by omega) | exact .osl0 | exact .snil_sl | exact .to_any | exact LeV.nineA | exact LeV.noA | exact LeB.fr rfl id id | exact LeB.fr (by simp; done) id id | refine Or.inl ⟨by simp, _, rfl, ?_⟩ | exact Or.inr ⟨by simp, _, _, _, _, rfl⟩ | refine ⟨rfl, rfl, rfl, rfl, rfl, rfl, ?_⟩ | refine ⟨?_, ?_⟩)) (by omega)) (fun j => ?_)
  obtain ⟨j, hj⟩ := j
  (conv => whnf)
  split
  · rename_i hc
    have hc : j < b.length := by simpa using hc
    (conv => whnf)
    refine ⟨rfl, _, ⟨by first | omega | (simp only; omega), idxB hc⟩, ?_⟩
    (conv => whnf)
    refine ⟨by decide, ?_⟩
    (conv => whnf)
    have h1 := numN_lt b j hj
    have h2 : 256 ^ j ≤ 256 ^ 3 := Nat.pow_le_pow_right (by decide) (by omega)
    have h3 : numN (b.take j) < 2 ^ 32 := Nat.lt_of_lt_of_le h1 (Nat.le_trans h2 (by decide))
    refine ⟨⟨j + 1, by omega⟩, (Wk.i (by repeat' (first | exact True.intro | exact id | exact rfl | decide | exact Nat.le_of_ble_eq_true rfl | exact .int_of (wrap64_succ hc (by rw [hb]; decide)) | exact .int_of (by rw [numN_succ hc]; exact or64 h3 (b[j]).toNat_lt) | exact .free (encB_free _ _) | exact .ptr rfl (by omega) | exact .osl_of rfl (by omega) rfl | exact .fr rfl | exact LeL.fr rfl | exact .yld rfl (by omega) | exact .eptr rfl (by omega) | exact .osl0 | exact .snil_sl | exact .to_any | exact LeV.nineA | exact LeV.noA | exact LeB.fr rfl id id | exact LeB.fr (by simp; done) id id | refine Or.inl ⟨by simp, _, rfl, ?_⟩ | exact Or.inr ⟨by simp, _, _, _, _, rfl⟩ | refine ⟨rfl, rfl, rfl, rfl, rfl, rfl, ?_⟩ | refine ⟨?_, ?_⟩)) (by omega)), by simp only; omega⟩
  · rename_i hc
    have hc : j = b.length := by simp at hc; omega
    subst hc
    (conv => whnf)
    refine callV_of (fn := Go.Proofs.Tryz.f99) (body := _) tab_ok mixed rfl rfl (by decide) (by simp [Go.Proofs.Tryz.f99]) ?_
    (conv => whnf)
    refine ⟨_, _, _, Ends.here, ?_⟩
    (conv => whnf)
    have hN : IntKind.u32.wrap ((numN (b.take b.length) : Nat) : Int) = ((UInt32.ofNat (numN b)).toNat : Int) := by
      rw [wrap32, List.take_length]
      simp
    exact ⟨_, _, _, (Ends.all id [] (by repeat' (first | exact True.intro | exact id | exact rfl | decide | exact Nat.le_of_ble_eq_true rfl | exact .int_of hN | exact .ptr rfl (by omega) | exact .osl_of rfl (by omega) rfl | exact .fr rfl | exact LeL.fr rfl | exact .yld rfl (by omega) | exact .eptr rfl (by omega) | exact .osl0 | exact .snil_sl | exact .to_any | exact LeV.nineA | exact LeV.noA | exact LeB.fr rfl id id | exact LeB.fr (by simp; done) id id | refine Or.inl ⟨by simp, _, rfl, ?_⟩ | exact Or.inr ⟨by simp, _, _, _, _, rfl⟩ | refine ⟨rfl, rfl, rfl, rfl, rfl, rfl, ?_⟩ | refine ⟨?_, ?_⟩)) (fun _ _ _ _ h => h) (fun _ _ => rfl) (by omega) (by simp)), rfl, rfl, rfl⟩
set_option maxRecDepth 100000 in
set_option maxHeartbeats 4000000 in
theorem take4_ok (fr fr' : Bool) (r : Rule) (b : List UInt8) (hb : b.length = 1) : CallV prog 119 [.ptr 0 0, encB fr b, .iptr true [fnV 89]] [(0, some (.var fr' 26 (cellsRu r)))] 1
    (fun v' h' nx' => v' = .tup [] ∧ h' = [(0, some (.var fr' 26 (cellsRu (rsLen r (UInt8.ofNat (numN b))))))] ∧ nx' = 1) := by
  refine callV_of (fn := Go.Proofs.Tryz.f119) (body := _) tab_ok mixed rfl rfl (by decide) (by simp [Go.Proofs.Tryz.f119]) ?_
  (conv => whnf)
  intro _
  (conv => whnf)
  refine vcg_loop tab_ok mixed (fun j : {j : Nat // j ≤ b.length} => ⟨[(0, .ptr 0 0), (2, .iptr true [fnV 89]), (5, .int .u64 (numN (b.take j.1) : Nat)), (8, encB fr b), (9, cI b.length), (10, cI j.1)], [(0, some (.var fr' 26 (cellsRu r)))], 1⟩) (fun j => b.length - j.1) ⟨0, by omega⟩ (Wk.i (by repeat' (first | exact True.intro | exact id | exact rfl | decide | exact Nat.le_of_ble_eq_true rfl | exact .int_of rfl | exact .int_of (by simp) | exact .free (encB_free _ _) | exact .ptr rfl (by omega) | exact .osl_of rfl (by omega) rfl | exact .fr rfl | exact LeL.fr rfl | exact .yld rfl (by omega) | exact .eptr rfl (by omega) | exact .osl0 | exact .snil_sl | exact .to_any | exact LeV.nineA | exact LeV.noA | exact LeB.fr rfl id id | exact LeB.fr (by simp; done) id id | refine Or.inl ⟨by simp, _, rfl, ?_⟩ | exact Or.inr ⟨by simp, _, _, _, _, rfl⟩ | refine ⟨rfl, rfl, rfl, rfl, rfl, rfl, ?_⟩ | refine ⟨?_, ?_⟩)) (by omega)) (fun j => ?_)
  obtain ⟨j, hj⟩ := j
  (conv => whnf)
  split
  · rename_i hc
    have hc : j < b.length := by simpa using hc
    (conv => whnf)
    refine ⟨rfl, _, ⟨by first | omega | (simp only; omega), idxB hc⟩, ?_⟩
    (conv => whnf)
    refine ⟨by decide, ?_⟩
    (conv => whnf)
    have h1 := numN_lt b j hj
    have h2 : 256 ^ j ≤ 256 ^ 3 := Nat.pow_le_pow_right (by decide) (by omega)
    have h3 : numN (b.take j) < 2 ^ 32 := Nat.lt_of_lt_of_le h1 (Nat.le_trans h2 (by decide))
    refine ⟨⟨j + 1, by omega⟩, (Wk.i (by repeat' (first | exact True.intro | exact id | exact rfl | decide | exact Nat.le_of_ble_eq_true rfl | exact .int_of (wrap64_succ hc (by rw [hb]; decide)) | exact .int_of (by rw [numN_succ hc]; exact or64 h3 (b[j]).toNat_lt) | exact .free (encB_free _ _) | exact .ptr rfl (by omega) | exact .osl_of rfl (by omega) rfl | exact .fr rfl | exact LeL.fr rfl | exact .yld rfl (by omega) | exact .eptr rfl (by omega) | exact .osl0 | exact .snil_sl | exact .to_any | exact LeV.nineA | exact LeV.noA | exact LeB.fr rfl id id | exact LeB.fr (by simp; done) id id | refine Or.inl ⟨by simp, _, rfl, ?_⟩ | exact Or.inr ⟨by simp, _, _, _, _, rfl⟩ | refine ⟨rfl, rfl, rfl, rfl, rfl, rfl, ?_⟩ | refine ⟨?_, ?_⟩)) (by omega)), by simp only; omega⟩
  · rename_i hc
    have hc : j = b.length := by simp at hc; omega
    subst hc
    (conv => whnf)
    refine callV_of (fn := Go.Proofs.Tryz.f89) (body := _) tab_ok mixed rfl rfl (by decide) (by simp [Go.Proofs.Tryz.f89]) ?_
    (conv => whnf)
    refine ⟨_, _, _, Ends.here, ?_⟩
    (conv => whnf)
    have hN : IntKind.u8.wrap ((numN (b.take b.length) : Nat) : Int) = ((UInt8.ofNat (numN b)).toNat : Int) := by
      rw [wrap8, List.take_length]
      simp
    exact ⟨_, _, _, (Ends.all id [] (by repeat' (first | exact True.intro | exact id | exact rfl | decide | exact Nat.le_of_ble_eq_true rfl | exact .int_of hN | exact .ptr rfl (by omega) | exact .osl_of rfl (by omega) rfl | exact .fr rfl | exact LeL.fr rfl | exact .yld rfl (by omega) | exact .eptr rfl (by omega) | exact .osl0 | exact .snil_sl | exact .to_any | exact LeV.nineA | exact LeV.noA | exact LeB.fr rfl id id | exact LeB.fr (by simp; done) id id | refine Or.inl ⟨by simp, _, rfl, ?_⟩ | exact Or.inr ⟨by simp, _, _, _, _, rfl⟩ | refine ⟨rfl, rfl, rfl, rfl, rfl, rfl, ?_⟩ | refine ⟨?_, ?_⟩)) (fun _ _ _ _ h => h) (fun _ _ => rfl) (by omega) (by simp)), rfl, rfl, rfl⟩
set_option maxRecDepth 100000 in
set_option maxHeartbeats 4000000 in
theorem take5_ok (fr fr' : Bool) (r : Rule) (b : List UInt8) (hb : b.length = 1) : CallV prog 119 [.ptr 0 0, encB fr b, .iptr true [fnV 90]] [(0, some (.var fr' 26 (cellsRu r)))] 1
    (fun v' h' nx' => v' = .tup [] ∧ h' = [(0, some (.var fr' 26 (cellsRu (rsLeast r (UInt8.ofNat (numN b))))))] ∧ nx' = 1) := by
  refine callV_of (fn := Go.Proofs.Tryz.f119) (body := _) tab_ok mixed rfl rfl (by decide) (by simp [Go.Proofs.Tryz.f119]) ?_
  (conv => whnf)
  intro _
  (conv => whnf)
  refine vcg_loop tab_ok mixed (fun j : {j : Nat // j ≤ b.length} => ⟨[(0, .ptr 0 0), (2, .iptr true [fnV 90]), (5, .int .u64 (numN (b.take j.1) : Nat)), (8, encB fr b), (9, cI b.length), (10, cI j.1)], [(0, some (.var fr' 26 (cellsRu r)))], 1⟩) (fun j => b.length - j.1) ⟨0, by omega⟩ (Wk.i (by repeat' (first | exact True.intro | exact id | exact rfl | decide | exact Nat.le_of_ble_eq_true rfl | exact .int_of rfl | exact .int_of (by simp) | exact .free (encB_free _ _) | exact .ptr rfl (by omega) | exact .osl_of rfl (by omega) rfl | exact .fr rfl | exact LeL.fr rfl | exact .yld rfl (by omega) | exact .eptr rfl (by omega) | exact .osl0 | exact .snil_sl | exact .to_any | exact LeV.nineA | exact LeV.noA | exact LeB.fr rfl id id | exact LeB.fr (by simp; done) id id | refine Or.inl ⟨by simp, _, rfl, ?_⟩ | exact Or.inr ⟨by simp, _, _, _, _, rfl⟩ | refine ⟨rfl, rfl, rfl, rfl, rfl, rfl, ?_⟩ | refine ⟨?_, ?_⟩)) (by omega)) (fun j => ?_)
  obtain ⟨j, hj⟩ := j
  (conv => whnf)
  split
  · rename_i hc
    have hc : j < b.length := by simpa using hc
    (conv => whnf)
    refine ⟨rfl, _, ⟨by first | omega | (simp only; omega), idxB hc⟩, ?_⟩
    (conv => whnf)
    refine ⟨by decide, ?_⟩
    (conv => whnf)
    have h1 := numN_lt b j hj
    have h2 : 256 ^ j ≤ 256 ^ 3 := Nat.pow_le_pow_right (by decide) (by omega)
    have h3 : numN (b.take j) < 2 ^ 32 := Nat.lt_of_lt_of_le h1 (Nat.le_trans h2 (by decide))
    refine ⟨⟨j + 1, by omega⟩, (Wk.i (by repeat' (first | exact True.intro | exact id | exact rfl | decide | exact Nat.le_of_ble_eq_true rfl | exact .int_of (wrap64_succ hc (by rw [hb]; decide)) | exact .int_of (by rw [numN_succ hc]; exact or64 h3 (b[j]).toNat_lt) | exact .free (encB_free _ _) | exact .ptr rfl (by omega) | exact .osl_of rfl (by omega) rfl | exact .fr rfl | exact LeL.fr rfl | exact .yld rfl (by omega) | exact .eptr rfl (by omega) | exact .osl0 | exact .snil_sl | exact .to_any | exact LeV.nineA | exact LeV.noA | exact LeB.fr rfl id id | exact LeB.fr (by simp; done) id id | refine Or.inl ⟨by simp, _, rfl, ?_⟩ | exact Or.inr ⟨by simp, _, _, _, _, rfl⟩ | refine ⟨rfl, rfl, rfl, rfl, rfl, rfl, ?_⟩ | refine ⟨?_, ?_⟩)) (by omega)), by simp only; omega⟩
  · rename_i hc
    have hc : j = b.length := by simp at hc; omega
    subst hc
    (conv => whnf)
    refine callV_of (fn := Go.Proofs.Tryz.f90) (body := _) tab_ok mixed rfl rfl (by decide) (by simp [Go.Proofs.Tryz.f90]) ?_
    (conv => whnf)
    refine ⟨_, _, _, Ends.here, ?_⟩
    (conv => whnf)
    have hN : IntKind.u8.wrap ((numN (b.take b.length) : Nat) : Int) = ((UInt8.ofNat (numN b)).toNat : Int) := by
      rw [wrap8, List.take_length]
      simp
    exact ⟨_, _, _, (Ends.all id [] (by repeat' (first | exact True.intro | exact id | exact rfl | decide | exact Nat.le_of_ble_eq_true rfl | exact .int_of hN | exact .ptr rfl (by omega) | exact .osl_of rfl (by omega) rfl | exact .fr rfl | exact LeL.fr rfl | exact .yld rfl (by omega) | exact .eptr rfl (by omega) | exact .osl0 | exact .snil_sl | exact .to_any | exact LeV.nineA | exact LeV.noA | exact LeB.fr rfl id id | exact LeB.fr (by simp; done) id id | refine Or.inl ⟨by simp, _, rfl, ?_⟩ | exact Or.inr ⟨by simp, _, _, _, _, rfl⟩ | refine ⟨rfl, rfl, rfl, rfl, rfl, rfl, ?_⟩ | refine ⟨?_, ?_⟩)) (fun _ _ _ _ h => h) (fun _ _ => rfl) (by omega) (by simp)), rfl, rfl, rfl⟩
set_option maxRecDepth 100000 in
set_option maxHeartbeats 4000000 in
theorem take6_ok (fr fr' : Bool) (r : Rule) (b : List UInt8) (hb : b.length = 1) : CallV prog 119 [.ptr 0 0, encB fr b, .iptr true [fnV 91]] [(0, some (.var fr' 26 (cellsRu r)))] 1
    (fun v' h' nx' => v' = .tup [] ∧ h' = [(0, some (.var fr' 26 (cellsRu (rsMost r (UInt8.ofNat (numN b))))))] ∧ nx' = 1) := by
  refine callV_of (fn := Go.Proofs.Tryz.f119) (body := _) tab_ok mixed rfl rfl (by decide) (by simp [Go.Proofs.Tryz.f119]) ?_
  (conv => whnf)
  intro _
  (conv => whnf)
  refine vcg_loop tab_ok mixed (fun j : {j : Nat // j ≤ b.length} => ⟨[(0, .ptr 0 0), (2, .iptr true [fnV 91]), (5, .int .u64 (numN (b.take j.1) : Nat)), (8, encB fr b), (9, cI b.length), (10, cI j.1)], [(0, some (.var fr' 26 (cellsRu r)))], 1⟩) (fun j => b.length - j.1) ⟨0, by omega⟩ (Wk.i (by repeat' (first | exact True.intro | exact id | exact rfl | decide | exact Nat.le_of_ble_eq_true rfl | exact .int_of rfl | exact .int_of (by simp) | exact .free (encB_free _ _) | exact .ptr rfl (by omega) | exact .osl_of rfl (by omega) rfl | exact .fr rfl | exact LeL.fr rfl | exact .yld rfl (by omega) | exact .eptr rfl (by omega) | exact .osl0 | exact .snil_sl | exact .to_any | exact LeV.nineA | exact LeV.noA | exact LeB.fr rfl id id | exact LeB.fr (by simp; done) id id | refine Or.inl ⟨by simp, _, rfl, ?_⟩ | exact Or.inr ⟨by simp, _, _, _, _, rfl⟩ | refine ⟨rfl, rfl, rfl, rfl, rfl, rfl, ?_⟩ | refine ⟨?_, ?_⟩)) (by omega)) (fun j => ?_)
  obtain ⟨j, hj⟩ := j
  (conv => whnf)
  split
  · rename_i hc
    have hc : j < b.length := by simpa using hc
    (conv => whnf)
    refine ⟨rfl, _, ⟨by first | omega | (simp only; omega), idxB hc⟩, ?_⟩
    (conv => whnf)
    refine ⟨by decide, ?_⟩
    (conv => whnf)
    have h1 := numN_lt b j hj
    have h2 : 256 ^ j ≤ 256 ^ 3 := Nat.pow_le_pow_right (by decide) (by omega)
    have h3 : numN (b.take j) < 2 ^ 32 := Nat.lt_of_lt_of_le h1 (Nat.le_trans h2 (by decide))
    refine ⟨⟨j + 1, by omega⟩, (Wk.i (by repeat' (first | exact True.intro | exact id | exact rfl | decide | exact Nat.le_of_ble_eq_true rfl | exact .int_of (wrap64_succ hc (by rw [hb]; decide)) | exact .int_of (by rw [numN_succ hc]; exact or64 h3 (b[j]).toNat_lt) | exact .free (encB_free _ _) | exact .ptr rfl (by omega) | exact .osl_of rfl (by omega) rfl | exact .fr rfl | exact LeL.fr rfl | exact .yld rfl (by omega) | exact .eptr rfl (by omega) | exact .osl0 | exact .snil_sl | exact .to_any | exact LeV.nineA | exact LeV.noA | exact LeB.fr rfl id id | exact LeB.fr (by simp; done) id id | refine Or.inl ⟨by simp, _, rfl, ?_⟩ | exact Or.inr ⟨by simp, _, _, _, _, rfl⟩ | refine ⟨rfl, rfl, rfl, rfl, rfl, rfl, ?_⟩ | refine ⟨?_, ?_⟩)) (by omega)), by simp only; omega⟩
  · rename_i hc
    have hc : j = b.length := by simp at hc; omega
    subst hc
    (conv => whnf)
    refine callV_of (fn := Go.Proofs.Tryz.f91) (body := _) tab_ok mixed rfl rfl (by decide) (by simp [Go.Proofs.Tryz.f91]) ?_
    (conv => whnf)
    refine ⟨_, _, _, Ends.here, ?_⟩
    (conv => whnf)
    have hN : IntKind.u8.wrap ((numN (b.take b.length) : Nat) : Int) = ((UInt8.ofNat (numN b)).toNat : Int) := by
      rw [wrap8, List.take_length]
      simp
    exact ⟨_, _, _, (Ends.all id [] (by repeat' (first | exact True.intro | exact id | exact rfl | decide | exact Nat.le_of_ble_eq_true rfl | exact .int_of hN | exact .ptr rfl (by omega) | exact .osl_of rfl (by omega) rfl | exact .fr rfl | exact LeL.fr rfl | exact .yld rfl (by omega) | exact .eptr rfl (by omega) | exact .osl0 | exact .snil_sl | exact .to_any | exact LeV.nineA | exact LeV.noA | exact LeB.fr rfl id id | exact LeB.fr (by simp; done) id id | refine Or.inl ⟨by simp, _, rfl, ?_⟩ | exact Or.inr ⟨by simp, _, _, _, _, rfl⟩ | refine ⟨rfl, rfl, rfl, rfl, rfl, rfl, ?_⟩ | refine ⟨?_, ?_⟩)) (fun _ _ _ _ h => h) (fun _ _ => rfl) (by omega) (by simp)), rfl, rfl, rfl⟩
set_option maxRecDepth 100000 in
set_option maxHeartbeats 4000000 in
theorem take14_ok (fr fr' : Bool) (r : Rule) (b : List UInt8) (hb : b.length = 1) : CallV prog 119 [.ptr 0 0, encB fr b, .iptr true [fnV 100]] [(0, some (.var fr' 26 (cellsRu r)))] 1
    (fun v' h' nx' => v' = .tup [] ∧ h' = [(0, some (.var fr' 26 (cellsRu (rsTimes r (UInt8.ofNat (numN b))))))] ∧ nx' = 1) := by
  refine callV_of (fn := Go.Proofs.Tryz.f119) (body := _) tab_ok mixed rfl rfl (by decide) (by simp [Go.Proofs.Tryz.f119]) ?_
  (conv => whnf)
  intro _
  (conv => whnf)
  refine vcg_loop tab_ok mixed (fun j : {j : Nat // j ≤ b.length} => ⟨[(0, .ptr 0 0), (2, .iptr true [fnV 100]), (5, .int .u64 (numN (b.take j.1) : Nat)), (8, encB fr b), (9, cI b.length), (10, cI j.1)], [(0, some (.var fr' 26 (cellsRu r)))], 1⟩) (fun j => b.length - j.1) ⟨0, by omega⟩ (Wk.i (by repeat' (first | exact True.intro | exact id | exact rfl | decide | exact Nat.le_of_ble_eq_true rfl | exact .int_of rfl | exact .int_of (by simp) | exact .free (encB_free _ _) | exact .ptr rfl (by omega) | exact .osl_of rfl (by omega) rfl | exact .fr rfl | exact LeL.fr rfl | exact .yld rfl (by omega) | exact .eptr rfl (by omega) | exact .osl0 | exact .snil_sl | exact .to_any | exact LeV.nineA | exact LeV.noA | exact LeB.fr rfl id id | exact LeB.fr (by simp; done) id id | refine Or.inl ⟨by simp, _, rfl, ?_⟩ | exact Or.inr ⟨by simp, _, _, _, _, rfl⟩ | refine ⟨rfl, rfl, rfl, rfl, rfl, rfl, ?_⟩ | refine ⟨?_, ?_⟩)) (by omega)) (fun j => ?_)
  obtain ⟨j, hj⟩ := j
  (conv => whnf)
  split
  · rename_i hc
    have hc : j < b.length := by simpa using hc
    (conv => whnf)
    refine ⟨rfl, _, ⟨by first | omega | (simp only; omega), idxB hc⟩, ?_⟩
    (conv => whnf)
    refine ⟨by decide, ?_⟩
    (conv => whnf)
    have h1 := numN_lt b j hj
    have h2 : 256 ^ j ≤ 256 ^ 3 := Nat.pow_le_pow_right (by decide) (by omega)
    have h3 : numN (b.take j) < 2 ^ 32 := Nat.lt_of_lt_of_le h1 (Nat.le_trans h2 (by decide))
    refine ⟨⟨j + 1, by omega⟩, (Wk.i (by repeat' (first | exact True.intro | exact id | exact rfl | decide | exact Nat.le_of_ble_eq_true rfl | exact .int_of (wrap64_succ hc (by rw [hb]; decide)) | exact .int_of (by rw [numN_succ hc]; exact or64 h3 (b[j]).toNat_lt) | exact .free (encB_free _ _) | exact .ptr rfl (by omega) | exact .osl_of rfl (by omega) rfl | exact .fr rfl | exact LeL.fr rfl | exact .yld rfl (by omega) | exact .eptr rfl (by omega) | exact .osl0 | exact .snil_sl | exact .to_any | exact LeV.nineA | exact LeV.noA | exact LeB.fr rfl id id | exact LeB.fr (by simp; done) id id | refine Or.inl ⟨by simp, _, rfl, ?_⟩ | exact Or.inr ⟨by simp, _, _, _, _, rfl⟩ | refine ⟨rfl, rfl, rfl, rfl, rfl, rfl, ?_⟩ | refine ⟨?_, ?_⟩)) (by omega)), by simp only; omega⟩
  · rename_i hc
    have hc : j = b.length := by simp at hc; omega
    subst hc
    (conv => whnf)
    refine callV_of (fn := Go.Proofs.Tryz.f100) (body := _) tab_ok mixed rfl rfl (by decide) (by simp [Go.Proofs.Tryz.f100]) ?_
    (conv => whnf)
    refine ⟨_, _, _, Ends.here, ?_⟩
    (conv => whnf)
    have hN : IntKind.u8.wrap ((numN (b.take b.length) : Nat) : Int) = ((UInt8.ofNat (numN b)).toNat : Int) := by
      rw [wrap8, List.take_length]
      simp
    exact ⟨_, _, _, (Ends.all id [] (by repeat' (first | exact True.intro | exact id | exact rfl | decide | exact Nat.le_of_ble_eq_true rfl | exact .int_of hN | exact .ptr rfl (by omega) | exact .osl_of rfl (by omega) rfl | exact .fr rfl | exact LeL.fr rfl | exact .yld rfl (by omega) | exact .eptr rfl (by omega) | exact .osl0 | exact .snil_sl | exact .to_any | exact LeV.nineA | exact LeV.noA | exact LeB.fr rfl id id | exact LeB.fr (by simp; done) id id | refine Or.inl ⟨by simp, _, rfl, ?_⟩ | exact Or.inr ⟨by simp, _, _, _, _, rfl⟩ | refine ⟨rfl, rfl, rfl, rfl, rfl, rfl, ?_⟩ | refine ⟨?_, ?_⟩)) (fun _ _ _ _ h => h) (fun _ _ => rfl) (by omega) (by simp)), rfl, rfl, rfl⟩
end Go.Proofs.YtjpfofmkgdjelaaGreat
/- Contracts: policy.laid, policy.Raw. -/
set_option linter.unusedVariables false
set_option linter.unusedSimpArgs false
namespace Go.Proofs.YtjpfofmkgdjelaaGreat
open Go.RowKit
open Go.Proofs.Tryz (prog)
attribute [local irreducible] CallV RoundV aggK

/-- What is asked of a byte's bit. -/
def bitB (c : UInt8) (k : Nat) : Bool := bits .and .u8 ((c.toNat : Int).fdiv (2 ^ (min (Int.toNat (k : Int)) IntKind.u8.bits))) 1 == 1
def rsFlag (r : Rule) (k : Nat) (v : Bool) : Rule := match k with
  | 0 => { r with hasTag := v } | 1 => { r with deny := v } | 2 => { r with hasPref := v } | 3 => { r with hasMed := v } | _ => { r with hasAdd := v }
def rsFlags (r : Rule) (c : UInt8) : Nat → Rule
  | 0 => r
  | k + 1 => rsFlag (rsFlags r c k) k (bitB c k)
set_option maxRecDepth 100000 in
set_option maxHeartbeats 4000000 in
theorem takeF_ok (fr fr' : Bool) (r : Rule) (c : UInt8) : CallV prog 94 [.ptr 0 0, encB fr [c]] [(0, some (.var fr' 26 (cellsRu r)))] 1
    (fun v' h' nx' => v' = .tup [] ∧ h' = [(0, some (.var fr' 26 (cellsRu (rsFlags r c 5))))] ∧ nx' = 1) := by
  refine callV_of (fn := Go.Proofs.Tryz.f94) (body := _) tab_ok mixed rfl rfl (by decide) (by simp [Go.Proofs.Tryz.f94]) ?_
  (conv => whnf)
  refine callV_of (fn := Go.Proofs.Tryz.f93) (body := _) tab_ok mixed rfl rfl (by decide) (by simp [Go.Proofs.Tryz.f93]) ?_
  (conv => whnf)
  refine ⟨by kernel_rfl, ?_⟩
  (conv => whnf)
  refine ⟨_, _, _, Ends.here, ?_⟩
  (conv => whnf)
  intro _
  (conv => whnf)
  refine vcg_loop tab_ok mixed (fun k : {k : Nat // k ≤ 5} => ⟨[(1, encB fr [c]), (7, .osl 1 1 0 5), (8, .int .i64 5), (9, cI k.1)], [(0, some (.var fr' 26 (cellsRu (rsFlags r c k.1)))), (1, some (.arr true true 129 1 (flagPs 0)))], 2⟩) (fun k => 5 - k.1) ⟨0, by omega⟩ (Wk.i (by repeat' (first | exact True.intro | exact id | exact rfl | decide | exact Nat.le_of_ble_eq_true rfl | exact LeB.fps rfl (by omega) | exact .int_of rfl | exact .ptr rfl (by omega) | exact .osl_of rfl (by omega) rfl | exact .fr rfl | exact LeL.fr rfl | exact .yld rfl (by omega) | exact .eptr rfl (by omega) | exact .osl0 | exact .snil_sl | exact .to_any | exact LeV.nineA | exact LeV.noA | exact LeB.fr rfl id id | exact LeB.fr (by simp; done) id id | refine Or.inl ⟨by simp, _, rfl, ?_⟩ | exact Or.inr ⟨by simp, _, _, _, _, rfl⟩ | refine ⟨rfl, rfl, rfl, rfl, rfl, rfl, ?_⟩ | refine ⟨?_, ?_⟩)) (by omega)) (fun k => ?_)
  obtain ⟨k, hk⟩ := k
  rcases k with _ | _ | _ | _ | _ | _ | k
  case succ.succ.succ.succ.succ.succ => omega
  case succ.succ.succ.succ.succ.zero =>
    (conv => whnf)
    exact ⟨_, _, _, (Ends.all id [] (by repeat' (first | exact True.intro | exact id | exact rfl | decide | exact Nat.le_of_ble_eq_true rfl | exact .ptr rfl (by omega) | exact .osl_of rfl (by omega) rfl | exact .fr rfl | exact LeL.fr rfl | exact .yld rfl (by omega) | exact .eptr rfl (by omega) | exact .osl0 | exact .snil_sl | exact .to_any | exact LeV.nineA | exact LeV.noA | exact LeB.fr rfl id id | exact LeB.fr (by simp; done) id id | refine Or.inl ⟨by simp, _, rfl, ?_⟩ | exact Or.inr ⟨by simp, _, _, _, _, rfl⟩ | refine ⟨rfl, rfl, rfl, rfl, rfl, rfl, ?_⟩ | refine ⟨?_, ?_⟩)) (fun _ _ _ _ h => h) (fun _ _ => rfl) (by omega) (by simp)), rfl, rfl, rfl⟩
  · (conv => whnf)
    refine ⟨rfl, ⟨by simp, by simp⟩, ?_⟩
    (conv => whnf)
    refine ⟨rfl, _, rfl, ?_⟩
    (conv => whnf)
    refine ⟨rfl, _, ⟨by first | decide | exact Int.natCast_nonneg _, rfl⟩, ?_⟩
    (conv => whnf)
    refine ⟨Int.natCast_nonneg _, ?_⟩
    (conv => whnf)
    exact ⟨⟨1, by omega⟩, (Wk.i (by repeat' (first | exact True.intro | exact id | exact rfl | decide | exact Nat.le_of_ble_eq_true rfl | exact LeB.fps rfl (by omega) | exact .int_of (by simp [wrap64']) | exact .ptr rfl (by omega) | exact .osl_of rfl (by omega) rfl | exact .fr rfl | exact LeL.fr rfl | exact .yld rfl (by omega) | exact .eptr rfl (by omega) | exact .osl0 | exact .snil_sl | exact .to_any | exact LeV.nineA | exact LeV.noA | exact LeB.fr rfl id id | exact LeB.fr (by simp; done) id id | refine Or.inl ⟨by simp, _, rfl, ?_⟩ | exact Or.inr ⟨by simp, _, _, _, _, rfl⟩ | refine ⟨rfl, rfl, rfl, rfl, rfl, rfl, ?_⟩ | refine ⟨?_, ?_⟩)) (by omega)), by simp⟩
  · (conv => whnf)
    refine ⟨rfl, ⟨by simp, by simp⟩, ?_⟩
    (conv => whnf)
    refine ⟨rfl, _, rfl, ?_⟩
    (conv => whnf)
    refine ⟨rfl, _, ⟨by first | decide | exact Int.natCast_nonneg _, rfl⟩, ?_⟩
    (conv => whnf)
    refine ⟨Int.natCast_nonneg _, ?_⟩
    (conv => whnf)
    exact ⟨⟨2, by omega⟩, (Wk.i (by repeat' (first | exact True.intro | exact id | exact rfl | decide | exact Nat.le_of_ble_eq_true rfl | exact LeB.fps rfl (by omega) | exact .int_of (by simp [wrap64']) | exact .ptr rfl (by omega) | exact .osl_of rfl (by omega) rfl | exact .fr rfl | exact LeL.fr rfl | exact .yld rfl (by omega) | exact .eptr rfl (by omega) | exact .osl0 | exact .snil_sl | exact .to_any | exact LeV.nineA | exact LeV.noA | exact LeB.fr rfl id id | exact LeB.fr (by simp; done) id id | refine Or.inl ⟨by simp, _, rfl, ?_⟩ | exact Or.inr ⟨by simp, _, _, _, _, rfl⟩ | refine ⟨rfl, rfl, rfl, rfl, rfl, rfl, ?_⟩ | refine ⟨?_, ?_⟩)) (by omega)), by simp⟩
  · (conv => whnf)
    refine ⟨rfl, ⟨by simp, by simp⟩, ?_⟩
    (conv => whnf)
    refine ⟨rfl, _, rfl, ?_⟩
    (conv => whnf)
    refine ⟨rfl, _, ⟨by first | decide | exact Int.natCast_nonneg _, rfl⟩, ?_⟩
    (conv => whnf)
    refine ⟨Int.natCast_nonneg _, ?_⟩
    (conv => whnf)
    exact ⟨⟨3, by omega⟩, (Wk.i (by repeat' (first | exact True.intro | exact id | exact rfl | decide | exact Nat.le_of_ble_eq_true rfl | exact LeB.fps rfl (by omega) | exact .int_of (by simp [wrap64']) | exact .ptr rfl (by omega) | exact .osl_of rfl (by omega) rfl | exact .fr rfl | exact LeL.fr rfl | exact .yld rfl (by omega) | exact .eptr rfl (by omega) | exact .osl0 | exact .snil_sl | exact .to_any | exact LeV.nineA | exact LeV.noA | exact LeB.fr rfl id id | exact LeB.fr (by simp; done) id id | refine Or.inl ⟨by simp, _, rfl, ?_⟩ | exact Or.inr ⟨by simp, _, _, _, _, rfl⟩ | refine ⟨rfl, rfl, rfl, rfl, rfl, rfl, ?_⟩ | refine ⟨?_, ?_⟩)) (by omega)), by simp⟩
  · (conv => whnf)
    refine ⟨rfl, ⟨by simp, by simp⟩, ?_⟩
    (conv => whnf)
    refine ⟨rfl, _, rfl, ?_⟩
    (conv => whnf)
    refine ⟨rfl, _, ⟨by first | decide | exact Int.natCast_nonneg _, rfl⟩, ?_⟩
    (conv => whnf)
    refine ⟨Int.natCast_nonneg _, ?_⟩
    (conv => whnf)
    exact ⟨⟨4, by omega⟩, (Wk.i (by repeat' (first | exact True.intro | exact id | exact rfl | decide | exact Nat.le_of_ble_eq_true rfl | exact LeB.fps rfl (by omega) | exact .int_of (by simp [wrap64']) | exact .ptr rfl (by omega) | exact .osl_of rfl (by omega) rfl | exact .fr rfl | exact LeL.fr rfl | exact .yld rfl (by omega) | exact .eptr rfl (by omega) | exact .osl0 | exact .snil_sl | exact .to_any | exact LeV.nineA | exact LeV.noA | exact LeB.fr rfl id id | exact LeB.fr (by simp; done) id id | refine Or.inl ⟨by simp, _, rfl, ?_⟩ | exact Or.inr ⟨by simp, _, _, _, _, rfl⟩ | refine ⟨rfl, rfl, rfl, rfl, rfl, rfl, ?_⟩ | refine ⟨?_, ?_⟩)) (by omega)), by simp⟩
  · (conv => whnf)
    refine ⟨rfl, ⟨by simp, by simp⟩, ?_⟩
    (conv => whnf)
    refine ⟨rfl, _, rfl, ?_⟩
    (conv => whnf)
    refine ⟨rfl, _, ⟨by first | decide | exact Int.natCast_nonneg _, rfl⟩, ?_⟩
    (conv => whnf)
    refine ⟨Int.natCast_nonneg _, ?_⟩
    (conv => whnf)
    exact ⟨⟨5, by omega⟩, (Wk.i (by repeat' (first | exact True.intro | exact id | exact rfl | decide | exact Nat.le_of_ble_eq_true rfl | exact LeB.fps rfl (by omega) | exact .int_of (by simp [wrap64']) | exact .ptr rfl (by omega) | exact .osl_of rfl (by omega) rfl | exact .fr rfl | exact LeL.fr rfl | exact .yld rfl (by omega) | exact .eptr rfl (by omega) | exact .osl0 | exact .snil_sl | exact .to_any | exact LeV.nineA | exact LeV.noA | exact LeB.fr rfl id id | exact LeB.fr (by simp; done) id id | refine Or.inl ⟨by simp, _, rfl, ?_⟩ | exact Or.inr ⟨by simp, _, _, _, _, rfl⟩ | refine ⟨rfl, rfl, rfl, rfl, rfl, rfl, ?_⟩ | refine ⟨?_, ?_⟩)) (by omega)), by simp⟩

/-- A rule's bytes, part by part. -/
def partBs (r : Rule) : List (List UInt8) := [fourB r.cover.addr, [r.cover.len], [r.least], [r.most], [flagB r 5], fourB r.tag, fourB r.sys, fourB r.pref, fourB r.med, fourB r.add, [r.times]]
def recB (r : Rule) : List UInt8 := (partBs r).flatten
def preB (r : Rule) (k : Nat) : List UInt8 := ((partBs r).take k).flatten
def recsB (l : List Rule) : List UInt8 := l.flatMap recB
def rawPo (p : Policy) : List UInt8 := (if p.els then 1 else 0) :: recsB p.rules
theorem recB_len (r : Rule) : (recB r).length = 29 := rfl
theorem recsB_succ {l : List Rule} {i : Nat} (h : i < l.length) : recsB (l.take (i + 1)) = recsB (l.take i) ++ recB l[i] := by
  unfold recsB
  rw [List.take_succ_eq_append_getElem h, List.flatMap_append, List.flatMap_cons, List.flatMap_nil, List.append_nil]
theorem recsB_len : ∀ l : List Rule, (recsB l).length = 29 * l.length
  | [] => rfl
  | r :: l => by
    have := recsB_len l
    rw [recsB, List.flatMap_cons, List.length_append, recB_len, ← recsB, this, List.length_cons]
    omega
theorem fourB_len (x : UInt32) : (fourB x).length = 4 := rfl
instance : FreeRI partRows := ⟨⟨partRows_free⟩⟩
instance {n} : FreeI (fnV n) := ⟨⟨fnV_free n⟩⟩
theorem app_rows {a p c q : List UInt8} {n : Nat} (hn : n = (a ++ p).length) (e : q = p ++ c) : List.take n (rowsB (a ++ p)) ++ rowsB c = rowsB (a ++ q) := by
  subst e
  rw [List.take_of_length_le (by simp [rowsB]; simp at hn; omega)]
  simp [rowsB]
set_option maxRecDepth 100000 in
set_option maxHeartbeats 8000000 in
theorem laid_ok (fr : Bool) (l : List Rule) (hl : l.length ≤ 1000) : PCon prog 56 [encRus fr l] (encB true (recsB l)) := by
  refine callV_of (fn := Go.Proofs.Tryz.f56) (body := _) tab_ok mixed rfl rfl (by decide) (by simp [Go.Proofs.Tryz.f56]) ?_
  (conv => whnf)
  intro _
  (conv => whnf)
  refine vcg_loop tab_ok mixed (fun i : {i : Nat // i ≤ l.length} => ⟨[(2, .osl 0 1 0 (29 * i.1)), (7, encRus fr l), (8, cI l.length), (9, cI i.1)], [(0, some (.arr true false 5 1 (rowsB (recsB (l.take i.1)))))], 1⟩) (fun i => l.length - i.1) ⟨0, by omega⟩ (Wk.i (by repeat' (first | exact True.intro | exact id | exact rfl | decide | exact Nat.le_of_ble_eq_true rfl | exact .int_of (by simp) | exact .ptr rfl (by omega) | exact .osl_of rfl (by omega) rfl | exact .fr rfl | exact LeL.fr rfl | exact .yld rfl (by omega) | exact .eptr rfl (by omega) | exact .osl0 | exact .snil_sl | exact .to_any | exact LeV.nineA | exact LeV.noA | exact LeB.fr rfl id id | exact LeB.fr (by simp; done) id id | refine Or.inl ⟨by simp, _, rfl, ?_⟩ | exact Or.inr ⟨by simp, _, _, _, _, rfl⟩ | refine ⟨rfl, rfl, rfl, rfl, rfl, rfl, ?_⟩ | refine ⟨?_, ?_⟩)) (by omega)) (fun i => ?_)
  obtain ⟨i, hi⟩ := i
  have hlen : (recsB (l.take i)).length = 29 * i := by rw [recsB_len, List.length_take, Nat.min_eq_left hi]
  (conv => whnf)
  split
  · rename_i hc
    have hc : i < l.length := by simpa using hc
    (conv => whnf)
    refine ⟨rfl, _, ⟨by first | omega | (simp only; omega), idxRu hc⟩, ?_⟩
    (conv => whnf)
    refine callV_pure parts23_ok trivial ?_
    (conv => whnf)
    intro _
    (conv => whnf)
    refine vcg_loop tab_ok mixed (fun k : {k : Nat // k ≤ 11} => ⟨[(2, .osl 0 1 0 (29 * i + (preB l[i] k.1).length)), (4, .ptr 1 0), (7, encRus fr l), (8, cI l.length), (9, cI i), (13, .sl true 3 partRows), (14, .int .i64 11), (15, cI k.1)], [(0, some (.arr true false 5 1 (rowsB (recsB (l.take i) ++ preB l[i] k.1)))), (1, some (.var true 26 (cellsRu l[i])))], 2⟩) (fun k => 11 - k.1) ⟨0, by omega⟩ (Wk.i (by repeat' (first | exact True.intro | exact id | exact rfl | decide | exact Nat.le_of_ble_eq_true rfl | exact .int_of rfl | exact LeB.fr (by simp [preB]) id id | exact .ptr rfl (by omega) | exact .osl_of rfl (by omega) rfl | exact .fr rfl | exact LeL.fr rfl | exact .yld rfl (by omega) | exact .eptr rfl (by omega) | exact .osl0 | exact .snil_sl | exact .to_any | exact LeV.nineA | exact LeV.noA | exact LeB.fr rfl id id | exact LeB.fr (by simp; done) id id | refine Or.inl ⟨by simp, _, rfl, ?_⟩ | exact Or.inr ⟨by simp, _, _, _, _, rfl⟩ | refine ⟨rfl, rfl, rfl, rfl, rfl, rfl, ?_⟩ | refine ⟨?_, ?_⟩)) (by omega)) (fun k => ?_)
    obtain ⟨k, hk⟩ := k
    rcases k with _ | _ | _ | _ | _ | _ | _ | _ | _ | _ | _ | _ | k
    case succ.succ.succ.succ.succ.succ.succ.succ.succ.succ.succ.succ => omega
    case succ.succ.succ.succ.succ.succ.succ.succ.succ.succ.succ.zero =>
      (conv => whnf)
      refine ⟨⟨i + 1, by omega⟩, (Wk.i (by repeat' (first | exact True.intro | exact id | exact rfl | decide | exact Nat.le_of_ble_eq_true rfl | exact .int_of (wrap64_succ hc (by unfold maxLen; omega)) | exact .osl_of rfl (by omega) (by show 29 * i + 29 = 29 * (i + 1); omega) | exact LeB.fr (by rw [recsB_succ hc]; rfl) id id | exact .ptr rfl (by omega) | exact .osl_of rfl (by omega) rfl | exact .fr rfl | exact LeL.fr rfl | exact .yld rfl (by omega) | exact .eptr rfl (by omega) | exact .osl0 | exact .snil_sl | exact .to_any | exact LeV.nineA | exact LeV.noA | exact LeB.fr rfl id id | exact LeB.fr (by simp; done) id id | refine Or.inl ⟨by simp, _, rfl, ?_⟩ | exact Or.inr ⟨by simp, _, _, _, _, rfl⟩ | refine ⟨rfl, rfl, rfl, rfl, rfl, rfl, ?_⟩ | refine ⟨?_, ?_⟩)) (by omega)), by simp only; omega⟩
    · (conv => whnf)
      refine ⟨rfl, _, ⟨by first | decide | exact Int.natCast_nonneg _, rfl⟩, ?_⟩
      (conv => whnf)
      refine callV_pure (lay3_ok l[i]) ⟨.free (encRu_free _), .fr rfl, .fr rfl, trivial⟩ ?_
      (conv => whnf)
      have hp : (preB l[i] 0).length ≤ 28 := Nat.le_of_ble_eq_true rfl
      refine ⟨⟨rfl, rfl, rfl, rfl, by decide⟩, by simp [rowsB, hlen], ⟨by simp [tab, tabOf, nth, fourB_len]; omega, by simp [fourB_len]; omega⟩, ?_⟩
      (conv => whnf)
      exact ⟨⟨1, by omega⟩, (Wk.all (renOf [(0, 3)]) [] (by repeat' (first | exact True.intro | exact id | exact rfl | decide | exact Nat.le_of_ble_eq_true rfl | exact .int_of (by simp [wrap64']) | exact .osl_of rfl (by omega) (by simp [preB, partBs, fourB_len]; try omega) | exact LeB.fr (app_rows (by rw [List.length_append, hlen]) rfl) id id | exact .ptr rfl (by omega) | exact .osl_of rfl (by omega) rfl | exact .fr rfl | exact LeL.fr rfl | exact .yld rfl (by omega) | exact .eptr rfl (by omega) | exact .osl0 | exact .snil_sl | exact .to_any | exact LeV.nineA | exact LeV.noA | exact LeB.fr rfl id id | exact LeB.fr (by simp; done) id id | refine Or.inl ⟨by simp, _, rfl, ?_⟩ | exact Or.inr ⟨by simp, _, _, _, _, rfl⟩ | refine ⟨rfl, rfl, rfl, rfl, rfl, rfl, ?_⟩ | refine ⟨?_, ?_⟩)) (show ∀ b ∈ ([0,1] : List Nat), ∀ b' ∈ ([0,1] : List Nat), (renOf [(0, 3)]) b = (renOf [(0, 3)]) b' → b = b' by decide) (fun _ h => by omega) (by omega) (by simp)), by simp⟩
    · (conv => whnf)
      refine ⟨rfl, _, ⟨by first | decide | exact Int.natCast_nonneg _, rfl⟩, ?_⟩
      (conv => whnf)
      refine callV_pure (lay4_ok l[i]) ⟨.free (encRu_free _), .fr rfl, .fr rfl, trivial⟩ ?_
      (conv => whnf)
      have hp : (preB l[i] 1).length ≤ 28 := Nat.le_of_ble_eq_true rfl
      refine ⟨⟨rfl, rfl, rfl, rfl, by decide⟩, by simp [rowsB, hlen], ⟨by simp [tab, tabOf, nth, fourB_len]; omega, by simp [fourB_len]; omega⟩, ?_⟩
      (conv => whnf)
      exact ⟨⟨2, by omega⟩, (Wk.all (renOf [(0, 3)]) [] (by repeat' (first | exact True.intro | exact id | exact rfl | decide | exact Nat.le_of_ble_eq_true rfl | exact .int_of (by simp [wrap64']) | exact .osl_of rfl (by omega) (by simp [preB, partBs, fourB_len]; try omega) | exact LeB.fr (app_rows (by rw [List.length_append, hlen]) rfl) id id | exact .ptr rfl (by omega) | exact .osl_of rfl (by omega) rfl | exact .fr rfl | exact LeL.fr rfl | exact .yld rfl (by omega) | exact .eptr rfl (by omega) | exact .osl0 | exact .snil_sl | exact .to_any | exact LeV.nineA | exact LeV.noA | exact LeB.fr rfl id id | exact LeB.fr (by simp; done) id id | refine Or.inl ⟨by simp, _, rfl, ?_⟩ | exact Or.inr ⟨by simp, _, _, _, _, rfl⟩ | refine ⟨rfl, rfl, rfl, rfl, rfl, rfl, ?_⟩ | refine ⟨?_, ?_⟩)) (show ∀ b ∈ ([0,1] : List Nat), ∀ b' ∈ ([0,1] : List Nat), (renOf [(0, 3)]) b = (renOf [(0, 3)]) b' → b = b' by decide) (fun _ h => by omega) (by omega) (by simp)), by simp⟩
    · (conv => whnf)
      refine ⟨rfl, _, ⟨by first | decide | exact Int.natCast_nonneg _, rfl⟩, ?_⟩
      (conv => whnf)
      refine callV_pure (lay5_ok l[i]) ⟨.free (encRu_free _), .fr rfl, .fr rfl, trivial⟩ ?_
      (conv => whnf)
      have hp : (preB l[i] 2).length ≤ 28 := Nat.le_of_ble_eq_true rfl
      refine ⟨⟨rfl, rfl, rfl, rfl, by decide⟩, by simp [rowsB, hlen], ⟨by simp [tab, tabOf, nth, fourB_len]; omega, by simp [fourB_len]; omega⟩, ?_⟩
      (conv => whnf)
      exact ⟨⟨3, by omega⟩, (Wk.all (renOf [(0, 3)]) [] (by repeat' (first | exact True.intro | exact id | exact rfl | decide | exact Nat.le_of_ble_eq_true rfl | exact .int_of (by simp [wrap64']) | exact .osl_of rfl (by omega) (by simp [preB, partBs, fourB_len]; try omega) | exact LeB.fr (app_rows (by rw [List.length_append, hlen]) rfl) id id | exact .ptr rfl (by omega) | exact .osl_of rfl (by omega) rfl | exact .fr rfl | exact LeL.fr rfl | exact .yld rfl (by omega) | exact .eptr rfl (by omega) | exact .osl0 | exact .snil_sl | exact .to_any | exact LeV.nineA | exact LeV.noA | exact LeB.fr rfl id id | exact LeB.fr (by simp; done) id id | refine Or.inl ⟨by simp, _, rfl, ?_⟩ | exact Or.inr ⟨by simp, _, _, _, _, rfl⟩ | refine ⟨rfl, rfl, rfl, rfl, rfl, rfl, ?_⟩ | refine ⟨?_, ?_⟩)) (show ∀ b ∈ ([0,1] : List Nat), ∀ b' ∈ ([0,1] : List Nat), (renOf [(0, 3)]) b = (renOf [(0, 3)]) b' → b = b' by decide) (fun _ h => by omega) (by omega) (by simp)), by simp⟩
    · (conv => whnf)
      refine ⟨rfl, _, ⟨by first | decide | exact Int.natCast_nonneg _, rfl⟩, ?_⟩
      (conv => whnf)
      refine callV_pure (lay6_ok l[i]) ⟨.free (encRu_free _), .fr rfl, .fr rfl, trivial⟩ ?_
      (conv => whnf)
      have hp : (preB l[i] 3).length ≤ 28 := Nat.le_of_ble_eq_true rfl
      refine ⟨⟨rfl, rfl, rfl, rfl, by decide⟩, by simp [rowsB, hlen], ⟨by simp [tab, tabOf, nth, fourB_len]; omega, by simp [fourB_len]; omega⟩, ?_⟩
      (conv => whnf)
      exact ⟨⟨4, by omega⟩, (Wk.all (renOf [(0, 3)]) [] (by repeat' (first | exact True.intro | exact id | exact rfl | decide | exact Nat.le_of_ble_eq_true rfl | exact .int_of (by simp [wrap64']) | exact .osl_of rfl (by omega) (by simp [preB, partBs, fourB_len]; try omega) | exact LeB.fr (app_rows (by rw [List.length_append, hlen]) rfl) id id | exact .ptr rfl (by omega) | exact .osl_of rfl (by omega) rfl | exact .fr rfl | exact LeL.fr rfl | exact .yld rfl (by omega) | exact .eptr rfl (by omega) | exact .osl0 | exact .snil_sl | exact .to_any | exact LeV.nineA | exact LeV.noA | exact LeB.fr rfl id id | exact LeB.fr (by simp; done) id id | refine Or.inl ⟨by simp, _, rfl, ?_⟩ | exact Or.inr ⟨by simp, _, _, _, _, rfl⟩ | refine ⟨rfl, rfl, rfl, rfl, rfl, rfl, ?_⟩ | refine ⟨?_, ?_⟩)) (show ∀ b ∈ ([0,1] : List Nat), ∀ b' ∈ ([0,1] : List Nat), (renOf [(0, 3)]) b = (renOf [(0, 3)]) b' → b = b' by decide) (fun _ h => by omega) (by omega) (by simp)), by simp⟩
    · (conv => whnf)
      refine ⟨rfl, _, ⟨by first | decide | exact Int.natCast_nonneg _, rfl⟩, ?_⟩
      (conv => whnf)
      refine callV_pure (layF_ok l[i]) ⟨.free (encRu_free _), trivial⟩ ?_
      (conv => whnf)
      have hp : (preB l[i] 4).length ≤ 28 := Nat.le_of_ble_eq_true rfl
      refine ⟨⟨rfl, rfl, rfl, rfl, by decide⟩, by simp [rowsB, hlen], ⟨by simp [tab, tabOf, nth, fourB_len]; omega, by simp [fourB_len]; omega⟩, ?_⟩
      (conv => whnf)
      exact ⟨⟨5, by omega⟩, (Wk.all (renOf [(0, 3)]) [] (by repeat' (first | exact True.intro | exact id | exact rfl | decide | exact Nat.le_of_ble_eq_true rfl | exact .int_of (by simp [wrap64']) | exact .osl_of rfl (by omega) (by simp [preB, partBs, fourB_len]; try omega) | exact LeB.fr (app_rows (by rw [List.length_append, hlen]) rfl) id id | exact .ptr rfl (by omega) | exact .osl_of rfl (by omega) rfl | exact .fr rfl | exact LeL.fr rfl | exact .yld rfl (by omega) | exact .eptr rfl (by omega) | exact .osl0 | exact .snil_sl | exact .to_any | exact LeV.nineA | exact LeV.noA | exact LeB.fr rfl id id | exact LeB.fr (by simp; done) id id | refine Or.inl ⟨by simp, _, rfl, ?_⟩ | exact Or.inr ⟨by simp, _, _, _, _, rfl⟩ | refine ⟨rfl, rfl, rfl, rfl, rfl, rfl, ?_⟩ | refine ⟨?_, ?_⟩)) (show ∀ b ∈ ([0,1] : List Nat), ∀ b' ∈ ([0,1] : List Nat), (renOf [(0, 3)]) b = (renOf [(0, 3)]) b' → b = b' by decide) (fun _ h => by omega) (by omega) (by simp)), by simp⟩
    · (conv => whnf)
      refine ⟨rfl, _, ⟨by first | decide | exact Int.natCast_nonneg _, rfl⟩, ?_⟩
      (conv => whnf)
      refine callV_pure (lay9_ok l[i]) ⟨.free (encRu_free _), .fr rfl, .fr rfl, trivial⟩ ?_
      (conv => whnf)
      have hp : (preB l[i] 5).length ≤ 28 := Nat.le_of_ble_eq_true rfl
      refine ⟨⟨rfl, rfl, rfl, rfl, by decide⟩, by simp [rowsB, hlen], ⟨by simp [tab, tabOf, nth, fourB_len]; omega, by simp [fourB_len]; omega⟩, ?_⟩
      (conv => whnf)
      exact ⟨⟨6, by omega⟩, (Wk.all (renOf [(0, 3)]) [] (by repeat' (first | exact True.intro | exact id | exact rfl | decide | exact Nat.le_of_ble_eq_true rfl | exact .int_of (by simp [wrap64']) | exact .osl_of rfl (by omega) (by simp [preB, partBs, fourB_len]; try omega) | exact LeB.fr (app_rows (by rw [List.length_append, hlen]) rfl) id id | exact .ptr rfl (by omega) | exact .osl_of rfl (by omega) rfl | exact .fr rfl | exact LeL.fr rfl | exact .yld rfl (by omega) | exact .eptr rfl (by omega) | exact .osl0 | exact .snil_sl | exact .to_any | exact LeV.nineA | exact LeV.noA | exact LeB.fr rfl id id | exact LeB.fr (by simp; done) id id | refine Or.inl ⟨by simp, _, rfl, ?_⟩ | exact Or.inr ⟨by simp, _, _, _, _, rfl⟩ | refine ⟨rfl, rfl, rfl, rfl, rfl, rfl, ?_⟩ | refine ⟨?_, ?_⟩)) (show ∀ b ∈ ([0,1] : List Nat), ∀ b' ∈ ([0,1] : List Nat), (renOf [(0, 3)]) b = (renOf [(0, 3)]) b' → b = b' by decide) (fun _ h => by omega) (by omega) (by simp)), by simp⟩
    · (conv => whnf)
      refine ⟨rfl, _, ⟨by first | decide | exact Int.natCast_nonneg _, rfl⟩, ?_⟩
      (conv => whnf)
      refine callV_pure (lay10_ok l[i]) ⟨.free (encRu_free _), .fr rfl, .fr rfl, trivial⟩ ?_
      (conv => whnf)
      have hp : (preB l[i] 6).length ≤ 28 := Nat.le_of_ble_eq_true rfl
      refine ⟨⟨rfl, rfl, rfl, rfl, by decide⟩, by simp [rowsB, hlen], ⟨by simp [tab, tabOf, nth, fourB_len]; omega, by simp [fourB_len]; omega⟩, ?_⟩
      (conv => whnf)
      exact ⟨⟨7, by omega⟩, (Wk.all (renOf [(0, 3)]) [] (by repeat' (first | exact True.intro | exact id | exact rfl | decide | exact Nat.le_of_ble_eq_true rfl | exact .int_of (by simp [wrap64']) | exact .osl_of rfl (by omega) (by simp [preB, partBs, fourB_len]; try omega) | exact LeB.fr (app_rows (by rw [List.length_append, hlen]) rfl) id id | exact .ptr rfl (by omega) | exact .osl_of rfl (by omega) rfl | exact .fr rfl | exact LeL.fr rfl | exact .yld rfl (by omega) | exact .eptr rfl (by omega) | exact .osl0 | exact .snil_sl | exact .to_any | exact LeV.nineA | exact LeV.noA | exact LeB.fr rfl id id | exact LeB.fr (by simp; done) id id | refine Or.inl ⟨by simp, _, rfl, ?_⟩ | exact Or.inr ⟨by simp, _, _, _, _, rfl⟩ | refine ⟨rfl, rfl, rfl, rfl, rfl, rfl, ?_⟩ | refine ⟨?_, ?_⟩)) (show ∀ b ∈ ([0,1] : List Nat), ∀ b' ∈ ([0,1] : List Nat), (renOf [(0, 3)]) b = (renOf [(0, 3)]) b' → b = b' by decide) (fun _ h => by omega) (by omega) (by simp)), by simp⟩
    · (conv => whnf)
      refine ⟨rfl, _, ⟨by first | decide | exact Int.natCast_nonneg _, rfl⟩, ?_⟩
      (conv => whnf)
      refine callV_pure (lay11_ok l[i]) ⟨.free (encRu_free _), .fr rfl, .fr rfl, trivial⟩ ?_
      (conv => whnf)
      have hp : (preB l[i] 7).length ≤ 28 := Nat.le_of_ble_eq_true rfl
      refine ⟨⟨rfl, rfl, rfl, rfl, by decide⟩, by simp [rowsB, hlen], ⟨by simp [tab, tabOf, nth, fourB_len]; omega, by simp [fourB_len]; omega⟩, ?_⟩
      (conv => whnf)
      exact ⟨⟨8, by omega⟩, (Wk.all (renOf [(0, 3)]) [] (by repeat' (first | exact True.intro | exact id | exact rfl | decide | exact Nat.le_of_ble_eq_true rfl | exact .int_of (by simp [wrap64']) | exact .osl_of rfl (by omega) (by simp [preB, partBs, fourB_len]; try omega) | exact LeB.fr (app_rows (by rw [List.length_append, hlen]) rfl) id id | exact .ptr rfl (by omega) | exact .osl_of rfl (by omega) rfl | exact .fr rfl | exact LeL.fr rfl | exact .yld rfl (by omega) | exact .eptr rfl (by omega) | exact .osl0 | exact .snil_sl | exact .to_any | exact LeV.nineA | exact LeV.noA | exact LeB.fr rfl id id | exact LeB.fr (by simp; done) id id | refine Or.inl ⟨by simp, _, rfl, ?_⟩ | exact Or.inr ⟨by simp, _, _, _, _, rfl⟩ | refine ⟨rfl, rfl, rfl, rfl, rfl, rfl, ?_⟩ | refine ⟨?_, ?_⟩)) (show ∀ b ∈ ([0,1] : List Nat), ∀ b' ∈ ([0,1] : List Nat), (renOf [(0, 3)]) b = (renOf [(0, 3)]) b' → b = b' by decide) (fun _ h => by omega) (by omega) (by simp)), by simp⟩
    · (conv => whnf)
      refine ⟨rfl, _, ⟨by first | decide | exact Int.natCast_nonneg _, rfl⟩, ?_⟩
      (conv => whnf)
      refine callV_pure (lay12_ok l[i]) ⟨.free (encRu_free _), .fr rfl, .fr rfl, trivial⟩ ?_
      (conv => whnf)
      have hp : (preB l[i] 8).length ≤ 28 := Nat.le_of_ble_eq_true rfl
      refine ⟨⟨rfl, rfl, rfl, rfl, by decide⟩, by simp [rowsB, hlen], ⟨by simp [tab, tabOf, nth, fourB_len]; omega, by simp [fourB_len]; omega⟩, ?_⟩
      (conv => whnf)
      exact ⟨⟨9, by omega⟩, (Wk.all (renOf [(0, 3)]) [] (by repeat' (first | exact True.intro | exact id | exact rfl | decide | exact Nat.le_of_ble_eq_true rfl | exact .int_of (by simp [wrap64']) | exact .osl_of rfl (by omega) (by simp [preB, partBs, fourB_len]; try omega) | exact LeB.fr (app_rows (by rw [List.length_append, hlen]) rfl) id id | exact .ptr rfl (by omega) | exact .osl_of rfl (by omega) rfl | exact .fr rfl | exact LeL.fr rfl | exact .yld rfl (by omega) | exact .eptr rfl (by omega) | exact .osl0 | exact .snil_sl | exact .to_any | exact LeV.nineA | exact LeV.noA | exact LeB.fr rfl id id | exact LeB.fr (by simp; done) id id | refine Or.inl ⟨by simp, _, rfl, ?_⟩ | exact Or.inr ⟨by simp, _, _, _, _, rfl⟩ | refine ⟨rfl, rfl, rfl, rfl, rfl, rfl, ?_⟩ | refine ⟨?_, ?_⟩)) (show ∀ b ∈ ([0,1] : List Nat), ∀ b' ∈ ([0,1] : List Nat), (renOf [(0, 3)]) b = (renOf [(0, 3)]) b' → b = b' by decide) (fun _ h => by omega) (by omega) (by simp)), by simp⟩
    · (conv => whnf)
      refine ⟨rfl, _, ⟨by first | decide | exact Int.natCast_nonneg _, rfl⟩, ?_⟩
      (conv => whnf)
      refine callV_pure (lay13_ok l[i]) ⟨.free (encRu_free _), .fr rfl, .fr rfl, trivial⟩ ?_
      (conv => whnf)
      have hp : (preB l[i] 9).length ≤ 28 := Nat.le_of_ble_eq_true rfl
      refine ⟨⟨rfl, rfl, rfl, rfl, by decide⟩, by simp [rowsB, hlen], ⟨by simp [tab, tabOf, nth, fourB_len]; omega, by simp [fourB_len]; omega⟩, ?_⟩
      (conv => whnf)
      exact ⟨⟨10, by omega⟩, (Wk.all (renOf [(0, 3)]) [] (by repeat' (first | exact True.intro | exact id | exact rfl | decide | exact Nat.le_of_ble_eq_true rfl | exact .int_of (by simp [wrap64']) | exact .osl_of rfl (by omega) (by simp [preB, partBs, fourB_len]; try omega) | exact LeB.fr (app_rows (by rw [List.length_append, hlen]) rfl) id id | exact .ptr rfl (by omega) | exact .osl_of rfl (by omega) rfl | exact .fr rfl | exact LeL.fr rfl | exact .yld rfl (by omega) | exact .eptr rfl (by omega) | exact .osl0 | exact .snil_sl | exact .to_any | exact LeV.nineA | exact LeV.noA | exact LeB.fr rfl id id | exact LeB.fr (by simp; done) id id | refine Or.inl ⟨by simp, _, rfl, ?_⟩ | exact Or.inr ⟨by simp, _, _, _, _, rfl⟩ | refine ⟨rfl, rfl, rfl, rfl, rfl, rfl, ?_⟩ | refine ⟨?_, ?_⟩)) (show ∀ b ∈ ([0,1] : List Nat), ∀ b' ∈ ([0,1] : List Nat), (renOf [(0, 3)]) b = (renOf [(0, 3)]) b' → b = b' by decide) (fun _ h => by omega) (by omega) (by simp)), by simp⟩
    · (conv => whnf)
      refine ⟨rfl, _, ⟨by first | decide | exact Int.natCast_nonneg _, rfl⟩, ?_⟩
      (conv => whnf)
      refine callV_pure (lay14_ok l[i]) ⟨.free (encRu_free _), .fr rfl, .fr rfl, trivial⟩ ?_
      (conv => whnf)
      have hp : (preB l[i] 10).length ≤ 28 := Nat.le_of_ble_eq_true rfl
      refine ⟨⟨rfl, rfl, rfl, rfl, by decide⟩, by simp [rowsB, hlen], ⟨by simp [tab, tabOf, nth, fourB_len]; omega, by simp [fourB_len]; omega⟩, ?_⟩
      (conv => whnf)
      exact ⟨⟨11, by omega⟩, (Wk.all (renOf [(0, 3)]) [] (by repeat' (first | exact True.intro | exact id | exact rfl | decide | exact Nat.le_of_ble_eq_true rfl | exact .int_of (by simp [wrap64']) | exact .osl_of rfl (by omega) (by simp [preB, partBs, fourB_len]; try omega) | exact LeB.fr (app_rows (by rw [List.length_append, hlen]) rfl) id id | exact .ptr rfl (by omega) | exact .osl_of rfl (by omega) rfl | exact .fr rfl | exact LeL.fr rfl | exact .yld rfl (by omega) | exact .eptr rfl (by omega) | exact .osl0 | exact .snil_sl | exact .to_any | exact LeV.nineA | exact LeV.noA | exact LeB.fr rfl id id | exact LeB.fr (by simp; done) id id | refine Or.inl ⟨by simp, _, rfl, ?_⟩ | exact Or.inr ⟨by simp, _, _, _, _, rfl⟩ | refine ⟨rfl, rfl, rfl, rfl, rfl, rfl, ?_⟩ | refine ⟨?_, ?_⟩)) (show ∀ b ∈ ([0,1] : List Nat), ∀ b' ∈ ([0,1] : List Nat), (renOf [(0, 3)]) b = (renOf [(0, 3)]) b' → b = b' by decide) (fun _ h => by omega) (by omega) (by simp)), by simp⟩
  · rename_i hc
    have hc : i = l.length := by simp at hc; omega
    subst hc
    (conv => whnf)
    rw [List.take_length] at hlen
    exact Ends.pure [0] (LeV.freezeE (ys := rowsB (recsB l)) (by simp) rfl (by simp [rowsB, hlen]) (by simp [rowsB, hlen, List.take_of_length_le]) (rowsB_free _)) (one_none rfl)
end Go.Proofs.YtjpfofmkgdjelaaGreat
