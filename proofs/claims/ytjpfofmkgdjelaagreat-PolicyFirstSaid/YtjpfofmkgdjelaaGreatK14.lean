/- Joined: U3. -/
import Derived.Test.YtjpfofmkgdjelaaGreatK13
/- Contract: the law PolicyFirst. -/
set_option linter.unusedVariables false
set_option linter.unusedSimpArgs false
namespace Go.Proofs.YtjpfofmkgdjelaaGreat
open Go.RowKit
open Go.Proofs.Tryz (prog)
attribute [local irreducible] CallV RoundV aggK

theorem polP_len (b : List UInt8) : (polP b).rules.length ≤ b.length := by
  unfold polP
  split
  · simp [parsed, rulesN, recN]; omega
  · simp [noPo]
set_option maxRecDepth 100000 in
set_option maxHeartbeats 16000000 in
theorem policyFirst_ok (p : Policy) (own : UInt32) (to : Prefix) (a : Attrs) (more : List Rule) (b : List UInt8) : PCon prog 8 [encPo false p, cW own, encP to, encA false a, encRus false more, encB false b] (.bool true) := by
  refine callV_of (fn := Go.Proofs.Tryz.f8) (body := _) tab_ok mixed rfl rfl (by decide) (by simp [Go.Proofs.Tryz.f8]) ?_
  have fin : ∀ {s : St}, ∃ v1 h' nx', Ends 0 s (.bool true) v1 h' nx' ∧ (v1 = .bool true ∧ h' = [] ∧ nx' = 0) := Ends.pure [] (.bool_of rfl) (by simp)
  (conv => whnf)
  refine callV_pure (few23_ok false false p a) ⟨.free (encPo_free _ _), .free (encA_free _ _), trivial⟩ ?_
  cases hf : fewP p a with
  | false =>
    (conv => whnf)
    refine callV_pure works23_ok trivial ?_
    (conv => whnf)
    exact fin
  | true =>
    have hp60 : p.rules.length ≤ 60 := by
      simp only [fewP, Bool.and_eq_true, decide_eq_true_eq] at hf
      omega
    have ha20 : a.path.length ≤ 20 := by
      simp only [fewP, Bool.and_eq_true, decide_eq_true_eq] at hf
      omega
    have hns : ∀ q ∈ a.path, q.ns.length ≤ 1000 := by
      simp only [fewP, Bool.and_eq_true, decide_eq_true_eq, List.all_eq_true] at hf
      intro q hq
      have := hf.1.1.1 q hq
      omega
    (conv => whnf)
    intro _
    (conv => whnf)
    split
    ·
      (conv => whnf)
      refine callV_pure works23_ok trivial ?_
      (conv => whnf)
      exact fin
    rename_i h10
    have h10 : more.length ≤ 10 := by simp at h10; omega
    (conv => whnf)
    intro _
    (conv => whnf)
    split
    ·
      (conv => whnf)
      refine callV_pure works23_ok trivial ?_
      (conv => whnf)
      exact fin
    rename_i h600
    have h600 : b.length ≤ 600 := by simp at h600; omega
    (conv => whnf)
    refine callV_pure (parseT_ok false b (by omega)) ⟨.free (encB_free _ _), trivial⟩ ?_
    (conv => whnf)
    refine callV_pure (num23_ok _) ⟨.int_of rfl, trivial⟩ ?_
    (conv => whnf)
    split
    case' h_1 =>
      rename_i he
      have he : errP b = 0 := by simpa using he
      have hpl := polP_len b
      (conv => whnf)
      refine callV_pure (raw23_ok true (polP b) (by omega)) ⟨.free (encPo_free _ _), trivial⟩ ?_
      rw [show rawB23 (polP b) = b by rw [rawB23, if_pos (pol_fore he).1, (pol_fore he).2], (pol_fore he).1]
      (conv => whnf)
      refine callV_pure (num23_ok 0) ⟨.int_of rfl, trivial⟩ ?_
      (conv => whnf)
      refine ⟨rfl, ⟨⟨b⟩⟩, by simp, ?_⟩
      (conv => whnf)
      refine ⟨rfl, ⟨⟨b⟩⟩, by simp, ?_⟩
      (conv => whnf)
      split
      case h_1 h => exact absurd h (by simp)
      skip
    all_goals
      (conv => whnf)
      refine callV_pure (by_ok false false p own to a) ⟨.free (encPo_free _ _), .int_of rfl, .free (encP_free _), .free (encA_free _ _), trivial⟩ ?_
      by_cases hbe : byE p own to a = 0
      case' neg =>
        rw [byV, if_pos hbe]
        (conv => whnf)
        refine callV_pure (num23_ok _) ⟨.int_of rfl, trivial⟩ ?_
        (conv => whnf)
        split
        case h_2 h => exact absurd h (by simpa using hbe)
        (conv => whnf)
        refine callV_pure works23_ok trivial ?_
        (conv => whnf)
        exact fin
      rw [byV, if_neg (by simp [hbe])]
      (conv => whnf)
      refine callV_pure (num23_ok 0) ⟨.int_of rfl, trivial⟩ ?_
      (conv => whnf)
      refine callV_pure (which_ok false false p to a) ⟨.free (encPo_free _ _), .free (encP_free _), .free (encA_free _ _), trivial⟩ ?_
      (conv => whnf)
      split
      case' h_1 =>
        rename_i hw
        have hw : 0 ≤ whichP p to a := by simpa using hw
        obtain ⟨i, hi, hwi, hfit⟩ : ∃ (i : Nat) (hi : i < p.rules.length), whichP p to a = i ∧ fits p.rules[i] to a = true := by
          rcases which_cases p to a with h | ⟨i, hi, h1, _, h2⟩
          · omega
          · exact ⟨i, hi, h1, h2⟩
        have hwr : IntKind.i64.wrap (whichP p to a + 1) = ((i + 1 : Nat) : Int) := by rw [hwi, wrap64] <;> omega
        (conv => whnf)
        simp only [hwr]
        refine ⟨trivial, ⟨trivial, Int.natCast_nonneg _, Nat.zero_le _, by simp only [Int.toNat_natCast, List.length_map]; omega⟩, ?_⟩
        (conv => whnf)
        refine ⟨⟨rfl, rfl, rfl, rfl, by decide⟩, Nat.zero_le _, ⟨Nat.le_trans (Nat.mul_le_mul (show _ ≤ 1000 by simp; omega) (Nat.le_refl _)) (by decide +kernel), by simp; omega⟩, ?_⟩
        (conv => whnf)
        refine ⟨⟨rfl, rfl, rfl, rfl, by decide⟩, by simp, ⟨Nat.le_trans (Nat.mul_le_mul (show _ ≤ 1000 by simp; omega) (Nat.le_refl _)) (by decide +kernel), by simp; omega⟩, ?_⟩
        (conv => whnf)
        refine ⟨by kernel_rfl, ?_⟩
        have hrows : (List.take (0 + (List.drop 0 (List.take ((i + 1 : Nat) : Int).toNat (rowsRu p.rules))).length) (List.take 0 [] ++ List.drop 0 (List.take ((i + 1 : Nat) : Int).toNat (rowsRu p.rules))) ++ rowsRu more) = rowsRu (p.rules.take (i + 1) ++ more) := by
          rw [List.take_of_length_le (by simp)]
          simp [rowsRu, List.map_take]
        have hlr : 0 + (List.drop 0 (List.take ((i + 1 : Nat) : Int).toNat (rowsRu p.rules))).length + (rowsRu more).length = (rowsRu (p.rules.take (i + 1) ++ more)).length := by simp
        obtain ⟨ho1, ho2⟩ := by_other (own := own) (more := more) (e := !p.els) hi hfit
        by_cases hco : checkP ⟨p.rules.take (i + 1) ++ more, !p.els⟩ = 0
        case' pos =>
          (conv => whnf)
          refine callV_lend [7] (by_ok false false ⟨p.rules.take (i + 1) ++ more, !p.els⟩ own to a) ⟨.aggL ⟨.fresh_off (LeV.freezeE (ys := rowsRu (p.rules.take (i + 1) ++ more)) (by simp) rfl (by simp; try omega) (by rw [hrows, List.drop_zero]; exact List.take_of_length_le (by simp; try omega)) (rowsRu_free _)), .fr rfl, trivial⟩, .int_of rfl, .eq_of rfl (encP_free _), .eq_of rfl (encA_free _ _), trivial⟩ byArgs_cold (one_none rfl) (byV_fresh _ _ _ _) ?_
          rw [byV, if_neg (by simp [byE_of hbe hco]), ho1, ho2]
          (conv => whnf)
          refine callV_lend [7] (check23_ok false ⟨p.rules.take (i + 1) ++ more, !p.els⟩) ⟨.aggL ⟨.fresh_off (LeV.freezeE (ys := rowsRu (p.rules.take (i + 1) ++ more)) (by simp) rfl (by simp; try omega) (by rw [hrows, List.drop_zero]; exact List.take_of_length_le (by simp; try omega)) (rowsRu_free _)), .fr rfl, trivial⟩, trivial⟩ (by intro v hv; simp at hv; subst hv; exact encPo_cold _) (one_none rfl) .int ?_
          rw [hco]
          (conv => whnf)
          refine callV_pure (num23_ok 0) ⟨.int_of rfl, trivial⟩ ?_
          (conv => whnf)
          refine callV_pure (num23_ok 0) ⟨.int_of rfl, trivial⟩ ?_
          (conv => whnf)
          split
          case h_1 h => exact absurd h (by simp)
          (conv => whnf)
          refine callV_pure (ref_same_ok true true _ _) ⟨.free (encA_free _ _), .free (encA_free _ _), trivial⟩ ?_
          rw [sameA_refl]
        case' neg =>
          (conv => whnf)
          refine callV_lend [7] (by_ok false false ⟨p.rules.take (i + 1) ++ more, !p.els⟩ own to a) ⟨.aggL ⟨.fresh_off (LeV.freezeE (ys := rowsRu (p.rules.take (i + 1) ++ more)) (by simp) rfl (by simp; try omega) (by rw [hrows, List.drop_zero]; exact List.take_of_length_le (by simp; try omega)) (rowsRu_free _)), .fr rfl, trivial⟩, .int_of rfl, .eq_of rfl (encP_free _), .eq_of rfl (encA_free _ _), trivial⟩ byArgs_cold (one_none rfl) (byV_fresh _ _ _ _) ?_
          obtain ⟨oA, oB, oE, hov⟩ : ∃ (x : Attrs) (y : Bool) (z : Int), byV true ⟨p.rules.take (i + 1) ++ more, !p.els⟩ own to a = .tup [encA true x, .bool y, .int .i64 z] := by
            unfold byV
            split
            · exact ⟨_, _, _, rfl⟩
            · exact ⟨_, _, _, rfl⟩
          rw [hov]
          (conv => whnf)
          refine callV_lend [7] (check23_ok false ⟨p.rules.take (i + 1) ++ more, !p.els⟩) ⟨.aggL ⟨.fresh_off (LeV.freezeE (ys := rowsRu (p.rules.take (i + 1) ++ more)) (by simp) rfl (by simp; try omega) (by rw [hrows, List.drop_zero]; exact List.take_of_length_le (by simp; try omega)) (rowsRu_free _)), .fr rfl, trivial⟩, trivial⟩ (by intro v hv; simp at hv; subst hv; exact encPo_cold _) (one_none rfl) .int ?_
          (conv => whnf)
          refine callV_pure (num23_ok _) ⟨.int_of rfl, trivial⟩ ?_
          (conv => whnf)
          split
          case h_1 h => exact absurd h (by simpa using hco)
      all_goals
        cases hok : byOk p own to a with
        | false =>
          rw [by_not hok]
          (conv => whnf)
          refine callV_pure (ref_same_ok true true noA noA) ⟨.free (encA_free _ _), .aggL (by repeat' (first | exact True.intro | exact .ptr rfl (by omega) | exact .osl_of rfl (by omega) rfl | exact .fr rfl | exact LeL.fr rfl | exact .yld rfl (by omega) | exact .eptr rfl (by omega) | exact .osl0 | exact .snil_sl | exact .to_any | exact LeV.nineA | exact LeV.noA | refine ⟨?_, ?_⟩)), trivial⟩ ?_
          rw [sameA_refl]
          (conv => whnf)
          refine callV_pure works23_ok trivial ?_
          (conv => whnf)
          exact fin
        | true =>
          obtain ⟨hR, hH⟩ := by_fine hbe hok
          generalize byA p own to a = g at *
          (conv => whnf)
          refine callV_pure (right_ok true g) ⟨.free (encA_free _ _), trivial⟩ ?_
          rw [hR]
          (conv => whnf)
          refine vcg_loop tab_ok mixed (fun m : {m : Nat // m ≤ g.path.length} => ⟨[(1, cW own), (6, .ptr 0 0), (9, .ptr 2 0), (17, .ptr 4 0), (25, cI m.1)], [(0, some (.var true 29 (cellsPo false p))), (2, some (.var true 33 (cellsA false a))), (4, some (.var true 33 (cellsA true g)))], 5⟩) (fun m => g.path.length - m.1) ⟨0, by omega⟩ (Wk.i (by repeat' (first | exact True.intro | exact id | exact rfl | decide | exact Nat.le_of_ble_eq_true rfl | exact .ptr rfl (by omega) | exact .osl_of rfl (by omega) rfl | exact .fr rfl | exact LeL.fr rfl | exact .yld rfl (by omega) | exact .eptr rfl (by omega) | exact .osl0 | exact .snil_sl | exact .to_any | exact LeV.nineA | exact LeV.noA | exact LeB.fr rfl id id | exact LeB.fr (by simp; done) id id | refine Or.inl ⟨by simp, _, rfl, ?_⟩ | exact Or.inr ⟨by simp, _, _, _, _, rfl⟩ | refine ⟨rfl, rfl, rfl, rfl, rfl, rfl, ?_⟩ | refine ⟨?_, ?_⟩)) (by omega)) (fun m => ?_)
          obtain ⟨m, hm⟩ := m
          (conv => whnf)
          intro hgl
          have hgl : g.path.length ≤ maxLen := by simpa [gd] using hgl
          (conv => whnf)
          split
          · rename_i hmc
            have hmc : m < g.path.length := by simpa using hmc
            (conv => whnf)
            refine vcg_loop tab_ok mixed (fun k : {k : Nat // k ≤ g.path[m].ns.length} => ⟨[(1, cW own), (6, .ptr 0 0), (9, .ptr 2 0), (17, .ptr 4 0), (25, cI m), (26, cI k.1)], [(0, some (.var true 29 (cellsPo false p))), (2, some (.var true 33 (cellsA false a))), (4, some (.var true 33 (cellsA true g)))], 5⟩) (fun k => g.path[m].ns.length - k.1) ⟨0, by omega⟩ (Wk.i (by repeat' (first | exact True.intro | exact id | exact rfl | decide | exact Nat.le_of_ble_eq_true rfl | exact .ptr rfl (by omega) | exact .osl_of rfl (by omega) rfl | exact .fr rfl | exact LeL.fr rfl | exact .yld rfl (by omega) | exact .eptr rfl (by omega) | exact .osl0 | exact .snil_sl | exact .to_any | exact LeV.nineA | exact LeV.noA | exact LeB.fr rfl id id | exact LeB.fr (by simp; done) id id | refine Or.inl ⟨by simp, _, rfl, ?_⟩ | exact Or.inr ⟨by simp, _, _, _, _, rfl⟩ | refine ⟨rfl, rfl, rfl, rfl, rfl, rfl, ?_⟩ | refine ⟨?_, ?_⟩)) (by omega)) (fun k => ?_)
            obtain ⟨k, hk⟩ := k
            (conv => whnf)
            refine ⟨rfl, _, ⟨by first | omega | (simp only; omega), idxL hmc⟩, ?_⟩
            (conv => whnf)
            intro hnl
            have hnl : g.path[m].ns.length ≤ maxLen := by simpa [gd] using hnl
            (conv => whnf)
            split
            · rename_i hck
              have hck : k < g.path[m].ns.length := by simpa using hck
              (conv => whnf)
              refine ⟨rfl, _, ⟨by first | omega | (simp only; omega), idxL hmc⟩, ?_⟩
              (conv => whnf)
              refine ⟨rfl, _, ⟨by first | omega | (simp only; omega), idxW hck⟩, ?_⟩
              (conv => whnf)
              split
              · rename_i hne
                have hy : hasA a.path (g.path[m].ns[k]) = true := by
                  rcases hH _ (List.getElem_mem hmc) _ (List.getElem_mem hck) with e | e
                  · rw [e] at hne; simp at hne
                  · exact e
                have hcall := ref_has_ok false a (g.path[m].ns[k]) (by omega) hns
                rw [hy] at hcall
                (conv => whnf)
                refine ⟨rfl, _, ⟨by first | omega | (simp only; omega), idxL hmc⟩, ?_⟩
                (conv => whnf)
                refine ⟨rfl, _, ⟨by first | omega | (simp only; omega), idxW hck⟩, ?_⟩
                (conv => whnf)
                refine ⟨_, [], fun h nx _ => pureV_pure hcall ⟨.free (encA_free _ _), .int_of rfl, trivial⟩, by simp, ?_⟩
                (conv => whnf)
                refine ⟨by kernel_rfl, ?_⟩
                (conv => whnf)
                exact ⟨⟨k + 1, by omega⟩, (Wk.i (by repeat' (first | exact True.intro | exact id | exact rfl | decide | exact Nat.le_of_ble_eq_true rfl | exact .int_of (wrap64_succ hck hnl) | exact .ptr rfl (by omega) | exact .osl_of rfl (by omega) rfl | exact .fr rfl | exact LeL.fr rfl | exact .yld rfl (by omega) | exact .eptr rfl (by omega) | exact .osl0 | exact .snil_sl | exact .to_any | exact LeV.nineA | exact LeV.noA | exact LeB.fr rfl id id | exact LeB.fr (by simp; done) id id | refine Or.inl ⟨by simp, _, rfl, ?_⟩ | exact Or.inr ⟨by simp, _, _, _, _, rfl⟩ | refine ⟨rfl, rfl, rfl, rfl, rfl, rfl, ?_⟩ | refine ⟨?_, ?_⟩)) (by omega)), by simp only; omega⟩
              · rename_i hne
                (conv => whnf)
                refine ⟨by kernel_rfl, ?_⟩
                (conv => whnf)
                exact ⟨⟨k + 1, by omega⟩, (Wk.i (by repeat' (first | exact True.intro | exact id | exact rfl | decide | exact Nat.le_of_ble_eq_true rfl | exact .int_of (wrap64_succ hck hnl) | exact .ptr rfl (by omega) | exact .osl_of rfl (by omega) rfl | exact .fr rfl | exact LeL.fr rfl | exact .yld rfl (by omega) | exact .eptr rfl (by omega) | exact .osl0 | exact .snil_sl | exact .to_any | exact LeV.nineA | exact LeV.noA | exact LeB.fr rfl id id | exact LeB.fr (by simp; done) id id | refine Or.inl ⟨by simp, _, rfl, ?_⟩ | exact Or.inr ⟨by simp, _, _, _, _, rfl⟩ | refine ⟨rfl, rfl, rfl, rfl, rfl, rfl, ?_⟩ | refine ⟨?_, ?_⟩)) (by omega)), by simp only; omega⟩
            · rename_i hck
              have hck : k = g.path[m].ns.length := by simp at hck; omega
              (conv => whnf)
              exact ⟨⟨m + 1, by omega⟩, (Wk.i (by repeat' (first | exact True.intro | exact id | exact rfl | decide | exact Nat.le_of_ble_eq_true rfl | exact .int_of (wrap64_succ hmc hgl) | exact .ptr rfl (by omega) | exact .osl_of rfl (by omega) rfl | exact .fr rfl | exact LeL.fr rfl | exact .yld rfl (by omega) | exact .eptr rfl (by omega) | exact .osl0 | exact .snil_sl | exact .to_any | exact LeV.nineA | exact LeV.noA | exact LeB.fr rfl id id | exact LeB.fr (by simp; done) id id | refine Or.inl ⟨by simp, _, rfl, ?_⟩ | exact Or.inr ⟨by simp, _, _, _, _, rfl⟩ | refine ⟨rfl, rfl, rfl, rfl, rfl, rfl, ?_⟩ | refine ⟨?_, ?_⟩)) (by omega)), by simp only; omega⟩
          · rename_i hmc
            (conv => whnf)
            refine callV_pure (raw23_ok false p (by omega)) ⟨.free (encPo_free _ _), trivial⟩ ?_
            have hck := (byE_zero hbe).1
            have hlen := rawPo_len p
            rw [show rawB23 p = rawPo p from if_pos hck, hck]
            (conv => whnf)
            refine callV_pure (parseT_ok true (rawPo p) (by omega)) ⟨.free (encB_free _ _), trivial⟩ ?_
            rw [(raw_pol hck).1, (raw_pol hck).2]
            (conv => whnf)
            refine callV_pure (num23_ok 0) ⟨.int_of rfl, trivial⟩ ?_
            (conv => whnf)
            refine callV_pure (num23_ok 0) ⟨.int_of rfl, trivial⟩ ?_
            (conv => whnf)
            refine callV_pure (psame_ok true false p p) ⟨.free (encPo_free _ _), .free (encPo_free _ _), trivial⟩ ?_
            rw [sameP_refl]
            (conv => whnf)
            refine callV_pure works23_ok trivial ?_
            (conv => whnf)
            exact fin
end Go.Proofs.YtjpfofmkgdjelaaGreat
