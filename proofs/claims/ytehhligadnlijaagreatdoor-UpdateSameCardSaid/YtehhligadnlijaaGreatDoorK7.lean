/- Joined: B25, B26, B27, B28, B29, RL, B30. -/
import Derived.Test.YtehhligadnlijaaGreatDoorK6
import Derived.Test.YtehhligadnlijaaGreatDoorK4
import Derived.Test.YtehhligadnlijaaGreatDoorK3
import Derived.Test.YtehhligadnlijaaGreatDoorK5
import Derived.Test.YtehhligadnlijaaGreatDoorCards
import Derived.Test.YtehhligadnlijaaGreatDoorTie
import Derived.ProofKit
import Derived.LaidMore
import Derived.OpenShut
import Derived.Lay
import Derived.SevenTiedAt
import Derived.Stop.Joined
import Derived.MakeChecks
import Derived.Shelf.Vars
set_option linter.unusedVariables false
set_option linter.unusedSimpArgs false
namespace Go.Proofs.YtehhligadnlijaaGreatDoor
open Go.RowKit
open Go.Proofs.Tryz (prog)
attribute [local irreducible] CallV RoundV aggK
instance {fr l} : FreeI (encS fr l) := ⟨⟨encS_free fr l⟩⟩
instance {l} : FreeRI (rowsS l) := ⟨⟨rowsS_free l⟩⟩
theorem cut_len (s sep : List UInt8) : (Lib.cut s sep).1.length ≤ s.length ∧ (Lib.cut s sep).2.1.length ≤ s.length := by
  unfold Lib.cut
  split
  · simp only [List.length_take, List.length_drop]; omega
  · simp
theorem fromL_size (l : List UInt8) : (fromL l).size = l.length := by simp [fromL, ByteArray.size]
theorem split_size (sep : ByteArray) : ∀ (k : Nat) (s : ByteArray), ∀ x ∈ Lib.splitB sep 0 k s, x.size ≤ s.size
  | 0, s, x, hx => by
    rw [Lib.splitB] at hx
    obtain rfl := List.mem_singleton.1 hx
    exact Nat.le_refl _
  | k + 1, s, x, hx => by
    rw [Lib.splitB] at hx
    split at hx
    · obtain rfl := List.mem_singleton.1 hx
      exact Nat.le_refl _
    · rcases List.mem_cons.1 hx with rfl | hx
      · rw [ByteArray.size_extract]; omega
      · have := split_size sep k _ x hx
        rw [ByteArray.size_extract] at this
        omega
def encO (r : Prefix × Int) : V := .tup [encP r.1, .int .i64 r.2]
theorem pu_some {s : ByteArray} {u : Nat} (h : Lib.parseUintB 8 s.data.toList = .ok u) : puN s.data.toList = some (UInt8.ofNat u) ∧ ((UInt8.ofNat u).toNat : Int) = u := by
  have := parse8_lt h
  refine ⟨by rw [puN, h], ?_⟩
  simp
  omega
theorem ofU_none1 {s : ByteArray} (h : addrU (piecesU s) = none) : ofP s = (⟨0, 0⟩, 305) := by
  rw [← ofU_eq, ofU, h]
theorem ofU_none2 {s : ByteArray} (h : puN (Lib.cut s.data.toList [47]).2.1 = none) : ofP s = (⟨0, 0⟩, 305) := by
  rw [← ofU_eq, ofU, h]
  split
  · rename_i e; cases e
  · rfl
theorem ofU_some {s : ByteArray} {a : UInt32} {u : UInt8} (h : addrU (piecesU s) = some a) (h2 : puN (Lib.cut s.data.toList [47]).2.1 = some u) : ofP s = if isText ⟨a, u⟩ s then (⟨a, u⟩, 0) else (⟨0, 0⟩, 305) := by
  rw [← ofU_eq, ofU, h, h2]
structure Od (l : List ByteArray) where
  i : Nat
  a : UInt32
  le : i ≤ l.length
  law : addrU (l.take i) = some a
set_option maxRecDepth 100000 in
set_option maxHeartbeats 8000000 in
theorem uof_ok (s : ByteArray) (hs : s.size ≤ 1000) : PCon prog 19 [.str s] (encO (ofP s)) := by
  have hl : s.data.toList.length ≤ 1000 := by rw [Array.length_toList]; exact hs
  obtain ⟨k1, k2⟩ := cut_len s.data.toList [47]
  have hz1 := fromL_size (Lib.cut s.data.toList [47]).1
  have hz2 := fromL_size (Lib.cut s.data.toList [47]).2.1
  have hcnt := Lib.countB_le ⟨#[46]⟩ (by decide) _ (fromL (Lib.cut s.data.toList [47]).1) (Nat.le_refl _)
  have hall := Lib.splitB_all ⟨#[46]⟩ (by decide) 0 _ (fromL (Lib.cut s.data.toList [47]).1) rfl
  have csplit := split_ok (fromL (Lib.cut s.data.toList [47]).1) ⟨#[46]⟩ (by omega) (by decide) hall (by unfold maxLen; omega)
  have hpl : (piecesU s).length ≤ 2000 := by show (splitS _ _).length ≤ _; rw [splitS, hall]; omega
  have hps : ∀ x ∈ piecesU s, x.size ≤ 281474976710656 := fun x hx => by
    have := split_size ⟨#[46]⟩ _ (fromL (Lib.cut s.data.toList [47]).1) x hx
    omega
  refine callV_of (fn := Go.Proofs.Tryz.f19) (body := _) tab_ok mixed rfl rfl (by decide) (by simp [Go.Proofs.Tryz.f19]) ?_
  (conv => whnf)
  refine callV_pure (cut_ok s ⟨#[47]⟩ (by omega)) ⟨.fr rfl, .fr rfl, trivial⟩ ?_
  (conv => whnf)
  refine callV_pure csplit ⟨.fr rfl, .fr rfl, trivial⟩ ?_
  (conv => whnf)
  intro _
  (conv => whnf)
  refine vcg_loop tab_ok mixed (fun k : Od (piecesU s) => ⟨[(0, .str s), (2, .ptr 0 0), (5, .str (fromL (Lib.cut s.data.toList [47]).2.1)), (7, .ptr 1 0), (21, encS true (piecesU s)), (22, cI (piecesU s).length), (23, cI k.i)], [(0, some (.var true 24 [.int .u32 0, .int .u8 0])), (1, some (.var true 24 [cW k.a, .int .u8 0]))], 2⟩) (fun k => (piecesU s).length - k.i) ⟨0, 0, by omega, rfl⟩ (Wk.i (by repeat' (first | exact True.intro | exact id | exact rfl | decide | exact Nat.le_of_ble_eq_true rfl | exact .int_of rfl | exact .int_of (by simp [piecesU]) | exact .ptr rfl (by omega) | exact .osl_of rfl (by omega) rfl | exact .fr rfl | exact LeL.fr rfl | exact .yld rfl (by omega) | exact .eptr rfl (by omega) | exact .osl0 | exact .snil_sl | exact .to_any | exact LeB.fr rfl id id | exact LeB.fr (by simp; done) id id | refine Or.inl ⟨by simp, _, rfl, ?_⟩ | exact Or.inr ⟨by simp, _, _, _, _, rfl⟩ | refine ⟨rfl, rfl, rfl, rfl, rfl, rfl, ?_⟩ | refine ⟨?_, ?_⟩)) (by omega)) (fun k => ?_)
  obtain ⟨i, a, hi, hlaw⟩ := k
  (conv => whnf)
  split
  · rename_i hc
    have hc : i < (piecesU s).length := by have := of_decide_eq_true hc; simp only at this; omega
    have hpi := parseU_ok (piecesU s)[i] (hps _ (List.getElem_mem hc))
    (conv => whnf)
    refine ⟨rfl, _, ⟨by first | omega | (simp only; omega), idxS hc⟩, ?_⟩
    (conv => whnf)
    cases hp : Lib.parseUintB 8 (piecesU s)[i].data.toList with
    | ok u =>
      rw [puV, hp] at hpi
      obtain ⟨q1, q2⟩ := pu_some hp
      simp only [← q2] at hpi
      refine callV_pure hpi ⟨.fr rfl, .fr rfl, .fr rfl, trivial⟩ ?_
      (conv => whnf)
      refine ⟨by decide, ?_⟩
      (conv => whnf)
      exact ⟨⟨i + 1, _, by omega, addrU_succ hc hlaw q1⟩, (Wk.i (by repeat' (first | exact True.intro | exact id | exact rfl | decide | exact Nat.le_of_ble_eq_true rfl | exact .int_of (shl_or _ _) | exact .int_of (wrap64_succ hc (by unfold maxLen; omega)) | exact .ptr rfl (by omega) | exact .osl_of rfl (by omega) rfl | exact .fr rfl | exact LeL.fr rfl | exact .yld rfl (by omega) | exact .eptr rfl (by omega) | exact .osl0 | exact .snil_sl | exact .to_any | exact LeB.fr rfl id id | exact LeB.fr (by simp; done) id id | refine Or.inl ⟨by simp, _, rfl, ?_⟩ | exact Or.inr ⟨by simp, _, _, _, _, rfl⟩ | refine ⟨rfl, rfl, rfl, rfl, rfl, rfl, ?_⟩ | refine ⟨?_, ?_⟩)) (by omega)), by simp only; omega⟩
    | range =>
      rw [puV, hp] at hpi
      have hno : ofP s = (⟨0, 0⟩, 305) := ofU_none1 (addrU_fail hc hlaw (by rw [puN, hp]))
      refine callV_pure hpi ⟨.fr rfl, .fr rfl, .fr rfl, trivial⟩ ?_
      (conv => whnf)
      rw [hno]
      exact (Ends.pure [] (by first | exact .tupL ⟨.fr rfl, .fr rfl, trivial⟩ | exact .ptr rfl (by omega) | exact .osl_of rfl (by omega) rfl | exact .fr rfl | exact LeL.fr rfl | exact .yld rfl (by omega) | exact .eptr rfl (by omega) | exact .osl0 | exact .snil_sl | exact .to_any | (refine .tupL ?_; repeat' (first | exact True.intro | exact .tupL ⟨.fr rfl, .fr rfl, trivial⟩ | exact .ptr rfl (by omega) | exact .osl_of rfl (by omega) rfl | exact .fr rfl | exact LeL.fr rfl | exact .yld rfl (by omega) | exact .eptr rfl (by omega) | exact .osl0 | exact .snil_sl | exact .to_any | refine .aggL ?_ | refine ⟨?_, ?_⟩)) | (refine .aggL ?_; repeat' (first | exact True.intro | exact .tupL ⟨.fr rfl, .fr rfl, trivial⟩ | exact .ptr rfl (by omega) | exact .osl_of rfl (by omega) rfl | exact .fr rfl | exact LeL.fr rfl | exact .yld rfl (by omega) | exact .eptr rfl (by omega) | exact .osl0 | exact .snil_sl | exact .to_any | refine ⟨?_, ?_⟩))) (by simp))
    | _ =>
      rw [puV, hp] at hpi
      have hno : ofP s = (⟨0, 0⟩, 305) := ofU_none1 (addrU_fail hc hlaw (by rw [puN, hp]))
      refine callV_pure hpi ⟨.fr rfl, .fr rfl, .fr rfl, trivial⟩ ?_
      (conv => whnf)
      rw [hno]
      exact (Ends.pure [] (by first | exact .tupL ⟨.fr rfl, .fr rfl, trivial⟩ | exact .ptr rfl (by omega) | exact .osl_of rfl (by omega) rfl | exact .fr rfl | exact LeL.fr rfl | exact .yld rfl (by omega) | exact .eptr rfl (by omega) | exact .osl0 | exact .snil_sl | exact .to_any | (refine .tupL ?_; repeat' (first | exact True.intro | exact .tupL ⟨.fr rfl, .fr rfl, trivial⟩ | exact .ptr rfl (by omega) | exact .osl_of rfl (by omega) rfl | exact .fr rfl | exact LeL.fr rfl | exact .yld rfl (by omega) | exact .eptr rfl (by omega) | exact .osl0 | exact .snil_sl | exact .to_any | refine .aggL ?_ | refine ⟨?_, ?_⟩)) | (refine .aggL ?_; repeat' (first | exact True.intro | exact .tupL ⟨.fr rfl, .fr rfl, trivial⟩ | exact .ptr rfl (by omega) | exact .osl_of rfl (by omega) rfl | exact .fr rfl | exact LeL.fr rfl | exact .yld rfl (by omega) | exact .eptr rfl (by omega) | exact .osl0 | exact .snil_sl | exact .to_any | refine ⟨?_, ?_⟩))) (by simp))
  rename_i hc
  have hc : i = (piecesU s).length := by have := of_decide_eq_false hc; simp only at this; omega
  subst hc
  rw [List.take_length] at hlaw
  have hpl2 := parseU_ok (fromL (Lib.cut s.data.toList [47]).2.1) (by omega)
  have e2 : (fromL (Lib.cut s.data.toList [47]).2.1).data.toList = (Lib.cut s.data.toList [47]).2.1 := by simp [fromL]
  rw [puV, e2] at hpl2
  (conv => whnf)
  cases hp : Lib.parseUintB 8 (Lib.cut s.data.toList [47]).2.1 with
  | range =>
    rw [hp] at hpl2
    have hno : ofP s = (⟨0, 0⟩, 305) := ofU_none2 (by rw [puN, hp])
    refine callV_pure hpl2 ⟨.fr rfl, .fr rfl, .fr rfl, trivial⟩ ?_
    (conv => whnf)
    rw [hno]
    exact (Ends.pure [] (by first | exact .tupL ⟨.fr rfl, .fr rfl, trivial⟩ | exact .ptr rfl (by omega) | exact .osl_of rfl (by omega) rfl | exact .fr rfl | exact LeL.fr rfl | exact .yld rfl (by omega) | exact .eptr rfl (by omega) | exact .osl0 | exact .snil_sl | exact .to_any | (refine .tupL ?_; repeat' (first | exact True.intro | exact .tupL ⟨.fr rfl, .fr rfl, trivial⟩ | exact .ptr rfl (by omega) | exact .osl_of rfl (by omega) rfl | exact .fr rfl | exact LeL.fr rfl | exact .yld rfl (by omega) | exact .eptr rfl (by omega) | exact .osl0 | exact .snil_sl | exact .to_any | refine .aggL ?_ | refine ⟨?_, ?_⟩)) | (refine .aggL ?_; repeat' (first | exact True.intro | exact .tupL ⟨.fr rfl, .fr rfl, trivial⟩ | exact .ptr rfl (by omega) | exact .osl_of rfl (by omega) rfl | exact .fr rfl | exact LeL.fr rfl | exact .yld rfl (by omega) | exact .eptr rfl (by omega) | exact .osl0 | exact .snil_sl | exact .to_any | refine ⟨?_, ?_⟩))) (by simp))
  | ok u =>
    rw [hp] at hpl2
    have h2 := parse8_lt hp
    have hu : puN (Lib.cut s.data.toList [47]).2.1 = some (UInt8.ofNat u) := by rw [puN, hp]
    have hq : ((UInt8.ofNat u).toNat : Int) = u := by simp; omega
    have hw : IntKind.u8.wrap (u : Int) = ((UInt8.ofNat u).toNat : Int) := by rw [wrap8, hq]; omega
    have hof := ofU_some hlaw hu
    refine callV_pure hpl2 ⟨.fr rfl, .fr rfl, .fr rfl, trivial⟩ ?_
    (conv => whnf)
    simp only [hw]
    refine callV_pure (uRight_ok ⟨a, UInt8.ofNat u⟩) ⟨.fr rfl, trivial⟩ ?_
    cases hr : prefOk ⟨a, UInt8.ofNat u⟩ with
    | false =>
      rw [if_neg (by simp [isText, hr])] at hof
      (conv => whnf)
      rw [hof]
      exact (Ends.pure [] (by first | exact .tupL ⟨.fr rfl, .fr rfl, trivial⟩ | exact .ptr rfl (by omega) | exact .osl_of rfl (by omega) rfl | exact .fr rfl | exact LeL.fr rfl | exact .yld rfl (by omega) | exact .eptr rfl (by omega) | exact .osl0 | exact .snil_sl | exact .to_any | (refine .tupL ?_; repeat' (first | exact True.intro | exact .tupL ⟨.fr rfl, .fr rfl, trivial⟩ | exact .ptr rfl (by omega) | exact .osl_of rfl (by omega) rfl | exact .fr rfl | exact LeL.fr rfl | exact .yld rfl (by omega) | exact .eptr rfl (by omega) | exact .osl0 | exact .snil_sl | exact .to_any | refine .aggL ?_ | refine ⟨?_, ?_⟩)) | (refine .aggL ?_; repeat' (first | exact True.intro | exact .tupL ⟨.fr rfl, .fr rfl, trivial⟩ | exact .ptr rfl (by omega) | exact .osl_of rfl (by omega) rfl | exact .fr rfl | exact LeL.fr rfl | exact .yld rfl (by omega) | exact .eptr rfl (by omega) | exact .osl0 | exact .snil_sl | exact .to_any | refine ⟨?_, ?_⟩))) (by simp))
    | true =>
    (conv => whnf)
    refine callV_pure (uText_ok ⟨a, UInt8.ofNat u⟩) ⟨.fr rfl, trivial⟩ ?_
    (conv => whnf)
    split
    · rename_i ht
      rw [if_neg (by simp only [isText, hr, Bool.true_and, decide_eq_true_eq]; intro e; rw [e] at ht; simp at ht)] at hof
      (conv => whnf)
      rw [hof]
      exact (Ends.pure [] (by first | exact .tupL ⟨.fr rfl, .fr rfl, trivial⟩ | exact .ptr rfl (by omega) | exact .osl_of rfl (by omega) rfl | exact .fr rfl | exact LeL.fr rfl | exact .yld rfl (by omega) | exact .eptr rfl (by omega) | exact .osl0 | exact .snil_sl | exact .to_any | (refine .tupL ?_; repeat' (first | exact True.intro | exact .tupL ⟨.fr rfl, .fr rfl, trivial⟩ | exact .ptr rfl (by omega) | exact .osl_of rfl (by omega) rfl | exact .fr rfl | exact LeL.fr rfl | exact .yld rfl (by omega) | exact .eptr rfl (by omega) | exact .osl0 | exact .snil_sl | exact .to_any | refine .aggL ?_ | refine ⟨?_, ?_⟩)) | (refine .aggL ?_; repeat' (first | exact True.intro | exact .tupL ⟨.fr rfl, .fr rfl, trivial⟩ | exact .ptr rfl (by omega) | exact .osl_of rfl (by omega) rfl | exact .fr rfl | exact LeL.fr rfl | exact .yld rfl (by omega) | exact .eptr rfl (by omega) | exact .osl0 | exact .snil_sl | exact .to_any | refine ⟨?_, ?_⟩))) (by simp))
    · rename_i ht
      rw [if_pos (by simp only [isText, hr, Bool.true_and, decide_eq_true_eq]; have h2 := ht; simp at h2; exact ba_eq (by simpa [bytesS] using h2))] at hof
      (conv => whnf)
      rw [hof]
      exact (Ends.pure [] (by first | exact .tupL ⟨.fr rfl, .fr rfl, trivial⟩ | exact .ptr rfl (by omega) | exact .osl_of rfl (by omega) rfl | exact .fr rfl | exact LeL.fr rfl | exact .yld rfl (by omega) | exact .eptr rfl (by omega) | exact .osl0 | exact .snil_sl | exact .to_any | (refine .tupL ?_; repeat' (first | exact True.intro | exact .tupL ⟨.fr rfl, .fr rfl, trivial⟩ | exact .ptr rfl (by omega) | exact .osl_of rfl (by omega) rfl | exact .fr rfl | exact LeL.fr rfl | exact .yld rfl (by omega) | exact .eptr rfl (by omega) | exact .osl0 | exact .snil_sl | exact .to_any | refine .aggL ?_ | refine ⟨?_, ?_⟩)) | (refine .aggL ?_; repeat' (first | exact True.intro | exact .tupL ⟨.fr rfl, .fr rfl, trivial⟩ | exact .ptr rfl (by omega) | exact .osl_of rfl (by omega) rfl | exact .fr rfl | exact LeL.fr rfl | exact .yld rfl (by omega) | exact .eptr rfl (by omega) | exact .osl0 | exact .snil_sl | exact .to_any | refine ⟨?_, ?_⟩))) (by simp))
  | _ =>
    rw [hp] at hpl2
    have hno : ofP s = (⟨0, 0⟩, 305) := ofU_none2 (by rw [puN, hp])
    refine callV_pure hpl2 ⟨.fr rfl, .fr rfl, .fr rfl, trivial⟩ ?_
    (conv => whnf)
    rw [hno]
    exact (Ends.pure [] (by first | exact .tupL ⟨.fr rfl, .fr rfl, trivial⟩ | exact .ptr rfl (by omega) | exact .osl_of rfl (by omega) rfl | exact .fr rfl | exact LeL.fr rfl | exact .yld rfl (by omega) | exact .eptr rfl (by omega) | exact .osl0 | exact .snil_sl | exact .to_any | (refine .tupL ?_; repeat' (first | exact True.intro | exact .tupL ⟨.fr rfl, .fr rfl, trivial⟩ | exact .ptr rfl (by omega) | exact .osl_of rfl (by omega) rfl | exact .fr rfl | exact LeL.fr rfl | exact .yld rfl (by omega) | exact .eptr rfl (by omega) | exact .osl0 | exact .snil_sl | exact .to_any | refine .aggL ?_ | refine ⟨?_, ?_⟩)) | (refine .aggL ?_; repeat' (first | exact True.intro | exact .tupL ⟨.fr rfl, .fr rfl, trivial⟩ | exact .ptr rfl (by omega) | exact .osl_of rfl (by omega) rfl | exact .fr rfl | exact LeL.fr rfl | exact .yld rfl (by omega) | exact .eptr rfl (by omega) | exact .osl0 | exact .snil_sl | exact .to_any | refine ⟨?_, ?_⟩))) (by simp))
end Go.Proofs.YtehhligadnlijaaGreatDoor
set_option linter.unusedVariables false
set_option linter.unusedSimpArgs false
namespace Go.Proofs.YtehhligadnlijaaGreatDoor
open Go.RowKit
open Go.Proofs.Tryz (prog)
attribute [local irreducible] CallV RoundV aggK
abbrev rowsU (l : List Nat) : List (List V) := l.map fun n : Nat => [V.int .u32 (n : Int)]
theorem rowsU_free (l : List Nat) : ∀ x ∈ rowsU l, ∀ v ∈ x, Free v := by
  intro x hx v hv
  obtain ⟨n, _, rfl⟩ := List.mem_map.1 hx
  simp at hv; subst hv; exact .int
instance {l} : FreeRI (rowsU l) := ⟨⟨rowsU_free l⟩⟩
theorem notText {s : ByteArray} {i : Nat} (h : i < s.data.toList.length) (hc : chOk s.data.toList[i] = false) : ∀ p, isText p s = false := fun p => by
  cases hp : isText p s with
  | false => rfl
  | true =>
    obtain ⟨_, rfl⟩ := isText_out hp
    have := List.all_eq_true.1 (text_chars p) (bytesS (textB p)).data.toList[i] (by simp [bytesS])
    rw [hc] at this; cases this
theorem text_nums {p : Prefix} {s : ByteArray} (h : isText p s = true) : (numsR (s.data.toList.take 40)).length = 5 ∧ ∀ n ∈ numsR (s.data.toList.take 40), n ≤ 255 := by
  obtain ⟨h1, rfl⟩ := isText_out h
  rw [show (bytesS (textB p)).data.toList = textB p by simp [bytesS], List.take_of_length_le (by have := text_len p; omega), nums_text h1]
  refine ⟨rfl, fun n hn => ?_⟩
  simp only [List.mem_cons, List.not_mem_nil, or_false] at hn
  rcases hn with rfl | rfl | rfl | rfl | rfl <;> exact Nat.le_of_lt_succ (UInt8.toNat_lt _)
theorem scan_succ {s : List UInt8} {i : Nat} (h : i < s.length) : scanR (s.take (i + 1)) = chS (scanR (s.take i)) s[i] := by
  rw [List.take_succ_eq_append_getElem h, scanR, List.foldl_append]; rfl
structure Sr (s : ByteArray) where
  i : Nat
  l : List Nat
  n : Nat
  le : i ≤ s.data.toList.length
  le4 : i ≤ 40
  law : scanR (s.data.toList.take i) = (l, n)
  hn : n ≤ 1000
  hl : l.length ≤ i
  hb : ∀ x ∈ l, x ≤ 1000
theorem atS_is {s : ByteArray} {i : Nat} (h : i < s.data.toList.length) : atS s ((i : Int)).toNat = (s.data.toList[i].toNat : Int) := by
  simp only [atS, Int.toNat_natCast, List.getElem?_eq_getElem h, Option.getD_some]
theorem dig_int {n : Nat} {c : UInt8} (hn : n ≤ 1000) (h1 : 48 ≤ c.toNat) (h2 : c.toNat ≤ 57) : (if 1000 < IntKind.u32.wrap (IntKind.u32.wrap (10 * (n : Int)) + IntKind.u32.wrap (IntKind.u8.wrap ((c.toNat : Int) - 48))) then 1000 else IntKind.u32.wrap (IntKind.u32.wrap (10 * (n : Int)) + IntKind.u32.wrap (IntKind.u8.wrap ((c.toNat : Int) - 48)))) = ((digS n c : Nat) : Int) := by
  have e : IntKind.u32.wrap (IntKind.u32.wrap (10 * (n : Int)) + IntKind.u32.wrap (IntKind.u8.wrap ((c.toNat : Int) - 48))) = 10 * (n : Int) + ((c.toNat : Int) - 48) := by
    rw [wrap8, wrap32, wrap32, wrap32]
    omega
  rw [e, digS]
  split <;> omega
theorem no_len {s : ByteArray} {m : List Nat} (h : numsR (s.data.toList.take 40) = m) (h5 : m.length ≠ 5) : ofP s = (⟨0, 0⟩, 305) := ofP_no fun p => by
  cases hp : isText p s with
  | false => rfl
  | true => have := (text_nums hp).1; rw [h] at this; exact absurd this h5
theorem no_big {s : ByteArray} {a b c d n : Nat} (h : numsR (s.data.toList.take 40) = [a, b, c, d, n]) (h5 : ¬ (a ≤ 255 ∧ b ≤ 255 ∧ c ≤ 255 ∧ d ≤ 255 ∧ n ≤ 255)) : ofP s = (⟨0, 0⟩, 305) := ofP_no fun p => by
  cases hp : isText p s with
  | false => rfl
  | true =>
    have := (text_nums hp).2
    rw [h] at this
    exact absurd ⟨this a (by simp), this b (by simp), this c (by simp), this d (by simp), this n (by simp)⟩ h5
theorem join_int {a b c d : Nat} (ha : a ≤ 255) (hb : b ≤ 255) (hc : c ≤ 255) (hd : d ≤ 255) : IntKind.u32.wrap (IntKind.u32.wrap (IntKind.u32.wrap (IntKind.u32.wrap ((a : Int) * 16777216) + IntKind.u32.wrap ((b : Int) * 65536)) + IntKind.u32.wrap ((c : Int) * 256)) + (d : Int)) = ((UInt32.ofNat (a * 16777216 + b * 65536 + c * 256 + d)).toNat : Int) := by
  simp only [wrap32, UInt32.toNat_ofNat']
  omega
theorem u8_wrap (n : Nat) : IntKind.u8.wrap (n : Int) = ((UInt8.ofNat n).toNat : Int) := by rw [wrap8]; simp
def Low (j : Nat) (a b c d n : Nat) : Prop := (0 < j → a ≤ 255) ∧ (1 < j → b ≤ 255) ∧ (2 < j → c ≤ 255) ∧ (3 < j → d ≤ 255) ∧ (4 < j → n ≤ 255)
set_option maxRecDepth 100000 in
set_option maxHeartbeats 8000000 in
theorem rof_ok (s : ByteArray) (hs : s.size ≤ 1000) : PCon prog 20 [.str s] (encO (ofP s)) := by
  have hsz : s.size = s.data.toList.length := by rw [Array.length_toList]; rfl
  refine callV_of (fn := Go.Proofs.Tryz.f20) (body := _) tab_ok mixed rfl rfl (by decide) (by simp [Go.Proofs.Tryz.f20]) ?_
  (conv => whnf)
  refine vcg_loop tab_ok mixed (fun k : Sr s => ⟨[(0, .str s), (2, .ptr 0 0), (4, .osl 1 1 0 k.l.length), (5, .int .u32 (k.n : Int)), (6, cI k.i)], [(0, some (.var true 24 [.int .u32 0, .int .u8 0])), (1, some (.arr true false 22 1 (rowsU k.l)))], 2⟩) (fun k => 40 - k.i) ⟨0, [], 0, by omega, by omega, rfl, by omega, by simp, by simp⟩ (Wk.i (by repeat' (first | exact True.intro | exact id | exact rfl | decide | exact Nat.le_of_ble_eq_true rfl | exact .int_of rfl | exact .ptr rfl (by omega) | exact .osl_of rfl (by omega) rfl | exact .fr rfl | exact LeL.fr rfl | exact .yld rfl (by omega) | exact .eptr rfl (by omega) | exact .osl0 | exact .snil_sl | exact .to_any | exact LeB.fr rfl id id | exact LeB.fr (by simp; done) id id | refine Or.inl ⟨by simp, _, rfl, ?_⟩ | exact Or.inr ⟨by simp, _, _, _, _, rfl⟩ | refine ⟨rfl, rfl, rfl, rfl, rfl, rfl, ?_⟩ | refine ⟨?_, ?_⟩)) (by omega)) (fun k => ?_)
  obtain ⟨i, l, n, hi, hi4, hlaw, hn, hl, hb⟩ := k
  (conv => whnf)
  split
  · rename_i hc
    have hc : i < s.data.toList.length := by have := of_decide_eq_true hc; simp only at this; omega
    (conv => whnf)
    split
    · rename_i hc4
      have hc4 : i < 40 := by have := of_decide_eq_true hc4; simp only at this; omega
      (conv => whnf)
      have hat := atS_is hc
      generalize hcc : s.data.toList[i] = c at hat
      have hsc : scanR (s.data.toList.take (i + 1)) = chS (l, n) c := by rw [scan_succ hc, hlaw, hcc]
      have hcl := c.toNat_lt
      refine ⟨⟨Int.natCast_nonneg _, by first | omega | (simp only; omega)⟩, ?_⟩
      (conv => whnf)
      simp only [hat]
      split
      rotate_left
      · rename_i hlo
        have hlo : ¬ 48 ≤ c.toNat := by have := of_decide_eq_false hlo; omega
        have hnd : ¬ (48 ≤ c.toNat ∧ c.toNat ≤ 57) := by omega
        (conv => whnf)
        refine ⟨⟨Int.natCast_nonneg _, by first | omega | (simp only; omega)⟩, ?_⟩
        (conv => whnf)
        simp only [hat]
        split
        · rename_i he
          have hsc' : chS (l, n) c = (l ++ [n], 0) := by rw [chS, if_neg hnd]
          (conv => whnf)
          refine ⟨rfl, by simp, ⟨rfl, rfl, rfl, rfl, by decide⟩, by simp [rowsU], ⟨by simp [tab, tabOf, nth]; omega, by simp; omega⟩, ?_⟩
          (conv => whnf)
          exact ⟨⟨i + 1, l ++ [n], 0, by omega, by omega, by rw [hsc, hsc'], by omega, by simp; omega, by intro x hx; rcases List.mem_append.1 hx with h | h; exact hb x h; obtain rfl := List.mem_singleton.1 h; exact hn⟩, (Wk.all (renOf [(1, 3)]) [] (by repeat' (first | exact True.intro | exact id | exact rfl | decide | exact Nat.le_of_ble_eq_true rfl | exact .int_of (wrap64_succ hc4 (by unfold maxLen; omega)) | exact .int_of rfl | exact .osl_of rfl (by omega) (by simp) | exact LeB.fr (by simp [rowsU, List.take_of_length_le]) id id | exact .ptr rfl (by omega) | exact .osl_of rfl (by omega) rfl | exact .fr rfl | exact LeL.fr rfl | exact .yld rfl (by omega) | exact .eptr rfl (by omega) | exact .osl0 | exact .snil_sl | exact .to_any | exact LeB.fr rfl id id | exact LeB.fr (by simp; done) id id | refine Or.inl ⟨by simp, _, rfl, ?_⟩ | exact Or.inr ⟨by simp, _, _, _, _, rfl⟩ | refine ⟨rfl, rfl, rfl, rfl, rfl, rfl, ?_⟩ | refine ⟨?_, ?_⟩)) (show ∀ b ∈ ([0,1] : List Nat), ∀ b' ∈ ([0,1] : List Nat), (renOf [(1, 3)]) b = (renOf [(1, 3)]) b' → b = b' by decide) (fun _ h => by omega) (by omega) (by simp)), by simp only; omega⟩
        rename_i he
        have hne : c ≠ 46 := by rintro rfl; exact absurd he (by decide)
        (conv => whnf)
        refine ⟨⟨Int.natCast_nonneg _, by first | omega | (simp only; omega)⟩, ?_⟩
        (conv => whnf)
        simp only [hat]
        split
        · rename_i he2
          have hsc' : chS (l, n) c = (l ++ [n], 0) := by rw [chS, if_neg hnd]
          (conv => whnf)
          refine ⟨rfl, by simp, ⟨rfl, rfl, rfl, rfl, by decide⟩, by simp [rowsU], ⟨by simp [tab, tabOf, nth]; omega, by simp; omega⟩, ?_⟩
          (conv => whnf)
          exact ⟨⟨i + 1, l ++ [n], 0, by omega, by omega, by rw [hsc, hsc'], by omega, by simp; omega, by intro x hx; rcases List.mem_append.1 hx with h | h; exact hb x h; obtain rfl := List.mem_singleton.1 h; exact hn⟩, (Wk.all (renOf [(1, 3)]) [] (by repeat' (first | exact True.intro | exact id | exact rfl | decide | exact Nat.le_of_ble_eq_true rfl | exact .int_of (wrap64_succ hc4 (by unfold maxLen; omega)) | exact .int_of rfl | exact .osl_of rfl (by omega) (by simp) | exact LeB.fr (by simp [rowsU, List.take_of_length_le]) id id | exact .ptr rfl (by omega) | exact .osl_of rfl (by omega) rfl | exact .fr rfl | exact LeL.fr rfl | exact .yld rfl (by omega) | exact .eptr rfl (by omega) | exact .osl0 | exact .snil_sl | exact .to_any | exact LeB.fr rfl id id | exact LeB.fr (by simp; done) id id | refine Or.inl ⟨by simp, _, rfl, ?_⟩ | exact Or.inr ⟨by simp, _, _, _, _, rfl⟩ | refine ⟨rfl, rfl, rfl, rfl, rfl, rfl, ?_⟩ | refine ⟨?_, ?_⟩)) (show ∀ b ∈ ([0,1] : List Nat), ∀ b' ∈ ([0,1] : List Nat), (renOf [(1, 3)]) b = (renOf [(1, 3)]) b' → b = b' by decide) (fun _ h => by omega) (by omega) (by simp)), by simp only; omega⟩
        rename_i he2
        have hne2 : c ≠ 47 := by rintro rfl; exact absurd he2 (by decide)
        have hno : ofP s = (⟨0, 0⟩, 305) := ofP_no (notText hc (by rw [hcc]; simp only [chOk, Bool.or_eq_false_iff, decide_eq_false_iff_not]; exact ⟨⟨hnd, by simpa using hne⟩, by simpa using hne2⟩))
        (conv => whnf)
        rw [hno]
        exact (Ends.pure [] (by first | exact .tupL ⟨.fr rfl, .fr rfl, trivial⟩ | exact .ptr rfl (by omega) | exact .osl_of rfl (by omega) rfl | exact .fr rfl | exact LeL.fr rfl | exact .yld rfl (by omega) | exact .eptr rfl (by omega) | exact .osl0 | exact .snil_sl | exact .to_any | (refine .tupL ?_; repeat' (first | exact True.intro | exact .tupL ⟨.fr rfl, .fr rfl, trivial⟩ | exact .ptr rfl (by omega) | exact .osl_of rfl (by omega) rfl | exact .fr rfl | exact LeL.fr rfl | exact .yld rfl (by omega) | exact .eptr rfl (by omega) | exact .osl0 | exact .snil_sl | exact .to_any | refine .aggL ?_ | refine ⟨?_, ?_⟩)) | (refine .aggL ?_; repeat' (first | exact True.intro | exact .tupL ⟨.fr rfl, .fr rfl, trivial⟩ | exact .ptr rfl (by omega) | exact .osl_of rfl (by omega) rfl | exact .fr rfl | exact LeL.fr rfl | exact .yld rfl (by omega) | exact .eptr rfl (by omega) | exact .osl0 | exact .snil_sl | exact .to_any | refine ⟨?_, ?_⟩))) (by simp))
      rename_i hlo
      have hlo : 48 ≤ c.toNat := by have := of_decide_eq_true hlo; omega
      (conv => whnf)
      refine ⟨⟨Int.natCast_nonneg _, by first | omega | (simp only; omega)⟩, ?_⟩
      (conv => whnf)
      simp only [hat]
      split
      rotate_left
      · rename_i hhi
        have hhi : ¬ c.toNat ≤ 57 := by have := of_decide_eq_false hhi; omega
        have hnd : ¬ (48 ≤ c.toNat ∧ c.toNat ≤ 57) := by omega
        (conv => whnf)
        refine ⟨⟨Int.natCast_nonneg _, by first | omega | (simp only; omega)⟩, ?_⟩
        (conv => whnf)
        simp only [hat]
        split
        · rename_i he
          have hsc' : chS (l, n) c = (l ++ [n], 0) := by rw [chS, if_neg hnd]
          (conv => whnf)
          refine ⟨rfl, by simp, ⟨rfl, rfl, rfl, rfl, by decide⟩, by simp [rowsU], ⟨by simp [tab, tabOf, nth]; omega, by simp; omega⟩, ?_⟩
          (conv => whnf)
          exact ⟨⟨i + 1, l ++ [n], 0, by omega, by omega, by rw [hsc, hsc'], by omega, by simp; omega, by intro x hx; rcases List.mem_append.1 hx with h | h; exact hb x h; obtain rfl := List.mem_singleton.1 h; exact hn⟩, (Wk.all (renOf [(1, 3)]) [] (by repeat' (first | exact True.intro | exact id | exact rfl | decide | exact Nat.le_of_ble_eq_true rfl | exact .int_of (wrap64_succ hc4 (by unfold maxLen; omega)) | exact .int_of rfl | exact .osl_of rfl (by omega) (by simp) | exact LeB.fr (by simp [rowsU, List.take_of_length_le]) id id | exact .ptr rfl (by omega) | exact .osl_of rfl (by omega) rfl | exact .fr rfl | exact LeL.fr rfl | exact .yld rfl (by omega) | exact .eptr rfl (by omega) | exact .osl0 | exact .snil_sl | exact .to_any | exact LeB.fr rfl id id | exact LeB.fr (by simp; done) id id | refine Or.inl ⟨by simp, _, rfl, ?_⟩ | exact Or.inr ⟨by simp, _, _, _, _, rfl⟩ | refine ⟨rfl, rfl, rfl, rfl, rfl, rfl, ?_⟩ | refine ⟨?_, ?_⟩)) (show ∀ b ∈ ([0,1] : List Nat), ∀ b' ∈ ([0,1] : List Nat), (renOf [(1, 3)]) b = (renOf [(1, 3)]) b' → b = b' by decide) (fun _ h => by omega) (by omega) (by simp)), by simp only; omega⟩
        rename_i he
        have hne : c ≠ 46 := by rintro rfl; exact absurd he (by decide)
        (conv => whnf)
        refine ⟨⟨Int.natCast_nonneg _, by first | omega | (simp only; omega)⟩, ?_⟩
        (conv => whnf)
        simp only [hat]
        split
        · rename_i he2
          have hsc' : chS (l, n) c = (l ++ [n], 0) := by rw [chS, if_neg hnd]
          (conv => whnf)
          refine ⟨rfl, by simp, ⟨rfl, rfl, rfl, rfl, by decide⟩, by simp [rowsU], ⟨by simp [tab, tabOf, nth]; omega, by simp; omega⟩, ?_⟩
          (conv => whnf)
          exact ⟨⟨i + 1, l ++ [n], 0, by omega, by omega, by rw [hsc, hsc'], by omega, by simp; omega, by intro x hx; rcases List.mem_append.1 hx with h | h; exact hb x h; obtain rfl := List.mem_singleton.1 h; exact hn⟩, (Wk.all (renOf [(1, 3)]) [] (by repeat' (first | exact True.intro | exact id | exact rfl | decide | exact Nat.le_of_ble_eq_true rfl | exact .int_of (wrap64_succ hc4 (by unfold maxLen; omega)) | exact .int_of rfl | exact .osl_of rfl (by omega) (by simp) | exact LeB.fr (by simp [rowsU, List.take_of_length_le]) id id | exact .ptr rfl (by omega) | exact .osl_of rfl (by omega) rfl | exact .fr rfl | exact LeL.fr rfl | exact .yld rfl (by omega) | exact .eptr rfl (by omega) | exact .osl0 | exact .snil_sl | exact .to_any | exact LeB.fr rfl id id | exact LeB.fr (by simp; done) id id | refine Or.inl ⟨by simp, _, rfl, ?_⟩ | exact Or.inr ⟨by simp, _, _, _, _, rfl⟩ | refine ⟨rfl, rfl, rfl, rfl, rfl, rfl, ?_⟩ | refine ⟨?_, ?_⟩)) (show ∀ b ∈ ([0,1] : List Nat), ∀ b' ∈ ([0,1] : List Nat), (renOf [(1, 3)]) b = (renOf [(1, 3)]) b' → b = b' by decide) (fun _ h => by omega) (by omega) (by simp)), by simp only; omega⟩
        rename_i he2
        have hne2 : c ≠ 47 := by rintro rfl; exact absurd he2 (by decide)
        have hno : ofP s = (⟨0, 0⟩, 305) := ofP_no (notText hc (by rw [hcc]; simp only [chOk, Bool.or_eq_false_iff, decide_eq_false_iff_not]; exact ⟨⟨hnd, by simpa using hne⟩, by simpa using hne2⟩))
        (conv => whnf)
        rw [hno]
        exact (Ends.pure [] (by first | exact .tupL ⟨.fr rfl, .fr rfl, trivial⟩ | exact .ptr rfl (by omega) | exact .osl_of rfl (by omega) rfl | exact .fr rfl | exact LeL.fr rfl | exact .yld rfl (by omega) | exact .eptr rfl (by omega) | exact .osl0 | exact .snil_sl | exact .to_any | (refine .tupL ?_; repeat' (first | exact True.intro | exact .tupL ⟨.fr rfl, .fr rfl, trivial⟩ | exact .ptr rfl (by omega) | exact .osl_of rfl (by omega) rfl | exact .fr rfl | exact LeL.fr rfl | exact .yld rfl (by omega) | exact .eptr rfl (by omega) | exact .osl0 | exact .snil_sl | exact .to_any | refine .aggL ?_ | refine ⟨?_, ?_⟩)) | (refine .aggL ?_; repeat' (first | exact True.intro | exact .tupL ⟨.fr rfl, .fr rfl, trivial⟩ | exact .ptr rfl (by omega) | exact .osl_of rfl (by omega) rfl | exact .fr rfl | exact LeL.fr rfl | exact .yld rfl (by omega) | exact .eptr rfl (by omega) | exact .osl0 | exact .snil_sl | exact .to_any | refine ⟨?_, ?_⟩))) (by simp))
      rename_i hhi
      have hhi : c.toNat ≤ 57 := by have := of_decide_eq_true hhi; omega
      (conv => whnf)
      refine ⟨⟨Int.natCast_nonneg _, by first | omega | (simp only; omega)⟩, ?_⟩
      (conv => whnf)
      simp only [hat]
      exact ⟨⟨i + 1, l, digS n c, by omega, by omega, by rw [hsc, chS, if_pos ⟨hlo, hhi⟩], by unfold digS; omega, by omega, hb⟩, (Wk.i (by repeat' (first | exact True.intro | exact id | exact rfl | decide | exact Nat.le_of_ble_eq_true rfl | exact .int_of (dig_int hn hlo hhi) | exact .int_of (wrap64_succ hc4 (by unfold maxLen; omega)) | exact .ptr rfl (by omega) | exact .osl_of rfl (by omega) rfl | exact .fr rfl | exact LeL.fr rfl | exact .yld rfl (by omega) | exact .eptr rfl (by omega) | exact .osl0 | exact .snil_sl | exact .to_any | exact LeB.fr rfl id id | exact LeB.fr (by simp; done) id id | refine Or.inl ⟨by simp, _, rfl, ?_⟩ | exact Or.inr ⟨by simp, _, _, _, _, rfl⟩ | refine ⟨rfl, rfl, rfl, rfl, rfl, rfl, ?_⟩ | refine ⟨?_, ?_⟩)) (by omega)), by simp only; omega⟩
    · rename_i hc4
      have hc4 : i = 40 := by have := of_decide_eq_false hc4; simp only at this; omega
      have hnr : numsR (s.data.toList.take 40) = l ++ [n] := by rw [numsR, ← hc4, hlaw]
      (conv => whnf)
      refine ⟨rfl, by simp, ⟨rfl, rfl, rfl, rfl, by decide⟩, by simp [rowsU], ⟨by simp [tab, tabOf, nth]; omega, by simp; omega⟩, ?_⟩
      (conv => whnf)
      refine fun (_ : gd none _) => ?_
      (conv => whnf)
      split
      · rename_i h5
        have hno := no_len hnr (by simp at h5 ⊢; omega)
        (conv => whnf)
        rw [hno]
        exact (Ends.pure [] (by first | exact .tupL ⟨.fr rfl, .fr rfl, trivial⟩ | exact .ptr rfl (by omega) | exact .osl_of rfl (by omega) rfl | exact .fr rfl | exact LeL.fr rfl | exact .yld rfl (by omega) | exact .eptr rfl (by omega) | exact .osl0 | exact .snil_sl | exact .to_any | (refine .tupL ?_; repeat' (first | exact True.intro | exact .tupL ⟨.fr rfl, .fr rfl, trivial⟩ | exact .ptr rfl (by omega) | exact .osl_of rfl (by omega) rfl | exact .fr rfl | exact LeL.fr rfl | exact .yld rfl (by omega) | exact .eptr rfl (by omega) | exact .osl0 | exact .snil_sl | exact .to_any | refine .aggL ?_ | refine ⟨?_, ?_⟩)) | (refine .aggL ?_; repeat' (first | exact True.intro | exact .tupL ⟨.fr rfl, .fr rfl, trivial⟩ | exact .ptr rfl (by omega) | exact .osl_of rfl (by omega) rfl | exact .fr rfl | exact LeL.fr rfl | exact .yld rfl (by omega) | exact .eptr rfl (by omega) | exact .osl0 | exact .snil_sl | exact .to_any | refine ⟨?_, ?_⟩))) (by simp))
      rename_i h5
      have h5 : l.length = 4 := by simp at h5; omega
      obtain ⟨a, b, c, d, rfl⟩ : ∃ a b c d, l = [a, b, c, d] := by
        match l, h5 with
        | [a, b, c, d], _ => exact ⟨a, b, c, d, rfl⟩
      (conv => whnf)
      refine vcg_loop tab_ok mixed (fun j : {j : Nat // j ≤ 5 ∧ Low j a b c d n} => ⟨[(0, .str s), (2, .ptr 0 0), (4, .osl 3 1 0 5), (7, cI j.1)], [(0, some (.var true 24 [.int .u32 0, .int .u8 0])), (3, some (.arr true false 22 1 (rowsU [a, b, c, d, n])))], 4⟩) (fun j => 5 - j.1) ⟨0, by omega, ⟨fun h => by omega, fun h => by omega, fun h => by omega, fun h => by omega, fun h => by omega⟩⟩ (Wk.i (by repeat' (first | exact True.intro | exact id | exact rfl | decide | exact Nat.le_of_ble_eq_true rfl | exact .int_of rfl | exact .osl_of rfl (by omega) rfl | exact LeB.fr rfl id id | exact .ptr rfl (by omega) | exact .osl_of rfl (by omega) rfl | exact .fr rfl | exact LeL.fr rfl | exact .yld rfl (by omega) | exact .eptr rfl (by omega) | exact .osl0 | exact .snil_sl | exact .to_any | exact LeB.fr rfl id id | exact LeB.fr (by simp; done) id id | refine Or.inl ⟨by simp, _, rfl, ?_⟩ | exact Or.inr ⟨by simp, _, _, _, _, rfl⟩ | refine ⟨rfl, rfl, rfl, rfl, rfl, rfl, ?_⟩ | refine ⟨?_, ?_⟩)) (by omega)) (fun j => ?_)
      obtain ⟨j, hj, hlow⟩ := j
      rcases j with _ | _ | _ | _ | _ | _ | j
      case succ.succ.succ.succ.succ.succ => omega
      case zero =>
        (conv => whnf)
        refine ⟨rfl, ⟨by simp, by simp⟩, ?_⟩
        (conv => whnf)
        refine ⟨rfl, _, rfl, ?_⟩
        (conv => whnf)
        split
        · rename_i hbig
          have hno := no_big hnr (by have := of_decide_eq_true hbig; omega)
          (conv => whnf)
          rw [hno]
          exact (Ends.pure [] (by first | exact .tupL ⟨.fr rfl, .fr rfl, trivial⟩ | exact .ptr rfl (by omega) | exact .osl_of rfl (by omega) rfl | exact .fr rfl | exact LeL.fr rfl | exact .yld rfl (by omega) | exact .eptr rfl (by omega) | exact .osl0 | exact .snil_sl | exact .to_any | (refine .tupL ?_; repeat' (first | exact True.intro | exact .tupL ⟨.fr rfl, .fr rfl, trivial⟩ | exact .ptr rfl (by omega) | exact .osl_of rfl (by omega) rfl | exact .fr rfl | exact LeL.fr rfl | exact .yld rfl (by omega) | exact .eptr rfl (by omega) | exact .osl0 | exact .snil_sl | exact .to_any | refine .aggL ?_ | refine ⟨?_, ?_⟩)) | (refine .aggL ?_; repeat' (first | exact True.intro | exact .tupL ⟨.fr rfl, .fr rfl, trivial⟩ | exact .ptr rfl (by omega) | exact .osl_of rfl (by omega) rfl | exact .fr rfl | exact LeL.fr rfl | exact .yld rfl (by omega) | exact .eptr rfl (by omega) | exact .osl0 | exact .snil_sl | exact .to_any | refine ⟨?_, ?_⟩))) (by simp))
        · rename_i hbig
          have hbig := of_decide_eq_false hbig
          obtain ⟨p0, p1, p2, p3, p4⟩ := hlow
          (conv => whnf)
          exact ⟨⟨1, by omega, ⟨fun _ => by omega, fun _ => by omega, fun _ => by omega, fun _ => by omega, fun _ => by omega⟩⟩, (Wk.i (by repeat' (first | exact True.intro | exact id | exact rfl | decide | exact Nat.le_of_ble_eq_true rfl | exact .int_of (by simp [wrap64']) | exact .ptr rfl (by omega) | exact .osl_of rfl (by omega) rfl | exact .fr rfl | exact LeL.fr rfl | exact .yld rfl (by omega) | exact .eptr rfl (by omega) | exact .osl0 | exact .snil_sl | exact .to_any | exact LeB.fr rfl id id | exact LeB.fr (by simp; done) id id | refine Or.inl ⟨by simp, _, rfl, ?_⟩ | exact Or.inr ⟨by simp, _, _, _, _, rfl⟩ | refine ⟨rfl, rfl, rfl, rfl, rfl, rfl, ?_⟩ | refine ⟨?_, ?_⟩)) (by omega)), by simp⟩
      case succ.zero =>
        (conv => whnf)
        refine ⟨rfl, ⟨by simp, by simp⟩, ?_⟩
        (conv => whnf)
        refine ⟨rfl, _, rfl, ?_⟩
        (conv => whnf)
        split
        · rename_i hbig
          have hno := no_big hnr (by have := of_decide_eq_true hbig; omega)
          (conv => whnf)
          rw [hno]
          exact (Ends.pure [] (by first | exact .tupL ⟨.fr rfl, .fr rfl, trivial⟩ | exact .ptr rfl (by omega) | exact .osl_of rfl (by omega) rfl | exact .fr rfl | exact LeL.fr rfl | exact .yld rfl (by omega) | exact .eptr rfl (by omega) | exact .osl0 | exact .snil_sl | exact .to_any | (refine .tupL ?_; repeat' (first | exact True.intro | exact .tupL ⟨.fr rfl, .fr rfl, trivial⟩ | exact .ptr rfl (by omega) | exact .osl_of rfl (by omega) rfl | exact .fr rfl | exact LeL.fr rfl | exact .yld rfl (by omega) | exact .eptr rfl (by omega) | exact .osl0 | exact .snil_sl | exact .to_any | refine .aggL ?_ | refine ⟨?_, ?_⟩)) | (refine .aggL ?_; repeat' (first | exact True.intro | exact .tupL ⟨.fr rfl, .fr rfl, trivial⟩ | exact .ptr rfl (by omega) | exact .osl_of rfl (by omega) rfl | exact .fr rfl | exact LeL.fr rfl | exact .yld rfl (by omega) | exact .eptr rfl (by omega) | exact .osl0 | exact .snil_sl | exact .to_any | refine ⟨?_, ?_⟩))) (by simp))
        · rename_i hbig
          have hbig := of_decide_eq_false hbig
          obtain ⟨p0, p1, p2, p3, p4⟩ := hlow
          (conv => whnf)
          exact ⟨⟨2, by omega, ⟨fun _ => by omega, fun _ => by omega, fun _ => by omega, fun _ => by omega, fun _ => by omega⟩⟩, (Wk.i (by repeat' (first | exact True.intro | exact id | exact rfl | decide | exact Nat.le_of_ble_eq_true rfl | exact .int_of (by simp [wrap64']) | exact .ptr rfl (by omega) | exact .osl_of rfl (by omega) rfl | exact .fr rfl | exact LeL.fr rfl | exact .yld rfl (by omega) | exact .eptr rfl (by omega) | exact .osl0 | exact .snil_sl | exact .to_any | exact LeB.fr rfl id id | exact LeB.fr (by simp; done) id id | refine Or.inl ⟨by simp, _, rfl, ?_⟩ | exact Or.inr ⟨by simp, _, _, _, _, rfl⟩ | refine ⟨rfl, rfl, rfl, rfl, rfl, rfl, ?_⟩ | refine ⟨?_, ?_⟩)) (by omega)), by simp⟩
      case succ.succ.zero =>
        (conv => whnf)
        refine ⟨rfl, ⟨by simp, by simp⟩, ?_⟩
        (conv => whnf)
        refine ⟨rfl, _, rfl, ?_⟩
        (conv => whnf)
        split
        · rename_i hbig
          have hno := no_big hnr (by have := of_decide_eq_true hbig; omega)
          (conv => whnf)
          rw [hno]
          exact (Ends.pure [] (by first | exact .tupL ⟨.fr rfl, .fr rfl, trivial⟩ | exact .ptr rfl (by omega) | exact .osl_of rfl (by omega) rfl | exact .fr rfl | exact LeL.fr rfl | exact .yld rfl (by omega) | exact .eptr rfl (by omega) | exact .osl0 | exact .snil_sl | exact .to_any | (refine .tupL ?_; repeat' (first | exact True.intro | exact .tupL ⟨.fr rfl, .fr rfl, trivial⟩ | exact .ptr rfl (by omega) | exact .osl_of rfl (by omega) rfl | exact .fr rfl | exact LeL.fr rfl | exact .yld rfl (by omega) | exact .eptr rfl (by omega) | exact .osl0 | exact .snil_sl | exact .to_any | refine .aggL ?_ | refine ⟨?_, ?_⟩)) | (refine .aggL ?_; repeat' (first | exact True.intro | exact .tupL ⟨.fr rfl, .fr rfl, trivial⟩ | exact .ptr rfl (by omega) | exact .osl_of rfl (by omega) rfl | exact .fr rfl | exact LeL.fr rfl | exact .yld rfl (by omega) | exact .eptr rfl (by omega) | exact .osl0 | exact .snil_sl | exact .to_any | refine ⟨?_, ?_⟩))) (by simp))
        · rename_i hbig
          have hbig := of_decide_eq_false hbig
          obtain ⟨p0, p1, p2, p3, p4⟩ := hlow
          (conv => whnf)
          exact ⟨⟨3, by omega, ⟨fun _ => by omega, fun _ => by omega, fun _ => by omega, fun _ => by omega, fun _ => by omega⟩⟩, (Wk.i (by repeat' (first | exact True.intro | exact id | exact rfl | decide | exact Nat.le_of_ble_eq_true rfl | exact .int_of (by simp [wrap64']) | exact .ptr rfl (by omega) | exact .osl_of rfl (by omega) rfl | exact .fr rfl | exact LeL.fr rfl | exact .yld rfl (by omega) | exact .eptr rfl (by omega) | exact .osl0 | exact .snil_sl | exact .to_any | exact LeB.fr rfl id id | exact LeB.fr (by simp; done) id id | refine Or.inl ⟨by simp, _, rfl, ?_⟩ | exact Or.inr ⟨by simp, _, _, _, _, rfl⟩ | refine ⟨rfl, rfl, rfl, rfl, rfl, rfl, ?_⟩ | refine ⟨?_, ?_⟩)) (by omega)), by simp⟩
      case succ.succ.succ.zero =>
        (conv => whnf)
        refine ⟨rfl, ⟨by simp, by simp⟩, ?_⟩
        (conv => whnf)
        refine ⟨rfl, _, rfl, ?_⟩
        (conv => whnf)
        split
        · rename_i hbig
          have hno := no_big hnr (by have := of_decide_eq_true hbig; omega)
          (conv => whnf)
          rw [hno]
          exact (Ends.pure [] (by first | exact .tupL ⟨.fr rfl, .fr rfl, trivial⟩ | exact .ptr rfl (by omega) | exact .osl_of rfl (by omega) rfl | exact .fr rfl | exact LeL.fr rfl | exact .yld rfl (by omega) | exact .eptr rfl (by omega) | exact .osl0 | exact .snil_sl | exact .to_any | (refine .tupL ?_; repeat' (first | exact True.intro | exact .tupL ⟨.fr rfl, .fr rfl, trivial⟩ | exact .ptr rfl (by omega) | exact .osl_of rfl (by omega) rfl | exact .fr rfl | exact LeL.fr rfl | exact .yld rfl (by omega) | exact .eptr rfl (by omega) | exact .osl0 | exact .snil_sl | exact .to_any | refine .aggL ?_ | refine ⟨?_, ?_⟩)) | (refine .aggL ?_; repeat' (first | exact True.intro | exact .tupL ⟨.fr rfl, .fr rfl, trivial⟩ | exact .ptr rfl (by omega) | exact .osl_of rfl (by omega) rfl | exact .fr rfl | exact LeL.fr rfl | exact .yld rfl (by omega) | exact .eptr rfl (by omega) | exact .osl0 | exact .snil_sl | exact .to_any | refine ⟨?_, ?_⟩))) (by simp))
        · rename_i hbig
          have hbig := of_decide_eq_false hbig
          obtain ⟨p0, p1, p2, p3, p4⟩ := hlow
          (conv => whnf)
          exact ⟨⟨4, by omega, ⟨fun _ => by omega, fun _ => by omega, fun _ => by omega, fun _ => by omega, fun _ => by omega⟩⟩, (Wk.i (by repeat' (first | exact True.intro | exact id | exact rfl | decide | exact Nat.le_of_ble_eq_true rfl | exact .int_of (by simp [wrap64']) | exact .ptr rfl (by omega) | exact .osl_of rfl (by omega) rfl | exact .fr rfl | exact LeL.fr rfl | exact .yld rfl (by omega) | exact .eptr rfl (by omega) | exact .osl0 | exact .snil_sl | exact .to_any | exact LeB.fr rfl id id | exact LeB.fr (by simp; done) id id | refine Or.inl ⟨by simp, _, rfl, ?_⟩ | exact Or.inr ⟨by simp, _, _, _, _, rfl⟩ | refine ⟨rfl, rfl, rfl, rfl, rfl, rfl, ?_⟩ | refine ⟨?_, ?_⟩)) (by omega)), by simp⟩
      case succ.succ.succ.succ.zero =>
        (conv => whnf)
        refine ⟨rfl, ⟨by simp, by simp⟩, ?_⟩
        (conv => whnf)
        refine ⟨rfl, _, rfl, ?_⟩
        (conv => whnf)
        split
        · rename_i hbig
          have hno := no_big hnr (by have := of_decide_eq_true hbig; omega)
          (conv => whnf)
          rw [hno]
          exact (Ends.pure [] (by first | exact .tupL ⟨.fr rfl, .fr rfl, trivial⟩ | exact .ptr rfl (by omega) | exact .osl_of rfl (by omega) rfl | exact .fr rfl | exact LeL.fr rfl | exact .yld rfl (by omega) | exact .eptr rfl (by omega) | exact .osl0 | exact .snil_sl | exact .to_any | (refine .tupL ?_; repeat' (first | exact True.intro | exact .tupL ⟨.fr rfl, .fr rfl, trivial⟩ | exact .ptr rfl (by omega) | exact .osl_of rfl (by omega) rfl | exact .fr rfl | exact LeL.fr rfl | exact .yld rfl (by omega) | exact .eptr rfl (by omega) | exact .osl0 | exact .snil_sl | exact .to_any | refine .aggL ?_ | refine ⟨?_, ?_⟩)) | (refine .aggL ?_; repeat' (first | exact True.intro | exact .tupL ⟨.fr rfl, .fr rfl, trivial⟩ | exact .ptr rfl (by omega) | exact .osl_of rfl (by omega) rfl | exact .fr rfl | exact LeL.fr rfl | exact .yld rfl (by omega) | exact .eptr rfl (by omega) | exact .osl0 | exact .snil_sl | exact .to_any | refine ⟨?_, ?_⟩))) (by simp))
        · rename_i hbig
          have hbig := of_decide_eq_false hbig
          obtain ⟨p0, p1, p2, p3, p4⟩ := hlow
          (conv => whnf)
          exact ⟨⟨5, by omega, ⟨fun _ => by omega, fun _ => by omega, fun _ => by omega, fun _ => by omega, fun _ => by omega⟩⟩, (Wk.i (by repeat' (first | exact True.intro | exact id | exact rfl | decide | exact Nat.le_of_ble_eq_true rfl | exact .int_of (by simp [wrap64']) | exact .ptr rfl (by omega) | exact .osl_of rfl (by omega) rfl | exact .fr rfl | exact LeL.fr rfl | exact .yld rfl (by omega) | exact .eptr rfl (by omega) | exact .osl0 | exact .snil_sl | exact .to_any | exact LeB.fr rfl id id | exact LeB.fr (by simp; done) id id | refine Or.inl ⟨by simp, _, rfl, ?_⟩ | exact Or.inr ⟨by simp, _, _, _, _, rfl⟩ | refine ⟨rfl, rfl, rfl, rfl, rfl, rfl, ?_⟩ | refine ⟨?_, ?_⟩)) (by omega)), by simp⟩
      obtain ⟨p0, p1, p2, p3, p4⟩ := hlow
      have p0 := p0 (by omega)
      have p1 := p1 (by omega)
      have p2 := p2 (by omega)
      have p3 := p3 (by omega)
      have hdec : decP s = ⟨UInt32.ofNat (a * 16777216 + b * 65536 + c * 256 + d), UInt8.ofNat n⟩ := by rw [decP, hnr]; rfl
      have hji := join_int p0 p1 p2 p3
      have hu8 := u8_wrap n
      have hof : ofP s = if isText (decP s) s then (decP s, 0) else (⟨0, 0⟩, 305) := rfl
      rw [hdec] at hof
      (conv => whnf)
      refine ⟨rfl, ⟨by simp, by simp⟩, ?_⟩
      (conv => whnf)
      refine ⟨rfl, _, rfl, ?_⟩
      (conv => whnf)
      refine ⟨rfl, ⟨by simp, by simp⟩, ?_⟩
      (conv => whnf)
      refine ⟨rfl, _, rfl, ?_⟩
      (conv => whnf)
      refine ⟨rfl, ⟨by simp, by simp⟩, ?_⟩
      (conv => whnf)
      refine ⟨rfl, _, rfl, ?_⟩
      (conv => whnf)
      refine ⟨rfl, ⟨by simp, by simp⟩, ?_⟩
      (conv => whnf)
      refine ⟨rfl, _, rfl, ?_⟩
      (conv => whnf)
      refine ⟨rfl, ⟨by simp, by simp⟩, ?_⟩
      (conv => whnf)
      refine ⟨rfl, _, rfl, ?_⟩
      (conv => whnf)
      refine ⟨by kernel_rfl, ?_⟩
      (conv => whnf)
      simp only [hji, hu8]
      refine callV_pure (rRight_ok ⟨UInt32.ofNat (a * 16777216 + b * 65536 + c * 256 + d), UInt8.ofNat n⟩) ⟨.fr rfl, trivial⟩ ?_
      cases hr : prefOk ⟨UInt32.ofNat (a * 16777216 + b * 65536 + c * 256 + d), UInt8.ofNat n⟩ with
      | false =>
        rw [if_neg (by rw [isText, hr]; simp)] at hof
        (conv => whnf)
        rw [hof]
        exact (Ends.pure [] (by first | exact .tupL ⟨.fr rfl, .fr rfl, trivial⟩ | exact .ptr rfl (by omega) | exact .osl_of rfl (by omega) rfl | exact .fr rfl | exact LeL.fr rfl | exact .yld rfl (by omega) | exact .eptr rfl (by omega) | exact .osl0 | exact .snil_sl | exact .to_any | (refine .tupL ?_; repeat' (first | exact True.intro | exact .tupL ⟨.fr rfl, .fr rfl, trivial⟩ | exact .ptr rfl (by omega) | exact .osl_of rfl (by omega) rfl | exact .fr rfl | exact LeL.fr rfl | exact .yld rfl (by omega) | exact .eptr rfl (by omega) | exact .osl0 | exact .snil_sl | exact .to_any | refine .aggL ?_ | refine ⟨?_, ?_⟩)) | (refine .aggL ?_; repeat' (first | exact True.intro | exact .tupL ⟨.fr rfl, .fr rfl, trivial⟩ | exact .ptr rfl (by omega) | exact .osl_of rfl (by omega) rfl | exact .fr rfl | exact LeL.fr rfl | exact .yld rfl (by omega) | exact .eptr rfl (by omega) | exact .osl0 | exact .snil_sl | exact .to_any | refine ⟨?_, ?_⟩))) (by simp))
      | true =>
      (conv => whnf)
      refine callV_pure (refText_ok ⟨UInt32.ofNat (a * 16777216 + b * 65536 + c * 256 + d), UInt8.ofNat n⟩) ⟨.fr rfl, trivial⟩ ?_
      (conv => whnf)
      split
      · rename_i ht
        rw [if_neg (by simp only [isText, hr, Bool.true_and, decide_eq_true_eq]; intro e; rw [e] at ht; simp at ht)] at hof
        (conv => whnf)
        rw [hof]
        exact (Ends.pure [] (by first | exact .tupL ⟨.fr rfl, .fr rfl, trivial⟩ | exact .ptr rfl (by omega) | exact .osl_of rfl (by omega) rfl | exact .fr rfl | exact LeL.fr rfl | exact .yld rfl (by omega) | exact .eptr rfl (by omega) | exact .osl0 | exact .snil_sl | exact .to_any | (refine .tupL ?_; repeat' (first | exact True.intro | exact .tupL ⟨.fr rfl, .fr rfl, trivial⟩ | exact .ptr rfl (by omega) | exact .osl_of rfl (by omega) rfl | exact .fr rfl | exact LeL.fr rfl | exact .yld rfl (by omega) | exact .eptr rfl (by omega) | exact .osl0 | exact .snil_sl | exact .to_any | refine .aggL ?_ | refine ⟨?_, ?_⟩)) | (refine .aggL ?_; repeat' (first | exact True.intro | exact .tupL ⟨.fr rfl, .fr rfl, trivial⟩ | exact .ptr rfl (by omega) | exact .osl_of rfl (by omega) rfl | exact .fr rfl | exact LeL.fr rfl | exact .yld rfl (by omega) | exact .eptr rfl (by omega) | exact .osl0 | exact .snil_sl | exact .to_any | refine ⟨?_, ?_⟩))) (by simp))
      · rename_i ht
        rw [if_pos (by simp only [isText, hr, Bool.true_and, decide_eq_true_eq]; have h2 := ht; simp at h2; exact ba_eq (by simpa [bytesS] using h2))] at hof
        (conv => whnf)
        rw [hof]
        exact (Ends.pure [] (by first | exact .tupL ⟨.fr rfl, .fr rfl, trivial⟩ | exact .ptr rfl (by omega) | exact .osl_of rfl (by omega) rfl | exact .fr rfl | exact LeL.fr rfl | exact .yld rfl (by omega) | exact .eptr rfl (by omega) | exact .osl0 | exact .snil_sl | exact .to_any | (refine .tupL ?_; repeat' (first | exact True.intro | exact .tupL ⟨.fr rfl, .fr rfl, trivial⟩ | exact .ptr rfl (by omega) | exact .osl_of rfl (by omega) rfl | exact .fr rfl | exact LeL.fr rfl | exact .yld rfl (by omega) | exact .eptr rfl (by omega) | exact .osl0 | exact .snil_sl | exact .to_any | refine .aggL ?_ | refine ⟨?_, ?_⟩)) | (refine .aggL ?_; repeat' (first | exact True.intro | exact .tupL ⟨.fr rfl, .fr rfl, trivial⟩ | exact .ptr rfl (by omega) | exact .osl_of rfl (by omega) rfl | exact .fr rfl | exact LeL.fr rfl | exact .yld rfl (by omega) | exact .eptr rfl (by omega) | exact .osl0 | exact .snil_sl | exact .to_any | refine ⟨?_, ?_⟩))) (by simp))
  · rename_i hc
    have hc : i = s.data.toList.length := by have := of_decide_eq_false hc; simp only at this; omega
    have hnr : numsR (s.data.toList.take 40) = l ++ [n] := by
      rw [List.take_of_length_le (by omega), numsR]
      rw [hc, List.take_length] at hlaw
      rw [hlaw]
    (conv => whnf)
    refine ⟨rfl, by simp, ⟨rfl, rfl, rfl, rfl, by decide⟩, by simp [rowsU], ⟨by simp [tab, tabOf, nth]; omega, by simp; omega⟩, ?_⟩
    (conv => whnf)
    refine fun (_ : gd none _) => ?_
    (conv => whnf)
    split
    · rename_i h5
      have hno := no_len hnr (by simp at h5 ⊢; omega)
      (conv => whnf)
      rw [hno]
      exact (Ends.pure [] (by first | exact .tupL ⟨.fr rfl, .fr rfl, trivial⟩ | exact .ptr rfl (by omega) | exact .osl_of rfl (by omega) rfl | exact .fr rfl | exact LeL.fr rfl | exact .yld rfl (by omega) | exact .eptr rfl (by omega) | exact .osl0 | exact .snil_sl | exact .to_any | (refine .tupL ?_; repeat' (first | exact True.intro | exact .tupL ⟨.fr rfl, .fr rfl, trivial⟩ | exact .ptr rfl (by omega) | exact .osl_of rfl (by omega) rfl | exact .fr rfl | exact LeL.fr rfl | exact .yld rfl (by omega) | exact .eptr rfl (by omega) | exact .osl0 | exact .snil_sl | exact .to_any | refine .aggL ?_ | refine ⟨?_, ?_⟩)) | (refine .aggL ?_; repeat' (first | exact True.intro | exact .tupL ⟨.fr rfl, .fr rfl, trivial⟩ | exact .ptr rfl (by omega) | exact .osl_of rfl (by omega) rfl | exact .fr rfl | exact LeL.fr rfl | exact .yld rfl (by omega) | exact .eptr rfl (by omega) | exact .osl0 | exact .snil_sl | exact .to_any | refine ⟨?_, ?_⟩))) (by simp))
    rename_i h5
    have h5 : l.length = 4 := by simp at h5; omega
    obtain ⟨a, b, c, d, rfl⟩ : ∃ a b c d, l = [a, b, c, d] := by
      match l, h5 with
      | [a, b, c, d], _ => exact ⟨a, b, c, d, rfl⟩
    (conv => whnf)
    refine vcg_loop tab_ok mixed (fun j : {j : Nat // j ≤ 5 ∧ Low j a b c d n} => ⟨[(0, .str s), (2, .ptr 0 0), (4, .osl 3 1 0 5), (7, cI j.1)], [(0, some (.var true 24 [.int .u32 0, .int .u8 0])), (3, some (.arr true false 22 1 (rowsU [a, b, c, d, n])))], 4⟩) (fun j => 5 - j.1) ⟨0, by omega, ⟨fun h => by omega, fun h => by omega, fun h => by omega, fun h => by omega, fun h => by omega⟩⟩ (Wk.i (by repeat' (first | exact True.intro | exact id | exact rfl | decide | exact Nat.le_of_ble_eq_true rfl | exact .int_of rfl | exact .osl_of rfl (by omega) rfl | exact LeB.fr rfl id id | exact .ptr rfl (by omega) | exact .osl_of rfl (by omega) rfl | exact .fr rfl | exact LeL.fr rfl | exact .yld rfl (by omega) | exact .eptr rfl (by omega) | exact .osl0 | exact .snil_sl | exact .to_any | exact LeB.fr rfl id id | exact LeB.fr (by simp; done) id id | refine Or.inl ⟨by simp, _, rfl, ?_⟩ | exact Or.inr ⟨by simp, _, _, _, _, rfl⟩ | refine ⟨rfl, rfl, rfl, rfl, rfl, rfl, ?_⟩ | refine ⟨?_, ?_⟩)) (by omega)) (fun j => ?_)
    obtain ⟨j, hj, hlow⟩ := j
    rcases j with _ | _ | _ | _ | _ | _ | j
    case succ.succ.succ.succ.succ.succ => omega
    case zero =>
      (conv => whnf)
      refine ⟨rfl, ⟨by simp, by simp⟩, ?_⟩
      (conv => whnf)
      refine ⟨rfl, _, rfl, ?_⟩
      (conv => whnf)
      split
      · rename_i hbig
        have hno := no_big hnr (by have := of_decide_eq_true hbig; omega)
        (conv => whnf)
        rw [hno]
        exact (Ends.pure [] (by first | exact .tupL ⟨.fr rfl, .fr rfl, trivial⟩ | exact .ptr rfl (by omega) | exact .osl_of rfl (by omega) rfl | exact .fr rfl | exact LeL.fr rfl | exact .yld rfl (by omega) | exact .eptr rfl (by omega) | exact .osl0 | exact .snil_sl | exact .to_any | (refine .tupL ?_; repeat' (first | exact True.intro | exact .tupL ⟨.fr rfl, .fr rfl, trivial⟩ | exact .ptr rfl (by omega) | exact .osl_of rfl (by omega) rfl | exact .fr rfl | exact LeL.fr rfl | exact .yld rfl (by omega) | exact .eptr rfl (by omega) | exact .osl0 | exact .snil_sl | exact .to_any | refine .aggL ?_ | refine ⟨?_, ?_⟩)) | (refine .aggL ?_; repeat' (first | exact True.intro | exact .tupL ⟨.fr rfl, .fr rfl, trivial⟩ | exact .ptr rfl (by omega) | exact .osl_of rfl (by omega) rfl | exact .fr rfl | exact LeL.fr rfl | exact .yld rfl (by omega) | exact .eptr rfl (by omega) | exact .osl0 | exact .snil_sl | exact .to_any | refine ⟨?_, ?_⟩))) (by simp))
      · rename_i hbig
        have hbig := of_decide_eq_false hbig
        obtain ⟨p0, p1, p2, p3, p4⟩ := hlow
        (conv => whnf)
        exact ⟨⟨1, by omega, ⟨fun _ => by omega, fun _ => by omega, fun _ => by omega, fun _ => by omega, fun _ => by omega⟩⟩, (Wk.i (by repeat' (first | exact True.intro | exact id | exact rfl | decide | exact Nat.le_of_ble_eq_true rfl | exact .int_of (by simp [wrap64']) | exact .ptr rfl (by omega) | exact .osl_of rfl (by omega) rfl | exact .fr rfl | exact LeL.fr rfl | exact .yld rfl (by omega) | exact .eptr rfl (by omega) | exact .osl0 | exact .snil_sl | exact .to_any | exact LeB.fr rfl id id | exact LeB.fr (by simp; done) id id | refine Or.inl ⟨by simp, _, rfl, ?_⟩ | exact Or.inr ⟨by simp, _, _, _, _, rfl⟩ | refine ⟨rfl, rfl, rfl, rfl, rfl, rfl, ?_⟩ | refine ⟨?_, ?_⟩)) (by omega)), by simp⟩
    case succ.zero =>
      (conv => whnf)
      refine ⟨rfl, ⟨by simp, by simp⟩, ?_⟩
      (conv => whnf)
      refine ⟨rfl, _, rfl, ?_⟩
      (conv => whnf)
      split
      · rename_i hbig
        have hno := no_big hnr (by have := of_decide_eq_true hbig; omega)
        (conv => whnf)
        rw [hno]
        exact (Ends.pure [] (by first | exact .tupL ⟨.fr rfl, .fr rfl, trivial⟩ | exact .ptr rfl (by omega) | exact .osl_of rfl (by omega) rfl | exact .fr rfl | exact LeL.fr rfl | exact .yld rfl (by omega) | exact .eptr rfl (by omega) | exact .osl0 | exact .snil_sl | exact .to_any | (refine .tupL ?_; repeat' (first | exact True.intro | exact .tupL ⟨.fr rfl, .fr rfl, trivial⟩ | exact .ptr rfl (by omega) | exact .osl_of rfl (by omega) rfl | exact .fr rfl | exact LeL.fr rfl | exact .yld rfl (by omega) | exact .eptr rfl (by omega) | exact .osl0 | exact .snil_sl | exact .to_any | refine .aggL ?_ | refine ⟨?_, ?_⟩)) | (refine .aggL ?_; repeat' (first | exact True.intro | exact .tupL ⟨.fr rfl, .fr rfl, trivial⟩ | exact .ptr rfl (by omega) | exact .osl_of rfl (by omega) rfl | exact .fr rfl | exact LeL.fr rfl | exact .yld rfl (by omega) | exact .eptr rfl (by omega) | exact .osl0 | exact .snil_sl | exact .to_any | refine ⟨?_, ?_⟩))) (by simp))
      · rename_i hbig
        have hbig := of_decide_eq_false hbig
        obtain ⟨p0, p1, p2, p3, p4⟩ := hlow
        (conv => whnf)
        exact ⟨⟨2, by omega, ⟨fun _ => by omega, fun _ => by omega, fun _ => by omega, fun _ => by omega, fun _ => by omega⟩⟩, (Wk.i (by repeat' (first | exact True.intro | exact id | exact rfl | decide | exact Nat.le_of_ble_eq_true rfl | exact .int_of (by simp [wrap64']) | exact .ptr rfl (by omega) | exact .osl_of rfl (by omega) rfl | exact .fr rfl | exact LeL.fr rfl | exact .yld rfl (by omega) | exact .eptr rfl (by omega) | exact .osl0 | exact .snil_sl | exact .to_any | exact LeB.fr rfl id id | exact LeB.fr (by simp; done) id id | refine Or.inl ⟨by simp, _, rfl, ?_⟩ | exact Or.inr ⟨by simp, _, _, _, _, rfl⟩ | refine ⟨rfl, rfl, rfl, rfl, rfl, rfl, ?_⟩ | refine ⟨?_, ?_⟩)) (by omega)), by simp⟩
    case succ.succ.zero =>
      (conv => whnf)
      refine ⟨rfl, ⟨by simp, by simp⟩, ?_⟩
      (conv => whnf)
      refine ⟨rfl, _, rfl, ?_⟩
      (conv => whnf)
      split
      · rename_i hbig
        have hno := no_big hnr (by have := of_decide_eq_true hbig; omega)
        (conv => whnf)
        rw [hno]
        exact (Ends.pure [] (by first | exact .tupL ⟨.fr rfl, .fr rfl, trivial⟩ | exact .ptr rfl (by omega) | exact .osl_of rfl (by omega) rfl | exact .fr rfl | exact LeL.fr rfl | exact .yld rfl (by omega) | exact .eptr rfl (by omega) | exact .osl0 | exact .snil_sl | exact .to_any | (refine .tupL ?_; repeat' (first | exact True.intro | exact .tupL ⟨.fr rfl, .fr rfl, trivial⟩ | exact .ptr rfl (by omega) | exact .osl_of rfl (by omega) rfl | exact .fr rfl | exact LeL.fr rfl | exact .yld rfl (by omega) | exact .eptr rfl (by omega) | exact .osl0 | exact .snil_sl | exact .to_any | refine .aggL ?_ | refine ⟨?_, ?_⟩)) | (refine .aggL ?_; repeat' (first | exact True.intro | exact .tupL ⟨.fr rfl, .fr rfl, trivial⟩ | exact .ptr rfl (by omega) | exact .osl_of rfl (by omega) rfl | exact .fr rfl | exact LeL.fr rfl | exact .yld rfl (by omega) | exact .eptr rfl (by omega) | exact .osl0 | exact .snil_sl | exact .to_any | refine ⟨?_, ?_⟩))) (by simp))
      · rename_i hbig
        have hbig := of_decide_eq_false hbig
        obtain ⟨p0, p1, p2, p3, p4⟩ := hlow
        (conv => whnf)
        exact ⟨⟨3, by omega, ⟨fun _ => by omega, fun _ => by omega, fun _ => by omega, fun _ => by omega, fun _ => by omega⟩⟩, (Wk.i (by repeat' (first | exact True.intro | exact id | exact rfl | decide | exact Nat.le_of_ble_eq_true rfl | exact .int_of (by simp [wrap64']) | exact .ptr rfl (by omega) | exact .osl_of rfl (by omega) rfl | exact .fr rfl | exact LeL.fr rfl | exact .yld rfl (by omega) | exact .eptr rfl (by omega) | exact .osl0 | exact .snil_sl | exact .to_any | exact LeB.fr rfl id id | exact LeB.fr (by simp; done) id id | refine Or.inl ⟨by simp, _, rfl, ?_⟩ | exact Or.inr ⟨by simp, _, _, _, _, rfl⟩ | refine ⟨rfl, rfl, rfl, rfl, rfl, rfl, ?_⟩ | refine ⟨?_, ?_⟩)) (by omega)), by simp⟩
    case succ.succ.succ.zero =>
      (conv => whnf)
      refine ⟨rfl, ⟨by simp, by simp⟩, ?_⟩
      (conv => whnf)
      refine ⟨rfl, _, rfl, ?_⟩
      (conv => whnf)
      split
      · rename_i hbig
        have hno := no_big hnr (by have := of_decide_eq_true hbig; omega)
        (conv => whnf)
        rw [hno]
        exact (Ends.pure [] (by first | exact .tupL ⟨.fr rfl, .fr rfl, trivial⟩ | exact .ptr rfl (by omega) | exact .osl_of rfl (by omega) rfl | exact .fr rfl | exact LeL.fr rfl | exact .yld rfl (by omega) | exact .eptr rfl (by omega) | exact .osl0 | exact .snil_sl | exact .to_any | (refine .tupL ?_; repeat' (first | exact True.intro | exact .tupL ⟨.fr rfl, .fr rfl, trivial⟩ | exact .ptr rfl (by omega) | exact .osl_of rfl (by omega) rfl | exact .fr rfl | exact LeL.fr rfl | exact .yld rfl (by omega) | exact .eptr rfl (by omega) | exact .osl0 | exact .snil_sl | exact .to_any | refine .aggL ?_ | refine ⟨?_, ?_⟩)) | (refine .aggL ?_; repeat' (first | exact True.intro | exact .tupL ⟨.fr rfl, .fr rfl, trivial⟩ | exact .ptr rfl (by omega) | exact .osl_of rfl (by omega) rfl | exact .fr rfl | exact LeL.fr rfl | exact .yld rfl (by omega) | exact .eptr rfl (by omega) | exact .osl0 | exact .snil_sl | exact .to_any | refine ⟨?_, ?_⟩))) (by simp))
      · rename_i hbig
        have hbig := of_decide_eq_false hbig
        obtain ⟨p0, p1, p2, p3, p4⟩ := hlow
        (conv => whnf)
        exact ⟨⟨4, by omega, ⟨fun _ => by omega, fun _ => by omega, fun _ => by omega, fun _ => by omega, fun _ => by omega⟩⟩, (Wk.i (by repeat' (first | exact True.intro | exact id | exact rfl | decide | exact Nat.le_of_ble_eq_true rfl | exact .int_of (by simp [wrap64']) | exact .ptr rfl (by omega) | exact .osl_of rfl (by omega) rfl | exact .fr rfl | exact LeL.fr rfl | exact .yld rfl (by omega) | exact .eptr rfl (by omega) | exact .osl0 | exact .snil_sl | exact .to_any | exact LeB.fr rfl id id | exact LeB.fr (by simp; done) id id | refine Or.inl ⟨by simp, _, rfl, ?_⟩ | exact Or.inr ⟨by simp, _, _, _, _, rfl⟩ | refine ⟨rfl, rfl, rfl, rfl, rfl, rfl, ?_⟩ | refine ⟨?_, ?_⟩)) (by omega)), by simp⟩
    case succ.succ.succ.succ.zero =>
      (conv => whnf)
      refine ⟨rfl, ⟨by simp, by simp⟩, ?_⟩
      (conv => whnf)
      refine ⟨rfl, _, rfl, ?_⟩
      (conv => whnf)
      split
      · rename_i hbig
        have hno := no_big hnr (by have := of_decide_eq_true hbig; omega)
        (conv => whnf)
        rw [hno]
        exact (Ends.pure [] (by first | exact .tupL ⟨.fr rfl, .fr rfl, trivial⟩ | exact .ptr rfl (by omega) | exact .osl_of rfl (by omega) rfl | exact .fr rfl | exact LeL.fr rfl | exact .yld rfl (by omega) | exact .eptr rfl (by omega) | exact .osl0 | exact .snil_sl | exact .to_any | (refine .tupL ?_; repeat' (first | exact True.intro | exact .tupL ⟨.fr rfl, .fr rfl, trivial⟩ | exact .ptr rfl (by omega) | exact .osl_of rfl (by omega) rfl | exact .fr rfl | exact LeL.fr rfl | exact .yld rfl (by omega) | exact .eptr rfl (by omega) | exact .osl0 | exact .snil_sl | exact .to_any | refine .aggL ?_ | refine ⟨?_, ?_⟩)) | (refine .aggL ?_; repeat' (first | exact True.intro | exact .tupL ⟨.fr rfl, .fr rfl, trivial⟩ | exact .ptr rfl (by omega) | exact .osl_of rfl (by omega) rfl | exact .fr rfl | exact LeL.fr rfl | exact .yld rfl (by omega) | exact .eptr rfl (by omega) | exact .osl0 | exact .snil_sl | exact .to_any | refine ⟨?_, ?_⟩))) (by simp))
      · rename_i hbig
        have hbig := of_decide_eq_false hbig
        obtain ⟨p0, p1, p2, p3, p4⟩ := hlow
        (conv => whnf)
        exact ⟨⟨5, by omega, ⟨fun _ => by omega, fun _ => by omega, fun _ => by omega, fun _ => by omega, fun _ => by omega⟩⟩, (Wk.i (by repeat' (first | exact True.intro | exact id | exact rfl | decide | exact Nat.le_of_ble_eq_true rfl | exact .int_of (by simp [wrap64']) | exact .ptr rfl (by omega) | exact .osl_of rfl (by omega) rfl | exact .fr rfl | exact LeL.fr rfl | exact .yld rfl (by omega) | exact .eptr rfl (by omega) | exact .osl0 | exact .snil_sl | exact .to_any | exact LeB.fr rfl id id | exact LeB.fr (by simp; done) id id | refine Or.inl ⟨by simp, _, rfl, ?_⟩ | exact Or.inr ⟨by simp, _, _, _, _, rfl⟩ | refine ⟨rfl, rfl, rfl, rfl, rfl, rfl, ?_⟩ | refine ⟨?_, ?_⟩)) (by omega)), by simp⟩
    obtain ⟨p0, p1, p2, p3, p4⟩ := hlow
    have p0 := p0 (by omega)
    have p1 := p1 (by omega)
    have p2 := p2 (by omega)
    have p3 := p3 (by omega)
    have hdec : decP s = ⟨UInt32.ofNat (a * 16777216 + b * 65536 + c * 256 + d), UInt8.ofNat n⟩ := by rw [decP, hnr]; rfl
    have hji := join_int p0 p1 p2 p3
    have hu8 := u8_wrap n
    have hof : ofP s = if isText (decP s) s then (decP s, 0) else (⟨0, 0⟩, 305) := rfl
    rw [hdec] at hof
    (conv => whnf)
    refine ⟨rfl, ⟨by simp, by simp⟩, ?_⟩
    (conv => whnf)
    refine ⟨rfl, _, rfl, ?_⟩
    (conv => whnf)
    refine ⟨rfl, ⟨by simp, by simp⟩, ?_⟩
    (conv => whnf)
    refine ⟨rfl, _, rfl, ?_⟩
    (conv => whnf)
    refine ⟨rfl, ⟨by simp, by simp⟩, ?_⟩
    (conv => whnf)
    refine ⟨rfl, _, rfl, ?_⟩
    (conv => whnf)
    refine ⟨rfl, ⟨by simp, by simp⟩, ?_⟩
    (conv => whnf)
    refine ⟨rfl, _, rfl, ?_⟩
    (conv => whnf)
    refine ⟨rfl, ⟨by simp, by simp⟩, ?_⟩
    (conv => whnf)
    refine ⟨rfl, _, rfl, ?_⟩
    (conv => whnf)
    refine ⟨by kernel_rfl, ?_⟩
    (conv => whnf)
    simp only [hji, hu8]
    refine callV_pure (rRight_ok ⟨UInt32.ofNat (a * 16777216 + b * 65536 + c * 256 + d), UInt8.ofNat n⟩) ⟨.fr rfl, trivial⟩ ?_
    cases hr : prefOk ⟨UInt32.ofNat (a * 16777216 + b * 65536 + c * 256 + d), UInt8.ofNat n⟩ with
    | false =>
      rw [if_neg (by rw [isText, hr]; simp)] at hof
      (conv => whnf)
      rw [hof]
      exact (Ends.pure [] (by first | exact .tupL ⟨.fr rfl, .fr rfl, trivial⟩ | exact .ptr rfl (by omega) | exact .osl_of rfl (by omega) rfl | exact .fr rfl | exact LeL.fr rfl | exact .yld rfl (by omega) | exact .eptr rfl (by omega) | exact .osl0 | exact .snil_sl | exact .to_any | (refine .tupL ?_; repeat' (first | exact True.intro | exact .tupL ⟨.fr rfl, .fr rfl, trivial⟩ | exact .ptr rfl (by omega) | exact .osl_of rfl (by omega) rfl | exact .fr rfl | exact LeL.fr rfl | exact .yld rfl (by omega) | exact .eptr rfl (by omega) | exact .osl0 | exact .snil_sl | exact .to_any | refine .aggL ?_ | refine ⟨?_, ?_⟩)) | (refine .aggL ?_; repeat' (first | exact True.intro | exact .tupL ⟨.fr rfl, .fr rfl, trivial⟩ | exact .ptr rfl (by omega) | exact .osl_of rfl (by omega) rfl | exact .fr rfl | exact LeL.fr rfl | exact .yld rfl (by omega) | exact .eptr rfl (by omega) | exact .osl0 | exact .snil_sl | exact .to_any | refine ⟨?_, ?_⟩))) (by simp))
    | true =>
    (conv => whnf)
    refine callV_pure (refText_ok ⟨UInt32.ofNat (a * 16777216 + b * 65536 + c * 256 + d), UInt8.ofNat n⟩) ⟨.fr rfl, trivial⟩ ?_
    (conv => whnf)
    split
    · rename_i ht
      rw [if_neg (by simp only [isText, hr, Bool.true_and, decide_eq_true_eq]; intro e; rw [e] at ht; simp at ht)] at hof
      (conv => whnf)
      rw [hof]
      exact (Ends.pure [] (by first | exact .tupL ⟨.fr rfl, .fr rfl, trivial⟩ | exact .ptr rfl (by omega) | exact .osl_of rfl (by omega) rfl | exact .fr rfl | exact LeL.fr rfl | exact .yld rfl (by omega) | exact .eptr rfl (by omega) | exact .osl0 | exact .snil_sl | exact .to_any | (refine .tupL ?_; repeat' (first | exact True.intro | exact .tupL ⟨.fr rfl, .fr rfl, trivial⟩ | exact .ptr rfl (by omega) | exact .osl_of rfl (by omega) rfl | exact .fr rfl | exact LeL.fr rfl | exact .yld rfl (by omega) | exact .eptr rfl (by omega) | exact .osl0 | exact .snil_sl | exact .to_any | refine .aggL ?_ | refine ⟨?_, ?_⟩)) | (refine .aggL ?_; repeat' (first | exact True.intro | exact .tupL ⟨.fr rfl, .fr rfl, trivial⟩ | exact .ptr rfl (by omega) | exact .osl_of rfl (by omega) rfl | exact .fr rfl | exact LeL.fr rfl | exact .yld rfl (by omega) | exact .eptr rfl (by omega) | exact .osl0 | exact .snil_sl | exact .to_any | refine ⟨?_, ?_⟩))) (by simp))
    · rename_i ht
      rw [if_pos (by simp only [isText, hr, Bool.true_and, decide_eq_true_eq]; have h2 := ht; simp at h2; exact ba_eq (by simpa [bytesS] using h2))] at hof
      (conv => whnf)
      rw [hof]
      exact (Ends.pure [] (by first | exact .tupL ⟨.fr rfl, .fr rfl, trivial⟩ | exact .ptr rfl (by omega) | exact .osl_of rfl (by omega) rfl | exact .fr rfl | exact LeL.fr rfl | exact .yld rfl (by omega) | exact .eptr rfl (by omega) | exact .osl0 | exact .snil_sl | exact .to_any | (refine .tupL ?_; repeat' (first | exact True.intro | exact .tupL ⟨.fr rfl, .fr rfl, trivial⟩ | exact .ptr rfl (by omega) | exact .osl_of rfl (by omega) rfl | exact .fr rfl | exact LeL.fr rfl | exact .yld rfl (by omega) | exact .eptr rfl (by omega) | exact .osl0 | exact .snil_sl | exact .to_any | refine .aggL ?_ | refine ⟨?_, ?_⟩)) | (refine .aggL ?_; repeat' (first | exact True.intro | exact .tupL ⟨.fr rfl, .fr rfl, trivial⟩ | exact .ptr rfl (by omega) | exact .osl_of rfl (by omega) rfl | exact .fr rfl | exact LeL.fr rfl | exact .yld rfl (by omega) | exact .eptr rfl (by omega) | exact .osl0 | exact .snil_sl | exact .to_any | refine ⟨?_, ?_⟩))) (by simp))
end Go.Proofs.YtehhligadnlijaaGreatDoor
set_option linter.unusedVariables false
set_option linter.unusedSimpArgs false
namespace Go.Proofs.YtehhligadnlijaaGreatDoor
open Go.RowKit
open Go.Proofs.Tryz (prog)
attribute [local irreducible] CallV RoundV aggK
def tenP : Prefix := ⟨167772160, 8⟩
def goneT : Upd := ⟨[tenP], [], noA⟩
def newT : Upd := ⟨[], [tenP], noA⟩
def rowT : List UInt8 := [0, 2, 8, 10, 0, 0]
theorem encU_cold (u : Upd) : Cold (encU false u) := .agg (by
  intro v hv
  rcases List.mem_cons.1 hv with rfl | hv
  · exact encPs_cold _
  rcases List.mem_cons.1 hv with rfl | hv
  · exact encPs_cold _
  simp only [cellsA, List.mem_cons, List.not_mem_nil, or_false] at hv
  rcases hv with rfl | rfl | rfl | rfl | rfl | rfl | rfl | rfl <;> first | exact .int | exact .bool | exact encLegs_cold _ | exact encW_cold _)
theorem encU_fresh (u : Upd) : Fresh (encU true u) := .agg (by
  intro v hv
  rcases List.mem_cons.1 hv with rfl | hv
  · exact encPs_fresh _
  rcases List.mem_cons.1 hv with rfl | hv
  · exact encPs_fresh _
  simp only [cellsA, List.mem_cons, List.not_mem_nil, or_false] at hv
  rcases hv with rfl | rfl | rfl | rfl | rfl | rfl | rfl | rfl <;> first | exact .int | exact .bool | exact encLegs_fresh _ | exact encW_fresh _)
theorem tup2_fresh {a b : V} (h1 : Fresh a) (h2 : Fresh b) : Fresh (.tup [a, b]) := .tup (by intro v hv; simp at hv; rcases hv with rfl | rfl <;> assumption)
theorem rise_one {p : Prefix} (h : prefOk p = true) : riseP [p] = true := riseP_iff.2 fun j hj => by
  obtain rfl : j = 0 := by simp at hj; omega
  exact ⟨h, fun h0 => absurd h0 (by omega)⟩
theorem rise_nil : riseP [] = true := riseP_iff.2 fun j hj => by simp at hj
theorem body_gone : bodyB goneT = rowT := by decide
theorem check_gone : checkU goneT = 0 := by
  have hm : mayU goneT = true := by
    simp only [mayU, goneT, rise_one (p := tenP) (by decide), rise_nil, apartP, saidU, if_true]
    decide
  rw [checkU, if_pos hm, body_gone]
  decide
theorem raw_gone : rawE20 goneT = .tup [encB true rowT, .int .i64 0] := by rw [rawE20, check_gone, if_pos rfl, body_gone]
theorem check_new : checkU newT = 2 := by
  have hm : mayU newT = false := by
    have hs : saidU newT = false := by
      rw [saidU, if_neg (by decide)]
      decide
    simp [mayU, hs]
  rw [checkU, if_neg (by simp [hm])]
theorem parse_short : parseUV true [0, 2, 8] = .tup [encU true noU, .int .i64 300] := by
  have he : errB [0, 2, 8] = 300 := by
    have hs : stepE [0, 2, 8] 0 = 300 := by decide
    rw [errB, hs]; decide
  rw [parseUV, updB, he, if_neg (by decide)]
def s1 : ByteArray := ⟨#[49, 48, 46, 48, 46, 48, 46, 48, 47, 56]⟩
def s2 : ByteArray := ⟨#[49, 48, 46, 48, 46, 48, 46, 49, 47, 56]⟩
theorem of_s1 : ofP s1 = (tenP, 0) := by decide +kernel
theorem of_s2 : ofP s2 = (⟨0, 0⟩, 305) := by decide +kernel
theorem text_ten : bytesS (textB tenP) = s1 := by decide +kernel
theorem covers_ten : coversP ⟨0, 0⟩ tenP = true := by decide
set_option maxRecDepth 100000 in
set_option maxHeartbeats 4000000 in
theorem works20_ok : PCon prog 18 [] (.bool true) := by
  have o1 := uof_ok s1 (by decide)
  have o2 := uof_ok s2 (by decide)
  rw [of_s1] at o1
  rw [of_s2] at o2
  have r1 := uRaw_ok false goneT ⟨by decide, by decide, by decide⟩
  rw [raw_gone] at r1
  have p1 := parseU20_ok false [0, 2, 8] (by decide)
  rw [parse_short] at p1
  have c1 := ucheck_ok false newT ⟨by decide, by decide, by decide⟩
  rw [check_new] at c1
  have t1 := uText_ok tenP
  rw [text_ten] at t1
  have v1 := uCovers_ok ⟨0, 0⟩ tenP
  rw [covers_ten] at v1
  refine callV_of (fn := Go.Proofs.Tryz.f18) (body := _) tab_ok mixed rfl rfl (by decide) (by simp [Go.Proofs.Tryz.f18]) ?_
  (conv => whnf)
  refine callV_lend [1] r1 ⟨.aggL ⟨LeV.fresh_off (LeV.freezeE (ys := rowsP [tenP]) (by simp) rfl (by decide) rfl (rowsP_free _)), .snil_sl, .fr rfl, .snil_sl, .fr rfl, .fr rfl, .fr rfl, .fr rfl, .fr rfl, .snil_sl, trivial⟩, trivial⟩ (by intro v hv; obtain rfl := List.mem_singleton.1 hv; exact encU_cold _) (one_none rfl) (tup2_fresh (encB_fresh _) .int) ?_
  (conv => whnf)
  refine callV_lend [2] p1 ⟨LeV.fresh_off (LeV.freezeE (ys := rowsB [0, 2, 8]) (by simp) rfl (by decide) rfl (rowsB_free _)), trivial⟩ (by intro v hv; obtain rfl := List.mem_singleton.1 hv; exact encB_cold _) (one_none rfl) (tup2_fresh (encU_fresh _) .int) ?_
  (conv => whnf)
  refine callV_pure o1 ⟨.fr rfl, trivial⟩ ?_
  (conv => whnf)
  refine callV_pure o2 ⟨.fr rfl, trivial⟩ ?_
  (conv => whnf)
  refine callV_pure (num_ok 0) ⟨.int_of rfl, trivial⟩ ?_
  (conv => whnf)
  refine callV_pure (num_ok 0) ⟨.int_of rfl, trivial⟩ ?_
  (conv => whnf)
  refine ⟨rfl, ⟨rowT.toArray⟩, rfl, ?_⟩
  (conv => whnf)
  refine callV_pure (num_ok 300) ⟨.int_of rfl, trivial⟩ ?_
  (conv => whnf)
  refine eqlP tenP tenP ?_
  rw [decide_eq_true rfl]
  (conv => whnf)
  refine callV_pure (num_ok 305) ⟨.int_of rfl, trivial⟩ ?_
  (conv => whnf)
  refine callV_pure v1 ⟨.fr rfl, .fr rfl, trivial⟩ ?_
  (conv => whnf)
  refine callV_pure t1 ⟨.fr rfl, trivial⟩ ?_
  (conv => whnf)
  refine callV_lend [6] c1 ⟨.aggL ⟨.snil_sl, LeV.fresh_off (LeV.freezeE (ys := rowsP [tenP]) (by simp) rfl (by decide) rfl (rowsP_free _)), .fr rfl, .snil_sl, .fr rfl, .fr rfl, .fr rfl, .fr rfl, .fr rfl, .snil_sl, trivial⟩, trivial⟩ (by intro v hv; obtain rfl := List.mem_singleton.1 hv; exact encU_cold _) (one_none rfl) .int ?_
  (conv => whnf)
  refine callV_pure (num_ok 2) ⟨.int_of rfl, trivial⟩ ?_
  (conv => whnf)
  exact (Ends.pure [] (by first | exact .ptr rfl (by omega) | exact .osl_of rfl (by omega) rfl | exact .fr rfl | exact LeL.fr rfl | exact .yld rfl (by omega) | exact .eptr rfl (by omega) | exact .osl0 | exact .snil_sl | exact .to_any) (by simp))
end Go.Proofs.YtehhligadnlijaaGreatDoor
set_option linter.unusedVariables false
set_option linter.unusedSimpArgs false
namespace Go.Proofs.YtehhligadnlijaaGreatDoor
open Go.RowKit
open Go.Proofs.Tryz (prog)
attribute [local irreducible] CallV RoundV aggK
theorem fewU_out {u : Upd} (h : fewU u = true) : fewA u.attrs = true ∧ u.gone.length ≤ 150 ∧ u.new.length ≤ 150 := by
  simp only [fewU, Bool.and_eq_true, List.all_eq_true, decide_eq_true_eq] at h
  obtain ⟨⟨⟨⟨h1, h2⟩, h3⟩, h4⟩, h5⟩ := h
  refine ⟨?_, by omega, by omega⟩
  simp only [fewA, Bool.and_eq_true, List.all_eq_true, decide_eq_true_eq]
  refine ⟨⟨fun p hp => ?_, by omega⟩, by omega⟩
  have := h1 p hp
  simp only [legFew, decide_eq_true_eq] at this
  omega
theorem fewU_small {u : Upd} (h : fewU u = true) : Small u := by
  obtain ⟨h1, h2, h3⟩ := fewU_out h
  exact ⟨by omega, by omega, h1⟩
set_option maxRecDepth 100000 in
set_option maxHeartbeats 4000000 in
theorem lent20_ok (fr : Bool) (u : Upd) (hf : fewU u = true) : PCon prog 28 [encU fr u] (encU true u) := by
  obtain ⟨hfa, hg, hn⟩ := fewU_out hf
  obtain ⟨hp, hpl, htl⟩ := fewA_out hfa
  refine callV_of (fn := Go.Proofs.Tryz.f28) (body := _) tab_ok mixed rfl rfl (by decide) (by simp [Go.Proofs.Tryz.f28]) ?_
  have cell : ∀ {fr0 : Bool} {x : Upd}, FreeB (.var true 47 (cellsU fr0 x)) := fun {fr0 x} => cellsU_free fr0 x
  have zfree : FreeB (.var true 47 zeroU) := by
    intro v hv
    simp only [zeroU, List.mem_cons, List.not_mem_nil, or_false] at hv
    rcases hv with rfl | rfl | rfl | rfl | rfl | rfl | rfl | rfl | rfl | rfl <;> first | exact .int | exact .bool | exact .snil
  (conv => whnf)
  refine ⟨⟨rfl, rfl, rfl, rfl, by decide⟩, Nat.zero_le _, ⟨by simp [tab, tabOf, nth]; omega, by simp; omega⟩, ?_⟩
  (conv => whnf)
  refine vcg_loop tab_ok mixed (fun i : {i : Nat // i ≤ u.attrs.path.length} => ⟨[(1, .ptr 0 0), (2, .ptr 1 0), (3, .osl 3 2 0 u.attrs.path.length), (4, cI i.1)], [(0, some (.var true 47 (cellsU fr u))), (1, some (.var true 47 zeroU)), (3, some (.arr true false 92 2 (rowsAt fr u.attrs.path i.1)))], 4⟩) (fun i => u.attrs.path.length - i.1) ⟨0, by omega⟩ ?_ (fun i => ?_)
  · refine Wk.of id [] ⟨?_, ?_, ?_, ?_, trivial⟩ (LeH.same ⟨⟨rfl, cell, by omega⟩, ⟨rfl, zfree, by omega⟩, ⟨?_, rowsAt_free _ _ _, by omega⟩, trivial⟩ (by omega))
    · exact .ptr rfl (by omega)
    · exact .ptr rfl (by omega)
    · exact .osl_of rfl (by omega) (by simp)
    · exact .int_of rfl
    · simp only [rowsAt, List.take_zero, List.map_nil, List.nil_append, List.drop_zero]
      rfl
  obtain ⟨i, hi⟩ := i
  (conv => whnf)
  intro _
  (conv => whnf)
  split
  · rename_i hc
    have hc : i < u.attrs.path.length := by simpa using hc
    have hpi := hp u.attrs.path[i] (List.getElem_mem hc)
    have hget : (rowsAt fr u.attrs.path i)[0 + (i : Int).toNat]? = some (encLeg fr u.attrs.path[i]) := by simpa using rowsAt_get hc
    (conv => whnf)
    refine ⟨rfl, ⟨by simp only; omega, by simp only; omega⟩, ?_⟩
    (conv => whnf)
    refine ⟨rfl, encLeg fr u.attrs.path[i], hget, ?_⟩
    (conv => whnf)
    refine ⟨⟨rfl, rfl, rfl, rfl, by decide⟩, Nat.zero_le _, ⟨by simp [tab, tabOf, nth]; omega, by simp; omega⟩, ?_⟩
    (conv => whnf)
    refine ⟨rfl, ⟨by simp only; omega, by simp only; omega⟩, ?_⟩
    (conv => whnf)
    refine ⟨rfl, encLeg fr u.attrs.path[i], hget, ?_⟩
    (conv => whnf)
    refine ⟨⟨i + 1, by omega⟩, Wk.of id [5] ⟨?_, ?_, ?_, ?_, trivial⟩ (LeH.of ⟨⟨by omega, .inl ⟨by simp, _, rfl, LeB.free cell⟩⟩, ⟨by omega, .inl ⟨by simp, _, rfl, LeB.free zfree⟩⟩, ⟨by omega, .inl ⟨by simp, _, rfl, ?_⟩⟩, trivial⟩ (fun _ _ _ _ h => h) (fun _ _ => rfl) (by omega) (fun z hz => by obtain rfl := List.mem_singleton.1 hz; exact ne_none_of rfl)), by simp only; omega⟩
    · exact .ptr rfl (by omega)
    · exact .ptr rfl (by omega)
    · exact .osl_of rfl (by omega) (by simp)
    · exact .int_of (wrap64_succ hc (show u.attrs.path.length ≤ maxLen by unfold maxLen; omega))
    · simp only
      rw [rowsAt_succ hc]
      simp only [Nat.zero_add, Int.toNat_natCast]
      refine LeB.set (rowsAt_free _ _ _) ⟨.free .bool, ?_, trivial⟩
      refine LeV.freeze_of (by simp) rfl ?_ ?_ ?_
      · simp
      · intro x hx v hv
        exact rowsW_free _ x (by simpa using hx) v hv
      · exact List.take_of_length_le (by simp)
  · rename_i hc
    have hc : i = u.attrs.path.length := by simp at hc; omega
    subst hc
    (conv => whnf)
    refine ⟨⟨rfl, rfl, rfl, rfl, by decide⟩, Nat.zero_le _, ⟨by simp [tab, tabOf, nth]; omega, by simp; omega⟩, ?_⟩
    (conv => whnf)
    refine ⟨⟨rfl, rfl, rfl, rfl, by decide⟩, Nat.zero_le _, ⟨by simp [tab, tabOf, nth]; omega, by simp; omega⟩, ?_⟩
    (conv => whnf)
    refine ⟨⟨rfl, rfl, rfl, rfl, by decide⟩, Nat.zero_le _, ⟨by simp [tab, tabOf, nth]; omega, by simp; omega⟩, ?_⟩
    (conv => whnf)
    refine ⟨by kernel_rfl, ?_⟩
    (conv => whnf)
    refine Ends.pure [3, 5, 7, 9] (LeV.aggL ⟨?_, ?_, .free .int, ?_, .free .int, .free .bool, .free .int, .free .bool, .free .int, ?_, trivial⟩) ?_
    · exact LeV.freezeE (ys := rowsP u.gone) (by simp) rfl (by simp [rowsP]) (by simp [rowsP, List.take_of_length_le]) (rowsP_free _)
    · exact LeV.freezeE (ys := rowsP u.new) (by simp) rfl (by simp [rowsP]) (by simp [rowsP, List.take_of_length_le]) (rowsP_free _)
    · refine LeV.freeze_of (by simp) rfl ?_ ?_ ?_
      · simp only [rowsAt_len]; omega
      · exact rowsAt_free _ _ _
      · simp only [rowsAt_all, List.drop_zero]
        exact List.take_of_length_le (by simp)
    · refine LeV.freeze_of (by simp) rfl ?_ ?_ ?_
      · simp
      · intro x hx v hv
        exact rowsW_free _ x (by simpa using hx) v hv
      · exact List.take_of_length_le (by simp)
    · intro z hz
      simp only [List.mem_cons, List.not_mem_nil, or_false] at hz
      rcases hz with rfl | rfl | rfl | rfl <;> exact ne_none_of rfl
end Go.Proofs.YtehhligadnlijaaGreatDoor
set_option linter.unusedVariables false
set_option linter.unusedSimpArgs false
namespace Go.Proofs.YtehhligadnlijaaGreatDoor
open Go.RowKit
open Go.Proofs.Tryz (prog)
attribute [local irreducible] CallV RoundV aggK
theorem cmpP_cases (p q : Prefix) : (cmpP p q = -1 ∧ cmpP q p = 1) ∨ (cmpP p q = 0 ∧ cmpP q p = 0) ∨ (cmpP p q = 1 ∧ cmpP q p = -1) := by
  rw [cmpP_def, cmpP_def]
  repeat' split
  all_goals first | omega | simp
set_option maxRecDepth 100000 in
set_option maxHeartbeats 8000000 in
theorem prefixes_law_ok (p q : Prefix) : PCon prog 3 [encP p, encP q] (.bool true) := by
  have a1 := uRight_ok p
  have a2 := rRight_ok p
  have b1 := uCovers_ok p q
  have b2 := rCovers_ok p q
  have c1 := uCovers_ok q p
  have c2 := rCovers_ok q p
  have d1 := uCompare_ok p q
  have d2 := refCompare_ok p q
  have d3 := uCompare_ok q p
  generalize prefOk p = x at a1 a2
  generalize coversP p q = y at b1 b2
  generalize coversP q p = z at c1 c2
  have hn : (cmpP q p == IntKind.i64.wrap (-cmpP p q)) = true := by
    rcases cmpP_cases p q with ⟨e1, e2⟩ | ⟨e1, e2⟩ | ⟨e1, e2⟩ <;> rw [e1, e2] <;> decide
  generalize cmpP p q = m at d1 d2 hn
  generalize cmpP q p = n at d3 hn
  refine callV_of (fn := Go.Proofs.Tryz.f3) (body := _) tab_ok mixed rfl rfl (by decide) (by simp [Go.Proofs.Tryz.f3]) ?_
  (conv => whnf)
  refine ⟨_, [], fun h nx _ => pureV_pure a1 ⟨.fr rfl, trivial⟩, by simp, ?_⟩
  (conv => whnf)
  refine ⟨_, [], fun h nx _ => pureV_pure a2 ⟨.fr rfl, trivial⟩, by simp, ?_⟩
  (conv => whnf)
  (split <;> first | (rename_i hh; exfalso; first | (simp at hh; done) | (simp at hh; omega)) | skip); (conv => whnf)
  refine ⟨_, [], fun h nx _ => pureV_pure b1 ⟨.fr rfl, .fr rfl, trivial⟩, by simp, ?_⟩
  (conv => whnf)
  refine ⟨_, [], fun h nx _ => pureV_pure b2 ⟨.fr rfl, .fr rfl, trivial⟩, by simp, ?_⟩
  (conv => whnf)
  (split <;> first | (rename_i hh; exfalso; first | (simp at hh; done) | (simp at hh; omega)) | skip); (conv => whnf)
  refine ⟨_, [], fun h nx _ => pureV_pure c1 ⟨.fr rfl, .fr rfl, trivial⟩, by simp, ?_⟩
  (conv => whnf)
  refine ⟨_, [], fun h nx _ => pureV_pure c2 ⟨.fr rfl, .fr rfl, trivial⟩, by simp, ?_⟩
  (conv => whnf)
  (split <;> first | (rename_i hh; exfalso; first | (simp at hh; done) | (simp at hh; omega)) | skip); (conv => whnf)
  refine ⟨_, [], fun h nx _ => pureV_pure d1 ⟨.fr rfl, .fr rfl, trivial⟩, by simp, ?_⟩
  (conv => whnf)
  refine ⟨_, [], fun h nx _ => pureV_pure d2 ⟨.fr rfl, .fr rfl, trivial⟩, by simp, ?_⟩
  (conv => whnf)
  (split <;> first | (rename_i hh; exfalso; first | (simp at hh; done) | (simp at hh; omega)) | skip); (conv => whnf)
  refine ⟨_, [], fun h nx _ => pureV_pure d3 ⟨.fr rfl, .fr rfl, trivial⟩, by simp, ?_⟩
  (conv => whnf)
  refine ⟨_, [], fun h nx _ => pureV_pure d2 ⟨.fr rfl, .fr rfl, trivial⟩, by simp, ?_⟩
  (conv => whnf)
  split
  case h_2 hh => rw [hn] at hh; cases hh
  (conv => whnf)
  refine ⟨_, [], fun h nx _ => pureV_pure works20_ok trivial, by simp, ?_⟩
  (conv => whnf)
  refine ⟨drawOk_fast (by kernel_rfl), ?_⟩
  (conv => whnf)
  exact (Ends.pure [] (by first | exact .ptr rfl (by omega) | exact .osl_of rfl (by omega) rfl | exact .fr rfl | exact LeL.fr rfl | exact .yld rfl (by omega) | exact .eptr rfl (by omega) | exact .osl0 | exact .snil_sl | exact .to_any) (by simp))
theorem sameU_refl (u : Upd) : sameU u u = true := by simp [sameU, sameA_refl]
set_option maxRecDepth 100000 in
set_option maxHeartbeats 8000000 in
theorem same_law20_ok (a b : Upd) : PCon prog 9 [encU false a, encU false b] (.bool true) := by
  have f1 := few20_ok false a
  have f2 := few20_ok false b
  have s1 := usame_ok false false a b
  have s2 := refSameU_ok false false a b
  have s3 := usame_ok false true a a
  rw [sameU_refl] at s3
  generalize sameU a b = x at s1 s2
  refine callV_of (fn := Go.Proofs.Tryz.f9) (body := _) tab_ok mixed rfl rfl (by decide) (by simp [Go.Proofs.Tryz.f9]) ?_
  (conv => whnf)
  refine callV_pure f1 ⟨.fr rfl, trivial⟩ ?_
  cases hf : fewU a with
  | false =>
    (conv => whnf)
    refine callV_pure works20_ok trivial ?_
    (conv => whnf)
    exact (Ends.pure [] (by first | exact .ptr rfl (by omega) | exact .osl_of rfl (by omega) rfl | exact .fr rfl | exact LeL.fr rfl | exact .yld rfl (by omega) | exact .eptr rfl (by omega) | exact .osl0 | exact .snil_sl | exact .to_any) (by simp))
  | true =>
  have l1 := lent20_ok false a hf
  (conv => whnf)
  refine callV_pure f2 ⟨.fr rfl, trivial⟩ ?_
  cases hg : fewU b with
  | false =>
    (conv => whnf)
    refine callV_pure works20_ok trivial ?_
    (conv => whnf)
    exact (Ends.pure [] (by first | exact .ptr rfl (by omega) | exact .osl_of rfl (by omega) rfl | exact .fr rfl | exact LeL.fr rfl | exact .yld rfl (by omega) | exact .eptr rfl (by omega) | exact .osl0 | exact .snil_sl | exact .to_any) (by simp))
  | true =>
  (conv => whnf)
  refine ⟨_, [], fun h nx _ => pureV_pure s1 ⟨.fr rfl, .fr rfl, trivial⟩, by simp, ?_⟩
  (conv => whnf)
  refine ⟨_, [], fun h nx _ => pureV_pure s2 ⟨.fr rfl, .fr rfl, trivial⟩, by simp, ?_⟩
  (conv => whnf)
  (split <;> first | (rename_i hh; exfalso; first | (simp at hh; done) | (simp at hh; omega)) | skip); (conv => whnf)
  refine ⟨_, [], fun h nx _ => pureV_pure l1 ⟨.fr rfl, trivial⟩, by simp, ?_⟩
  (conv => whnf)
  refine ⟨_, [], fun h nx _ => pureV_pure s3 ⟨.fr rfl, .fr rfl, trivial⟩, by simp, ?_⟩
  (conv => whnf)
  refine ⟨_, [], fun h nx _ => pureV_pure works20_ok trivial, by simp, ?_⟩
  (conv => whnf)
  refine ⟨by kernel_rfl, ?_⟩
  (conv => whnf)
  exact (Ends.pure [] (by first | exact .ptr rfl (by omega) | exact .osl_of rfl (by omega) rfl | exact .fr rfl | exact LeL.fr rfl | exact .yld rfl (by omega) | exact .eptr rfl (by omega) | exact .osl0 | exact .snil_sl | exact .to_any) (by simp))
set_option maxRecDepth 100000 in
set_option maxHeartbeats 8000000 in
theorem raws_law20_ok (u : Upd) : PCon prog 6 [encU false u] (.bool true) := by
  refine callV_of (fn := Go.Proofs.Tryz.f6) (body := _) tab_ok mixed rfl rfl (by decide) (by simp [Go.Proofs.Tryz.f6]) ?_
  (conv => whnf)
  refine callV_pure (few20_ok false u) ⟨.fr rfl, trivial⟩ ?_
  cases hf : fewU u with
  | false =>
    (conv => whnf)
    refine callV_pure works20_ok trivial ?_
    (conv => whnf)
    exact (Ends.pure [] (by first | exact .ptr rfl (by omega) | exact .osl_of rfl (by omega) rfl | exact .fr rfl | exact LeL.fr rfl | exact .yld rfl (by omega) | exact .eptr rfl (by omega) | exact .osl0 | exact .snil_sl | exact .to_any) (by simp))
  | true =>
  have hs := fewU_small hf
  have s3 := refSameU_ok true false u u
  rw [sameU_refl] at s3
  have cr := uRaw_ok true u hs
  have c1 := rcheck_ok false u hs
  have c2 := ucheck_ok true u hs
  (conv => whnf)
  refine callV_pure (lent20_ok false u hf) ⟨.fr rfl, trivial⟩ ?_
  by_cases he : checkU u = 0
  · have rr := refRaw20_ok false u hs he
    rw [rawE20, if_pos he, he] at cr
    rw [he] at c1 c2
    (conv => whnf)
    refine callV_pure cr ⟨.fr rfl, trivial⟩ ?_
    (conv => whnf)
    refine callV_pure c1 ⟨.fr rfl, trivial⟩ ?_
    (conv => whnf)
    refine callV_pure c2 ⟨.fr rfl, trivial⟩ ?_
    (conv => whnf)
    refine callV_pure (num_ok 0) ⟨.int_of rfl, trivial⟩ ?_
    (conv => whnf)
    refine callV_pure s3 ⟨.fr rfl, .fr rfl, trivial⟩ ?_
    (conv => whnf)
    refine ⟨rfl, ⟨(bodyB u).toArray⟩, rfl, ?_⟩
    (conv => whnf)
    refine ⟨_, [], fun h nx _ => pureV_pure rr ⟨.fr rfl, trivial⟩, by simp, ?_⟩
    (conv => whnf)
    refine ⟨rfl, ⟨(bodyB u).toArray⟩, rfl, ?_⟩
    (conv => whnf)
    (split <;> first | (rename_i hh; exfalso; first | (simp at hh; done) | (simp at hh; omega)) | skip); (conv => whnf)
    refine ⟨_, [], fun h nx _ => pureV_pure (num_ok 0) ⟨.int_of rfl, trivial⟩, by simp, ?_⟩
    (conv => whnf)
    refine ⟨_, [], fun h nx _ => pureV_pure works20_ok trivial, by simp, ?_⟩
    (conv => whnf)
    refine ⟨by kernel_rfl, ?_⟩
    (conv => whnf)
    exact (Ends.pure [] (by first | exact .ptr rfl (by omega) | exact .osl_of rfl (by omega) rfl | exact .fr rfl | exact LeL.fr rfl | exact .yld rfl (by omega) | exact .eptr rfl (by omega) | exact .osl0 | exact .snil_sl | exact .to_any) (by simp))
  · rw [rawE20, if_neg he] at cr
    generalize checkU u = n at cr c1 c2 he
    (conv => whnf)
    refine callV_pure cr ⟨.fr rfl, trivial⟩ ?_
    (conv => whnf)
    refine callV_pure c1 ⟨.fr rfl, trivial⟩ ?_
    (conv => whnf)
    refine callV_pure c2 ⟨.fr rfl, trivial⟩ ?_
    (conv => whnf)
    refine callV_pure (num_ok n) ⟨.int_of rfl, trivial⟩ ?_
    (conv => whnf)
    (split <;> first | (rename_i hh; exfalso; first | (simp at hh; done) | (simp at hh; omega)) | skip); (conv => whnf)
    refine callV_pure s3 ⟨.fr rfl, .fr rfl, trivial⟩ ?_
    (conv => whnf)
    split
    case h_2 hh => exfalso; simp at hh; exact he hh
    (conv => whnf)
    refine fun (_ : gd none _) => ?_
    (conv => whnf)
    refine callV_pure (num_ok n) ⟨.int_of rfl, trivial⟩ ?_
    (conv => whnf)
    (split <;> first | (rename_i hh; exfalso; first | (simp at hh; done) | (simp at hh; omega)) | skip); (conv => whnf)
    refine callV_pure works20_ok trivial ?_
    (conv => whnf)
    exact (Ends.pure [] (by first | exact .ptr rfl (by omega) | exact .osl_of rfl (by omega) rfl | exact .fr rfl | exact LeL.fr rfl | exact .yld rfl (by omega) | exact .eptr rfl (by omega) | exact .osl0 | exact .snil_sl | exact .to_any) (by simp))
end Go.Proofs.YtehhligadnlijaaGreatDoor
set_option linter.unusedVariables false
set_option linter.unusedSimpArgs false
namespace Go.Proofs.YtehhligadnlijaaGreatDoor
open Go.RowKit Go.ChangeShapes Go.WideShapes
open Go.Proofs.Tryz (prog)
theorem rep_prefs : RepOk prog 37 (fun l : List Prefix => [encPs false l]) :=
  rep_slice (cells := cellsP) Go.Proofs.Tryz.underlying37 (by kernel_rfl) (by decide) (fun _ => rfl) rep_prefix
theorem rep_update : RepOk prog 47 (cellsU false) := fun enc w sp fuel cs x h => by
  have ht := Go.Proofs.Tryz.underlying47
  obtain ⟨xs, n, _, _, hlen, _, _⟩ := DataW.trod_struct ht h
  have hl : cs.length = 10 := hlen.trans (by kernel_rfl)
  obtain ⟨g, h0, o0⟩ := field_at ht h 0 rfl rep_prefs rfl (by kernel_rfl)
  obtain ⟨n, h1, o1⟩ := field_at ht h 1 rfl rep_prefs rfl (by kernel_rfl)
  obtain ⟨a, h2, o2⟩ := field_of ht h (f := _) (i := 2) rfl rep_attrs
  have hz : prog.cellsOf 45 = 8 := by kernel_rfl
  change vrs (G0 w) w (cellsA false a) ((cs.drop 2).take (prog.cellsOf 45)) at h2
  change ∀ u ∈ (cs.drop 2).take (prog.cellsOf 45), u.oneCell' = true at o2
  rw [hz, List.take_of_length_le (by rw [List.length_drop]; omega)] at h2 o2
  have j := vrs_join (vrs_join vrs_take0 h0 rfl (by omega)) h1 rfl (by omega)
  have k := one_join (one_join (by simp) o0 rfl (by omega)) o1 rfl (by omega)
  have e : cs.take 2 ++ cs.drop 2 = cs := List.take_append_drop 2 cs
  refine ⟨⟨g, n, a⟩, ?_, ?_⟩
  · have := j.append h2
    rw [e] at this
    exact this
  · intro u hu
    rw [← e] at hu
    rcases List.mem_append.1 hu with hu | hu
    · exact k u hu
    · exact o2 u hu
theorem arg_prefs : ArgOk prog 37 (encPs false) := arg_slice Go.Proofs.Tryz.underlying37 rep_prefs
theorem arg_update : ArgOk prog 47 (encU false) := arg_struct Go.Proofs.Tryz.underlying47 rep_update
theorem arg_string : ArgOk prog 9 (fun b : ByteArray => .str b) := arg_str Go.Proofs.Tryz.underlying9 (rep_str Go.Proofs.Tryz.underlying9)
theorem read_prefs : prog.readableRec 37 = true ∧ 37 < prog.types.size := ⟨by kernel_rfl, of_decide_eq_true (by kernel_rfl)⟩
theorem read_update : prog.readableRec 47 = true ∧ 47 < prog.types.size := ⟨by kernel_rfl, of_decide_eq_true (by kernel_rfl)⟩
theorem read_string : prog.readableRec 9 = true ∧ 9 < prog.types.size := ⟨by kernel_rfl, of_decide_eq_true (by kernel_rfl)⟩
abbrev laidL : List (String × DataW Unit) := Rows.updatePrefixesRow.laid
theorem err_at0 {W : World} {name : String} {nm : String} {d : DataW Unit} {g t : Nat} {cs : Array Value} {fuel : Nat} {p : List MemPlace} {ms : Array (String × TypeId)} (hg : prog.globalNamed name = some g) (hv : W.var? prog name = some cs) (hi : prog.underlying t = some (.interface ms))
    (hd : DataW.trod (fun _ => ()) prog W 0 (fun _ => true) false fuel t cs.toList = some (.iface nm d, p)) : ∃ o, W.heap[g]? = some o ∧ firstIs anErr o := by
  obtain ⟨t', fz, hh⟩ := var_heap hg hv
  obtain ⟨_, u, v, hcs, _, _⟩ := iface_of_trod hi hd
  refine ⟨_, hh, cs, t', fz, .iface u v, rfl, ?_, .inr ⟨u, v, rfl⟩⟩
  have : cs = #[.iface u v] := by
    apply Array.ext'
    simpa using hcs
  rw [this]; rfl
theorem glOk {W : World} (hL : laidMetH prog laidL W) (hS : W.ShapedOpen prog) : GlOk (G0 W) W := by
  rw [MakeChecks.laidMetH_plain _ _ _ (by kernel_rfl)] at hL
  obtain ⟨ps, ⟨g0, t0, cs0, f0, p0, q0, hg0, ht0, hv0, hd0, ⟨g1, t1, cs1, f1, p1, q1, hg1, ht1, hv1, hd1, ⟨g2, t2, cs2, f2, p2, q2, hg2, ht2, hv2, hd2, ⟨g3, t3, cs3, f3, p3, q3, hg3, ht3, hv3, hd3, ⟨g4, t4, cs4, f4, p4, q4, hg4, ht4, hv4, hd4, ⟨g5, t5, cs5, f5, p5, q5, hg5, ht5, hv5, hd5, _, _⟩, _⟩, _⟩, _⟩, _⟩, _⟩, _⟩ := hL
  obtain rfl : 3 = g2 := Option.some.inj ((show prog.globalNamed "internal/strconv.uint64pow10" = some 3 by kernel_rfl).symm.trans hg2)
  obtain rfl : 2 = g4 := Option.some.inj ((show prog.globalNamed "strconv.ErrRange" = some 2 by kernel_rfl).symm.trans hg4)
  obtain rfl : 1 = g5 := Option.some.inj ((show prog.globalNamed "strconv.ErrSyntax" = some 1 by kernel_rfl).symm.trans hg5)
  obtain rfl : 220 = t2 := Option.some.inj ((show (prog.globals[3]?).map (·.type) = some 220 by kernel_rfl).symm.trans ht2)
  obtain rfl : 77 = t4 := Option.some.inj ((show (prog.globals[2]?).map (·.type) = some 77 by kernel_rfl).symm.trans ht4)
  obtain rfl : 77 = t5 := Option.some.inj ((show (prog.globals[1]?).map (·.type) = some 77 by kernel_rfl).symm.trans ht5)
  have e1 := err_at0 hg5 hv5 Go.Proofs.Tryz.underlying77 hd5
  have e2 := err_at0 hg4 hv4 Go.Proofs.Tryz.underlying77 hd4
  have e3 : ∃ o, W.heap[3]? = some o ∧ tabHolds .u64 Lib.pow10Tab o := by
    obtain ⟨t', fz, hh⟩ := var_heap hg2 hv2
    have hc := Lib.cells_of_tab (k := .u64) (zs := Lib.pow10Tab) Go.Proofs.Tryz.underlying220 Go.Proofs.Tryz.underlying75 (by kernel_rfl) (by kernel_rfl) hd2
    refine ⟨_, hh, t', fz, ?_⟩
    congr 1
    apply Array.ext'
    simpa using hc
  have e0 : ∃ o, W.heap[0]? = some o ∧ firstIs (fun v => ∃ m, v = .int .i64 m) o := by
    obtain ⟨m, hm⟩ := cell_of_shapedOpen_int (g := 0) (t := 3) (zero := #[.int .i64 0]) hS (of_decide_eq_true (by kernel_rfl)) (by kernel_rfl) (by kernel_rfl) (by kernel_rfl) (by kernel_rfl) Go.Proofs.Tryz.underlying3
    unfold World.cell? at hm
    simp only at hm
    split at hm
    · rename_i cs t fz hh
      exact ⟨_, hh, cs, t, fz, _, rfl, hm, m, rfl⟩
    · cases hm
  intro p hp
  simp only [glob, List.mem_cons, List.not_mem_nil, or_false] at hp
  rcases hp with rfl | rfl | rfl | rfl
  · obtain ⟨o, h1, h2⟩ := e0; exact ⟨lt_heap h1, o, h1, h2⟩
  · obtain ⟨o, h1, h2⟩ := e1; exact ⟨lt_heap h1, o, h1, h2⟩
  · obtain ⟨o, h1, h2⟩ := e2; exact ⟨lt_heap h1, o, h1, h2⟩
  · obtain ⟨o, h1, h2⟩ := e3; exact ⟨lt_heap h1, o, h1, h2⟩
theorem door_met (os : Os) (args : Array Value) : laidMetH prog laidL ((World.laidAll prog os laidL).forCall (fun _ _ => 0) ⟨#[], args, []⟩).memory := by
  rw [MakeChecks.laidMetH_plain _ _ _ (by kernel_rfl)]
  exact laidMet_laidAll _ (by kernel_rfl) (by kernel_rfl)
theorem laid_shaped (os : Os) (args : Array Value) : ((World.laidAll prog os laidL).forCall (fun _ _ => 0) ⟨#[], args, []⟩).Shaped prog := World.shaped_of_ZipB (by kernel_rfl) (by kernel_rfl)
end Go.Proofs.YtehhligadnlijaaGreatDoor
set_option linter.unusedVariables false
set_option linter.unusedSimpArgs false
namespace Go.Proofs.YtehhligadnlijaaGreatDoor
open Go.RowKit
open Go.Proofs.Tryz (prog)
attribute [local irreducible] CallV RoundV aggK
theorem of_empty : ofP (bytesS []) = (⟨0, 0⟩, 305) := by decide +kernel
set_option maxRecDepth 100000 in
set_option maxHeartbeats 4000000 in
theorem texts20_ok (p : Prefix) (s : ByteArray) : PCon prog 4 [encP p, .str s] (.bool true) := by
  have tp := uText_ok p
  have tr := refText_ok p
  have rr := rRight_ok p
  have ot := uof_ok (bytesS (textB p)) (by rw [bytesS_size]; have := text_len p; omega)
  have hot : ofP (bytesS (textB p)) = if prefOk p = true then (p, 0) else (⟨0, 0⟩, 305) := by
    split
    · rename_i h; exact ofP_yes (by simp [isText, h])
    · rename_i h; rw [textB, if_neg h]; exact of_empty
  rw [hot] at ot
  refine callV_of (fn := Go.Proofs.Tryz.f4) (body := _) tab_ok mixed rfl rfl (by decide) (by simp [Go.Proofs.Tryz.f4]) ?_
  (conv => whnf)
  split
  · (conv => whnf)
    refine callV_pure works20_ok trivial ?_
    (conv => whnf)
    exact (Ends.pure [] (by first | exact .ptr rfl (by omega) | exact .osl_of rfl (by omega) rfl | exact .fr rfl | exact LeL.fr rfl | exact .yld rfl (by omega) | exact .eptr rfl (by omega) | exact .osl0 | exact .snil_sl | exact .to_any) (by simp))
  rename_i hc
  have hc : s.size ≤ 100 := by have := of_decide_eq_false hc; omega
  have o1 := uof_ok s (by omega)
  have o2 := rof_ok s (by omega)
  generalize ofP s = r at o1 o2
  obtain ⟨q, e⟩ := r
  (conv => whnf)
  refine callV_pure o1 ⟨.fr rfl, trivial⟩ ?_
  (conv => whnf)
  refine callV_pure o2 ⟨.fr rfl, trivial⟩ ?_
  (conv => whnf)
  refine callV_pure tp ⟨.fr rfl, trivial⟩ ?_
  (conv => whnf)
  refine callV_pure ot ⟨.fr rfl, trivial⟩ ?_
  cases hp : prefOk p with
  | false =>
    rw [hp] at rr
    (conv => whnf)
    refine callV_pure rr ⟨.fr rfl, trivial⟩ ?_
    (conv => whnf)
    refine callV_pure (num_ok 305) ⟨.int_of rfl, trivial⟩ ?_
    (conv => whnf)
    refine callV_pure rr ⟨.fr rfl, trivial⟩ ?_
    (conv => whnf)
    refine callV_pure tr ⟨.fr rfl, trivial⟩ ?_
    (conv => whnf)
    (split <;> first | (rename_i hh; exfalso; first | (simp at hh; done) | (simp at hh; omega)) | skip); (conv => whnf)
    refine eqlP q q ?_
    rw [decide_eq_true rfl]
    (conv => whnf)
    refine callV_pure (num_ok e) ⟨.int_of rfl, trivial⟩ ?_
    (conv => whnf)
    (split <;> first | (rename_i hh; exfalso; first | (simp at hh; done) | (simp at hh; omega)) | skip); (conv => whnf)
    refine callV_pure works20_ok trivial ?_
    (conv => whnf)
    exact (Ends.pure [] (by first | exact .ptr rfl (by omega) | exact .osl_of rfl (by omega) rfl | exact .fr rfl | exact LeL.fr rfl | exact .yld rfl (by omega) | exact .eptr rfl (by omega) | exact .osl0 | exact .snil_sl | exact .to_any) (by simp))
  | true =>
    rw [hp] at rr
    (conv => whnf)
    refine callV_pure rr ⟨.fr rfl, trivial⟩ ?_
    (conv => whnf)
    refine callV_pure (num_ok 0) ⟨.int_of rfl, trivial⟩ ?_
    (conv => whnf)
    refine callV_pure rr ⟨.fr rfl, trivial⟩ ?_
    (conv => whnf)
    refine neqP p p ?_
    rw [decide_eq_true rfl]
    (conv => whnf)
    refine callV_pure tr ⟨.fr rfl, trivial⟩ ?_
    (conv => whnf)
    (split <;> first | (rename_i hh; exfalso; first | (simp at hh; done) | (simp at hh; omega)) | skip); (conv => whnf)
    refine eqlP q q ?_
    rw [decide_eq_true rfl]
    (conv => whnf)
    refine callV_pure (num_ok e) ⟨.int_of rfl, trivial⟩ ?_
    (conv => whnf)
    (split <;> first | (rename_i hh; exfalso; first | (simp at hh; done) | (simp at hh; omega)) | skip); (conv => whnf)
    refine callV_pure works20_ok trivial ?_
    (conv => whnf)
    exact (Ends.pure [] (by first | exact .ptr rfl (by omega) | exact .osl_of rfl (by omega) rfl | exact .fr rfl | exact LeL.fr rfl | exact .yld rfl (by omega) | exact .eptr rfl (by omega) | exact .osl0 | exact .snil_sl | exact .to_any) (by simp))
theorem more_free (l : List Prefix) : ∀ x ∈ rowsP l ++ [cellsP ⟨77, 0⟩], ∀ v ∈ x, Free v := by
  intro x hx
  rcases List.mem_append.1 hx with hx | hx
  · exact rowsP_free l x hx
  · simp at hx; subst hx; exact cellsP_free _
set_option maxRecDepth 100000 in
set_option maxHeartbeats 4000000 in
theorem sorts20_ok (l : List Prefix) : PCon prog 5 [encPs false l] (.bool true) := by
  refine callV_of (fn := Go.Proofs.Tryz.f5) (body := _) tab_ok mixed rfl rfl (by decide) (by simp [Go.Proofs.Tryz.f5]) ?_
  (conv => whnf)
  intro _
  (conv => whnf)
  split
  · (conv => whnf)
    refine callV_pure works20_ok trivial ?_
    (conv => whnf)
    exact (Ends.pure [] (by first | exact .ptr rfl (by omega) | exact .osl_of rfl (by omega) rfl | exact .fr rfl | exact LeL.fr rfl | exact .yld rfl (by omega) | exact .eptr rfl (by omega) | exact .osl0 | exact .snil_sl | exact .to_any) (by simp))
  rename_i hc
  have hc : l.length ≤ 200 := by have := of_decide_eq_false hc; simp at this; omega
  have s1 := sort_ok false l (by omega)
  have s2 := refSort_ok false l (by omega)
  have e1 := refSames_ok true true (sortPs (dd l)) (sortPs (dd l))
  rw [decide_eq_true rfl] at e1
  have e2 := refSames_ok false false l l
  rw [decide_eq_true rfl] at e2
  generalize sortPs (dd l) = m at s1 s2 e1
  (conv => whnf)
  refine ⟨⟨rfl, rfl, rfl, rfl, by decide⟩, by simp, ⟨by simp [tab, tabOf, nth]; omega, by simp; omega⟩, ?_⟩
  (conv => whnf)
  refine ⟨rfl, by simp, ⟨rfl, rfl, rfl, rfl, by decide⟩, by simp, ⟨by simp [tab, tabOf, nth]; omega, by simp; omega⟩, ?_⟩
  (conv => whnf)
  intro _
  (conv => whnf)
  refine ⟨rfl, .lies, ⟨by simp, by simp, rfl, by simp; try omega⟩, by simp, ?_⟩
  (conv => whnf)
  have hR : (List.take (0 + (rowsP l).length) (List.take 0 [] ++ rowsP l) ++ List.take 1 (List.drop 0 [[V.int .u32 77, V.int .u8 0]])) = rowsP l ++ [cellsP ⟨77, 0⟩] := by simp [List.take_of_length_le, cellsP]
  rw [hR]
  have hfz : ∀ {h : Heap} {nx : Nat}, hget h 3 = some (.arr true false 24 2 (rowsP l ++ [cellsP ⟨77, 0⟩])) → LeV h nx id 0 [3] (.psl 3 2 0 (rowsP l).length) (encPs false l) := fun hb => .from .psl (LeV.fresh_off (LeV.freeze_of (by simp) hb (by simp) (more_free l) (by simp)))
  refine callV_lend [3] s1 ⟨hfz rfl, trivial⟩ (by intro v hv; obtain rfl := List.mem_singleton.1 hv; exact encPs_cold _) (one_none rfl) (encPs_fresh _) ?_
  (conv => whnf)
  refine callV_pure s2 ⟨.fr rfl, trivial⟩ ?_
  (conv => whnf)
  refine callV_pure e1 ⟨.fr rfl, .fr rfl, trivial⟩ ?_
  (conv => whnf)
  refine callV_lend [3] e2 ⟨hfz rfl, .fr rfl, trivial⟩ (by intro v hv; simp only [List.mem_cons, List.not_mem_nil, or_false] at hv; rcases hv with rfl | rfl <;> exact encPs_cold _) (one_none rfl) .bool ?_
  (conv => whnf)
  intro _
  (conv => whnf)
  have hw : IntKind.i64.wrap ((rowsP l).length + 1 : Int) = (l.length : Int) + 1 := by rw [List.length_map]; exact wrap64 (by omega) (by omega)
  refine ⟨rfl, rfl, by decide, ⟨trivial, by rw [hw]; omega, rfl, by rw [hw]; simp; try omega⟩, ?_⟩
  (conv => whnf)
  intro _
  (conv => whnf)
  refine ⟨rfl, ⟨by simp, by rw [hw]; simp; try omega⟩, ?_⟩
  (conv => whnf)
  refine ⟨rfl, cellsP ⟨77, 0⟩, by simp, ?_⟩
  (conv => whnf)
  refine callV_pure works20_ok trivial ?_
  (conv => whnf)
  exact (Ends.pure [] (by first | exact .ptr rfl (by omega) | exact .osl_of rfl (by omega) rfl | exact .fr rfl | exact LeL.fr rfl | exact .yld rfl (by omega) | exact .eptr rfl (by omega) | exact .osl0 | exact .snil_sl | exact .to_any) (by simp))
end Go.Proofs.YtehhligadnlijaaGreatDoor
