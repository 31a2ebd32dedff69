/- Joined: I20, I21, I22, N1, N2, I29, I30, I23, I24, I25, I26, I28, RP0. -/
import Derived.Test.YtfaglgoanmcifaaGreatK6
import Derived.Test.YtfaglgoanmcifaaGreatK3
import Derived.Test.YtfaglgoanmcifaaGreatK5
import Derived.Test.YtfaglgoanmcifaaGreatK4
import Derived.Test.YtfaglgoanmcifaaGreatK2
set_option linter.unusedVariables false
set_option linter.unusedSimpArgs false
namespace Go.Proofs.YtfaglgoanmcifaaGreat
open Go.RowKit
open Go.Proofs.Tryz (prog)
attribute [local irreducible] CallV RoundV aggK
set_option maxRecDepth 100000 in
theorem sortedN_ok (m : List (Prefix × Attrs)) (h0 : m = []) (hb : m.length ≤ 1000) : PCon prog 44 [.nilm] (encPs true (sortPs (keysE m))) := by
  refine callV_of (fn := Go.Proofs.Tryz.f44) (body := _) tab_ok mixed rfl rfl (by decide) (by simp [Go.Proofs.Tryz.f44]) ?_
  (conv => whnf)
  refine callV_of (fn := Go.Proofs.Tryz.f84) (body := _) tab_ok mixed rfl rfl (by decide) (by simp [Go.Proofs.Tryz.f84]) ?_
  (conv => whnf)
  refine ⟨_, _, _, Ends.here, ?_⟩
  (conv => whnf)
  refine callV_of (fn := Go.Proofs.Tryz.f83) (body := _) tab_ok mixed rfl rfl (by decide) (by simp [Go.Proofs.Tryz.f83]) ?_
  (conv => whnf)
  refine callV_of (fn := Go.Proofs.Tryz.f109) (body := _) tab_ok mixed rfl rfl (by decide) (by simp [Go.Proofs.Tryz.f109]) ?_
  (conv => whnf)
  refine callV_of (fn := Go.Proofs.Tryz.f157) (body := _) tab_ok mixed rfl rfl (by decide) (by simp [Go.Proofs.Tryz.f157]) ?_
  (conv => whnf)
  refine callV_loop [(2, .ptr 1 0)] ⟨rfl, trivial⟩ fun asg' body' hasg hbody => ?_
  refine callV_of (fn := Go.Proofs.Tryz.f111) (body := _) tab_ok mixed rfl rfl (by decide) (by simp [Go.Proofs.Tryz.f111]) ?_
  (conv => whnf)
  refine vcg_loop tab_ok mixed (fun p : {p : List Prefix × List (Prefix × Attrs) // (p.1 ++ keysE p.2).Perm (keysE m)} => ⟨[(0, .yld 2), (5, .ptr 3 0)], [(2, some (.loop 13 [(2, .ptr 1 0)] [7] asg' body' .ready none)), (1, some (.var true 22 [.osl 4 2 0 p.1.1.length])), (3, some (.iter none (esA p.1.2))), (4, some (.arr true false 53 2 (rowsP p.1.1)))], 5⟩) (fun p => p.1.2.length) ⟨([], m), by simp⟩ ?_ (fun p => ?_)
  · refine Wk.of id [] ⟨.yld rfl (by omega), .ptr rfl (by omega), trivial⟩ (LeH.of ⟨⟨by omega, .inl ⟨by simp, _, rfl, rfl, rfl, rfl, rfl, rfl, rfl, .ptr rfl (by omega), trivial⟩⟩, ⟨by omega, .inl ⟨by simp, _, rfl, id, rfl, .osl0, trivial⟩⟩, ⟨by omega, .inl ⟨by simp, _, rfl, LeB.iter (by subst h0; rfl) (by simp)⟩⟩, ⟨by omega, .inr ⟨by simp, _, _, _, _, rfl⟩⟩, trivial⟩ (fun _ _ _ _ h => h) (fun _ _ => rfl) (by omega) (by simp))
  obtain ⟨⟨xs, rest⟩, hp⟩ := p
  (conv => whnf)
  refine ⟨fun h0 => ?_, fun k kv hk => ?_⟩
  · have h0 : rest = [] := by simpa [esA] using h0
    subst h0
    rw [show keysE ([] : List (Prefix × Attrs)) = [] from rfl, List.append_nil] at hp
    (conv => whnf)
    refine ⟨_, _, _, Ends.here, ?_⟩
    (conv => whnf)
    refine ⟨_, _, _, Ends.here, ?_⟩
    (conv => whnf)
    refine ⟨_, _, _, Ends.here, ?_⟩
    (conv => whnf)
    have hxl : xs.length ≤ 1000 := by
      have h1 : xs.length = (keysE m).length := hp.length_eq
      have h2 : (keysE m).length = m.length := by simp [keysE]
      omega
    refine callV_frame (nx := 5) (n0 := 1) (renOf [(0, 4)]) (sortF_ok true false xs (by omega)) (by repeat' (first | exact True.intro | exact .osl_of rfl (by omega) rfl | exact .free (.fn (by simp) (by simp)) | exact LeB.arrE rfl (rowsP_free _) id id | exact .A | exact LeL.fr rfl | refine ⟨?_, ?_⟩)) (LeH.of (by repeat' (first | exact True.intro | exact id | exact rfl | decide | exact Nat.le_of_ble_eq_true rfl | exact .osl_of rfl (by omega) rfl | exact .free (.fn (by simp) (by simp)) | exact LeB.arrE rfl (rowsP_free _) id id | exact .A | exact LeL.fr rfl | exact LeB.fr rfl id id | exact LeB.fr (by simp; done) id id | refine Or.inl ⟨by simp, _, rfl, ?_⟩ | exact Or.inr ⟨by simp, _, _, _, _, rfl⟩ | refine ⟨rfl, rfl, rfl, rfl, rfl, rfl, ?_⟩ | refine ⟨?_, ?_⟩)) (show ∀ b ∈ ([0] : List Nat), ∀ b' ∈ ([0] : List Nat), (renOf [(0, 4)]) b = (renOf [(0, 4)]) b' → b = b' by decide) (fun _ h => by omega) (by omega) (by simp)) (fun b hb => by match b, hb with | 0, _ => exact ne_none_of rfl) (by decide) ?_
    rintro v h' nx' ⟨rfl, rfl, rfl⟩ _
    refine ⟨.tup [], [(4, some (.arr true false 53 2 (rowsP (sortPs xs))))], .free (.tup (by simp)), (by repeat' (first | exact True.intro | exact Or.inr ⟨by decide, rfl⟩ | exact Or.inl ⟨0, rfl, by omega, _, rfl, RenB.arr (rowsP_free _)⟩ | refine ⟨?_, ?_⟩)), ?_⟩
    (conv => whnf)
    refine ⟨_, _, _, Ends.here, ?_⟩
    (conv => whnf)
    have hs : sortPs xs = sortPs (keysE m) := sortPs_perm (by simpa using hp)
    exact Ends.pure [4] (LeV.freeze_of (by simp) rfl (by simp [sortPs_len]) (rowsP_free _) (by rw [hs]; exact List.take_of_length_le (by simp [sortPs_len, ← hs]))) (one_none rfl)
  · obtain ⟨p, hpk, rfl⟩ : ∃ p, rest[k]? = some p ∧ kv = (encP p.1, encA false p.2) := by
      simp only [esA, List.getElem?_map, Option.map_eq_some_iff] at hk
      obtain ⟨p, h1, h2⟩ := hk
      exact ⟨p, h1, h2.symm⟩
    (conv => whnf)
    subst hasg hbody
    refine roundV_of tab_ok mixed rfl (by simp) (show 2 < 6 by omega) ?_
    (conv => whnf)
    have hlen : xs.length + 1 ≤ 1000 := by
      have h1 := hp.length_eq
      have h2 : (keysE m).length = m.length := by simp [keysE]
      have h3 : k < rest.length := (List.getElem?_eq_some_iff.1 hpk).1
      simp only [List.length_append, keysE, List.length_map] at h1 h2
      omega
    refine ⟨rfl, by first | rfl | (simp; done), by first | rfl | (simp; done), ⟨rfl, rfl, rfl, rfl, by decide⟩, by simp [rowsP], ⟨by simp [tab, tabOf, nth]; omega, by simp; omega⟩, ?_⟩
    (conv => whnf)
    refine ⟨rfl, ?_⟩
    (conv => whnf)
    have hperm : ((xs ++ [p.1]) ++ keysE (rest.eraseIdx k)).Perm (keysE m) := by
        have h1 : (keysE rest)[k]? = some p.1 := by simp [keysE, hpk]
        have h2 : keysE (rest.eraseIdx k) = (keysE rest).eraseIdx k := keys_erase rest k
        rw [h2]
        exact (perm_step h1).trans hp
    refine ⟨⟨(xs ++ [p.1], rest.eraseIdx k), hperm⟩, Wk.of (renOf [(4, 8)]) [] ⟨.yld rfl (by omega), .ptr rfl (by omega), trivial⟩ (LeH.of ⟨⟨by omega, .inl ⟨by simp, _, rfl, rfl, rfl, rfl, rfl, rfl, rfl, .ptr rfl (by omega), trivial⟩⟩, ⟨by omega, .inl ⟨by simp, _, rfl, id, rfl, .osl_of rfl (by omega) (by simp), trivial⟩⟩, ⟨by omega, .inl ⟨by simp, _, rfl, LeB.iter (esA_erase rest k) (fun kv h => esA_free _ kv (List.mem_of_mem_eraseIdx h))⟩⟩, ⟨by omega, .inl ⟨by simp, _, rfl, LeB.arrE (by simp [rowsP]; exact ⟨List.take_of_length_le (by simp), rfl⟩) (fun x hx v hv => by
      rcases List.mem_append.1 hx with h | h
      · exact rowsP_free xs x (List.mem_of_mem_take h) v hv
      · simp at h; subst h; simp at hv; rcases hv with rfl | rfl <;> exact .int) id id⟩⟩, trivial⟩ (show ∀ b ∈ ([2, 1, 3, 4] : List Nat), ∀ b' ∈ ([2, 1, 3, 4] : List Nat), renOf [(4, 8)] b = renOf [(4, 8)] b' → b = b' by decide) (show ∀ b, b < 3 → renOf [(4, 8)] b = b by decide) (by omega) (by simp)), ?_⟩
    show (rest.eraseIdx k).length < rest.length
    have := (List.getElem?_eq_some_iff.1 hpk).1
    rw [List.length_eraseIdx]
    split <;> omega
set_option maxRecDepth 100000 in
set_option maxHeartbeats 4000000 in
theorem all24_ok (own : UInt32) (pe : Peer) (pol : Policy) (m : List (Prefix × Attrs)) : InC 15 [.ptr 0 0] (cellsIn own pe pol m) (cellsIn own pe pol m) (· = .fn (.func 43) [] [.iptr true [.imap false (esA m)]]) := by
  unfold InC
  refine callV_of (fn := Go.Proofs.Tryz.f15) (body := _) tab_ok mixed rfl rfl (by decide) (by simp [Go.Proofs.Tryz.f15]) ?_
  (conv => whnf)
  refine callV_in (none_ok own pe pol m) rfl (cellsIn_free _ _ _ _) (cellsIn_free _ _ _ _) ⟨.ptr rfl (by omega), trivial⟩ ?_
  rintro v rfl
  refine ⟨.bool, ?_⟩
  show _
  (conv => whnf)
  refine callV_pure (cloneA_pure false false (esA m)) ⟨.fr rfl, trivial⟩ ?_
  (conv => whnf)
  exact ⟨.fn (.func 43) [] [.iptr true [.imap false (esA m)]], [(0, some (.var true 99 (cellsIn own pe pol m)))], 1, (Ends.all id [1] (by repeat' (first | exact True.intro | exact id | exact rfl | decide | exact Nat.le_of_ble_eq_true rfl | exact LeL.freeV (cellsIn_free own pe pol m) | exact .fnL trivial ⟨LeV.freezeP (by simp) rfl (by intro v hv; simp at hv; subst hv; exact imapA_free m), trivial⟩ | exact .A | exact LeL.fr rfl | exact LeB.fr rfl id id | exact LeB.fr (by simp; done) id id | refine Or.inl ⟨by simp, _, rfl, ?_⟩ | exact Or.inr ⟨by simp, _, _, _, _, rfl⟩ | refine ⟨rfl, rfl, rfl, rfl, rfl, rfl, ?_⟩ | refine ⟨?_, ?_⟩)) (fun _ _ _ _ h => h) (fun _ _ => rfl) (by omega) (by intro z hz; simp only [List.mem_cons, List.not_mem_nil, or_false] at hz; rcases hz with rfl <;> exact ne_none_of rfl)), rfl, rfl, rfl⟩
set_option maxRecDepth 100000 in
set_option maxHeartbeats 4000000 in
theorem all24_nil : PCon prog 15 [.nilp] (.fn (.func 43) [] [.iptr true [.nilm]]) := by
  refine callV_of (fn := Go.Proofs.Tryz.f15) (body := _) tab_ok mixed rfl rfl (by decide) (by simp [Go.Proofs.Tryz.f15]) ?_
  (conv => whnf)
  refine callV_pure none_nil ⟨.fr rfl, trivial⟩ ?_
  (conv => whnf)
  exact (Ends.pure [0] (by first | exact .fnL trivial ⟨LeV.freezeP (by simp) rfl (by intro v hv; simp at hv; subst hv; exact .nilm), trivial⟩ | exact .A | exact LeL.fr rfl | (refine .tupL ?_; repeat' (first | exact True.intro | exact .fnL trivial ⟨LeV.freezeP (by simp) rfl (by intro v hv; simp at hv; subst hv; exact .nilm), trivial⟩ | exact .A | exact LeL.fr rfl | refine .aggL ?_ | refine ⟨?_, ?_⟩)) | (refine .aggL ?_; repeat' (first | exact True.intro | exact .fnL trivial ⟨LeV.freezeP (by simp) rfl (by intro v hv; simp at hv; subst hv; exact .nilm), trivial⟩ | exact .A | exact LeL.fr rfl | refine ⟨?_, ?_⟩))) (by intro z hz; simp only [List.mem_cons, List.not_mem_nil, or_false] at hz; rcases hz with rfl <;> exact ne_none_of rfl))
end Go.Proofs.YtfaglgoanmcifaaGreat
namespace Go.Proofs.YtfaglgoanmcifaaGreat
open Go.RowKit
open Go.Proofs.Tryz (prog)
attribute [local irreducible] CallV RoundV aggK
structure RelR (own : UInt32) (pe : Peer) (pol : Policy) (m : List (Prefix × Attrs)) (r : RibS) : Prop where
  eown : r.own = own
  epeer : r.peer = pe
  epol : r.pol = pol
  perm : r.said.Perm m
  ris : RisE r.said
  ok : okM own pe pol m
theorem RelR.keys {own : UInt32} {pe : Peer} {pol : Policy} {m : List (Prefix × Attrs)} {r : RibS} (h : RelR own pe pol m r) : sortPs (keysE m) = keysE r.said := by
  have h1 : (keysE m).Perm (keysE r.said) := (h.perm.map _).symm
  rw [sortPs_perm h1]
  exact sorted_eq (List.mergeSort_perm _ _) (sortPs_sorted (keysE r.said)) (List.Pairwise.imp (fun h => Nat.le_of_lt h) h.ris)
theorem RelR.get {own : UInt32} {pe : Peer} {pol : Policy} {m : List (Prefix × Attrs)} {r : RibS} (h : RelR own pe pol m r) {i : Nat} (hi : i < r.said.length) : getE m r.said[i].1 = some r.said[i].2 := by
  have hn : NodE m := h.ok.1
  exact mem_getE hn (h.perm.mem_iff.1 (List.getElem_mem hi))
theorem RelR.len {own : UInt32} {pe : Peer} {pol : Policy} {m : List (Prefix × Attrs)} {r : RibS} (h : RelR own pe pol m r) : r.said.length = m.length := h.perm.length_eq
theorem RelR.count {own : UInt32} {pe : Peer} {pol : Policy} {m : List (Prefix × Attrs)} {r : RibS} (h : RelR own pe pol m r) (p : Prefix) : countR r p = (getE m p).bind (cnt own pe pol p) := by
  rw [countR, h.eown, h.epeer, h.epol, getE_perm h.ris.nod h.perm]
theorem RelR.small {own : UInt32} {pe : Peer} {pol : Policy} {m : List (Prefix × Attrs)} {r : RibS} (h : RelR own pe pol m r) : smallS r := ⟨by rw [h.len]; have := h.ok.2.1; omega, fun e he => (h.ok.2.2 e (h.perm.mem_iff.1 he)).1⟩
theorem rtV_free (fr : Bool) (p : Prefix) (pe : Peer) (o : Option Attrs) : Free (rtV fr p pe o) := by
  cases o <;> exact .tup (by simp; exact ⟨encRt_free _ _, .bool⟩)
set_option maxRecDepth 100000 in
set_option maxHeartbeats 8000000 in
theorem is_ok {own : UInt32} {pe : Peer} {pol : Policy} {m : List (Prefix × Attrs)} {r : RibS} (hr : RelR own pe pol m r) : InC 20 [.ptr 0 0, encS24 false r] (cellsIn own pe pol m) (cellsIn own pe pol m) (· = .bool true) := by
  have hso := sortedA_ok m (by have := hr.ok.2.1; omega)
  rw [hr.keys] at hso
  have hlm := hr.len
  have hm4 := hr.ok.2.1
  unfold InC
  refine callV_of (fn := Go.Proofs.Tryz.f20) (body := _) tab_ok mixed rfl rfl (by decide) (by simp [Go.Proofs.Tryz.f20]) ?_
  (conv => whnf)
  refine callV_in (all24_ok own pe pol m) rfl (cellsIn_free _ _ _ _) (cellsIn_free _ _ _ _) ⟨.ptr rfl (by omega), trivial⟩ ?_
  rintro v rfl
  refine ⟨.fn (by simp) (by intro v hv; simp at hv; subst hv; exact .iptr (by intro v hv; simp at hv; subst hv; exact imapA_free m)), ?_⟩
  show _
  (conv => whnf)
  refine callV_loop [(2, .ptr 1 0), (3, .ptr 2 0), (4, .ptr 3 0), (5, .ptr 4 0)] ⟨rfl, rfl, rfl, rfl, trivial⟩ fun asg' body' hasg hbody => ?_
  refine callV_of (fn := Go.Proofs.Tryz.f43) (body := _) tab_ok mixed rfl rfl (by decide) (by simp [Go.Proofs.Tryz.f43]) ?_
  (conv => whnf)
  refine callV_pure hso ⟨.fr rfl, trivial⟩ ?_
  (conv => whnf)
  intro hgl
  have hgl : (keysE r.said).length ≤ maxLen := by simpa [gd] using hgl
  (conv => whnf)
  refine vcg_loop tab_ok mixed (fun i : {i : Nat // i ≤ (keysE r.said).length} => ⟨[(0, .yld 5), (1, .iptr true [.imap false (esA m)]), (6, encPs true (keysE r.said)), (7, cI (keysE r.said).length), (8, cI i.1)], [(5, some (.loop 108 [(2, .ptr 1 0), (3, .ptr 2 0), (4, .ptr 3 0), (5, .ptr 4 0)] [16, 17] asg' body' .ready none)), (0, some (.var true 99 (cellsIn own pe pol m))), (1, some (.var true 41 [.ptr 0 0])), (2, some (.var true 61 (cellsS false r))), (3, some (.var true 4 [.bool false])), (4, some (.var true 3 [cI i.1]))], 6⟩) (fun i => (keysE r.said).length - i.1) ⟨0, by omega⟩ (Wk.i (by repeat' (first | exact True.intro | exact id | exact rfl | decide | exact Nat.le_of_ble_eq_true rfl | exact LeL.freeV (cellsIn_free own pe pol m) | exact LeL.freeV (cellsS_free false r) | exact .int_of (by simp) | exact .free (.iptr (by intro v hv; simp at hv; subst hv; exact imapA_free m)) | exact .A | exact LeL.fr rfl | exact LeB.fr rfl id id | exact LeB.fr (by simp; done) id id | refine Or.inl ⟨by simp, _, rfl, ?_⟩ | exact Or.inr ⟨by simp, _, _, _, _, rfl⟩ | refine ⟨rfl, rfl, rfl, rfl, rfl, rfl, ?_⟩ | refine ⟨?_, ?_⟩)) (by omega)) (fun i => ?_)
  obtain ⟨i, hi⟩ := i
  (conv => whnf)
  split
  · rename_i hc
    have hc : i < (keysE r.said).length := by simpa using hc
    have hcl : i < r.said.length := by simpa [keysE] using hc
    have hkey : (keysE r.said)[i] = r.said[i].1 := by simp [keysE]
    have hget := hr.get hcl
    have hsm : smallA r.said[i].2 := hr.small.2 _ (List.getElem_mem hcl)
    have sm := ref_same_ok true false r.said[i].2 r.said[i].2
    rw [sameA_refl] at sm
    have st := ref_same_ok true true r.said[i].2 r.said[i].2
    rw [sameA_refl] at st
    have hcn := counts24_ok hr.ok r.said[i].1
    have hcr := rCounts_ok r r.said[i].1 hr.small
    rw [hr.epeer] at hcr
    rw [hr.count] at hcr
    have hsd := said24_ok hr.ok r.said[i].1
    rw [hget] at hsd
    have hcp := copy_pure false r.said[i].2 hsm.1 hsm.2.1 hsm.2.2
    (conv => whnf)
    refine ⟨rfl, _, ⟨by first | omega | (simp only; omega), idxP hc⟩, ?_⟩
    rw [hkey]
    (conv => whnf)
    refine ⟨esA_keys _, keyP _, some (encA false r.said[i].2), look_some hget, ?_⟩
    (conv => whnf)
    refine ⟨_, [], fun h nx _ => pureV_pure hcp ⟨.fr rfl, trivial⟩, by simp, ?_⟩
    (conv => whnf)
    refine ⟨by kernel_rfl, ?_⟩
    (conv => whnf)
    refine roundV_eq tab_ok mixed hasg hbody rfl (by simp) (show 5 < 7 by omega) ?_
    (conv => whnf)
    refine ⟨rfl, ?_⟩
    (conv => whnf)
    split
    case' h_1 hh => exfalso; simp at hh; omega
    (conv => whnf)
    refine ⟨rfl, _, ⟨by first | omega | (simp only; omega), idxEn hcl⟩, ?_⟩
    (conv => whnf)
    refine neqP r.said[i].1 r.said[i].1 ?_
    rw [show (!decide (r.said[i].1 = r.said[i].1)) = false by simp]
    (conv => whnf)
    refine ⟨rfl, _, ⟨by first | omega | (simp only; omega), idxEn hcl⟩, ?_⟩
    (conv => whnf)
    refine ⟨_, [], fun h nx _ => pureV_pure sm ⟨.fr rfl, .fr rfl, trivial⟩, by simp, ?_⟩
    (conv => whnf)
    refine ⟨by kernel_rfl, ?_⟩
    (conv => whnf)
    refine callV_in hcn rfl (cellsIn_free _ _ _ _) (cellsIn_free _ _ _ _) ⟨.ptr rfl (by omega), .fr rfl, trivial⟩ ?_
    rintro v rfl
    refine ⟨rtV_free _ _ _ _, ?_⟩
    show _
    (conv => whnf)
    generalize (getE m r.said[i].1).bind (cnt own pe pol r.said[i].1) = o at hcr ⊢
    cases o with
    | none =>
      have sn := ref_same_ok true false noA noA
      rw [sameA_refl] at sn
      (conv => whnf)
      refine callV_pure hcr ⟨.fr rfl, .fr rfl, trivial⟩ ?_
      (conv => whnf)
      refine neqP noRt.pfx noRt.pfx ?_
      rw [show (!decide (noRt.pfx = noRt.pfx)) = false by simp]
      (conv => whnf)
      refine neqPe noRt.peer noRt.peer ?_
      rw [show (!decide (noRt.peer = noRt.peer)) = false by simp]
      (conv => whnf)
      refine callV_pure sn ⟨.fr rfl, .fr rfl, trivial⟩ ?_
      (conv => whnf)
      refine callV_in hsd rfl (cellsIn_free _ _ _ _) (cellsIn_free _ _ _ _) ⟨.ptr rfl (by omega), .fr rfl, trivial⟩ ?_
      rintro v rfl
      refine ⟨.tup (by simp; exact ⟨encA_free _ _, .bool⟩), ?_⟩
      show _
      (conv => whnf)
      refine callV_pure st ⟨.fr rfl, .fr rfl, trivial⟩ ?_
      (conv => whnf)
      refine ⟨rfl, ?_⟩
      (conv => whnf)
      exact ⟨⟨i + 1, by omega⟩, (Wk.i (by repeat' (first | exact True.intro | exact id | exact rfl | decide | exact Nat.le_of_ble_eq_true rfl | exact LeL.freeV (cellsIn_free own pe pol m) | exact LeL.freeV (cellsS_free false r) | exact .int_of (wrap64_succ hc hgl) | exact .free (.iptr (by intro v hv; simp at hv; subst hv; exact imapA_free m)) | exact .A | exact LeL.fr rfl | exact LeB.fr rfl id id | exact LeB.fr (by simp; done) id id | refine Or.inl ⟨by simp, _, rfl, ?_⟩ | exact Or.inr ⟨by simp, _, _, _, _, rfl⟩ | refine ⟨rfl, rfl, rfl, rfl, rfl, rfl, ?_⟩ | refine ⟨?_, ?_⟩)) (by omega)), by simp only; omega⟩
    | some b =>
      have sn := ref_same_ok true false b b
      rw [sameA_refl] at sn
      (conv => whnf)
      refine callV_pure hcr ⟨.fr rfl, .fr rfl, trivial⟩ ?_
      (conv => whnf)
      refine neqP r.said[i].1 r.said[i].1 ?_
      rw [show (!decide (r.said[i].1 = r.said[i].1)) = false by simp]
      (conv => whnf)
      refine neqPe pe pe ?_
      rw [show (!decide (pe = pe)) = false by simp]
      (conv => whnf)
      refine callV_pure sn ⟨.fr rfl, .fr rfl, trivial⟩ ?_
      (conv => whnf)
      refine callV_in hsd rfl (cellsIn_free _ _ _ _) (cellsIn_free _ _ _ _) ⟨.ptr rfl (by omega), .fr rfl, trivial⟩ ?_
      rintro v rfl
      refine ⟨.tup (by simp; exact ⟨encA_free _ _, .bool⟩), ?_⟩
      show _
      (conv => whnf)
      refine callV_pure st ⟨.fr rfl, .fr rfl, trivial⟩ ?_
      (conv => whnf)
      refine ⟨rfl, ?_⟩
      (conv => whnf)
      exact ⟨⟨i + 1, by omega⟩, (Wk.i (by repeat' (first | exact True.intro | exact id | exact rfl | decide | exact Nat.le_of_ble_eq_true rfl | exact LeL.freeV (cellsIn_free own pe pol m) | exact LeL.freeV (cellsS_free false r) | exact .int_of (wrap64_succ hc hgl) | exact .free (.iptr (by intro v hv; simp at hv; subst hv; exact imapA_free m)) | exact .A | exact LeL.fr rfl | exact LeB.fr rfl id id | exact LeB.fr (by simp; done) id id | refine Or.inl ⟨by simp, _, rfl, ?_⟩ | exact Or.inr ⟨by simp, _, _, _, _, rfl⟩ | refine ⟨rfl, rfl, rfl, rfl, rfl, rfl, ?_⟩ | refine ⟨?_, ?_⟩)) (by omega)), by simp only; omega⟩
  rename_i hc
  have hc : i = (keysE r.said).length := by simp at hc; omega
  subst hc
  (conv => whnf)
  refine ⟨_, _, _, Ends.here, ?_⟩
  (conv => whnf)
  split
  case' h_2 hh => exfalso; simp [keysE] at hh
  (conv => whnf)
  refine ⟨_, [(0, some (.var true 99 (cellsIn own pe pol m)))], fun h nx hrd => pureV_var (len24_ok own pe pol m) .int (hrd 0 _ (by simp)) (cellsIn_free own pe pol m) ⟨.ptr rfl (by omega), trivial⟩, by intro b ob hb; simp at hb; obtain ⟨rfl, rfl⟩ := hb; rfl, ?_⟩
  (conv => whnf)
  refine ⟨by kernel_rfl, ?_⟩
  (conv => whnf)
  exact ⟨.bool true, [(0, some (.var true 99 (cellsIn own pe pol m)))], 1, (Ends.all id [] (by repeat' (first | exact True.intro | exact id | exact rfl | decide | exact Nat.le_of_ble_eq_true rfl | exact LeL.freeV (cellsIn_free own pe pol m) | exact .bool_of (by simp [keysE, hlm]) | exact .A | exact LeL.fr rfl | exact LeB.fr rfl id id | exact LeB.fr (by simp; done) id id | refine Or.inl ⟨by simp, _, rfl, ?_⟩ | exact Or.inr ⟨by simp, _, _, _, _, rfl⟩ | refine ⟨rfl, rfl, rfl, rfl, rfl, rfl, ?_⟩ | refine ⟨?_, ?_⟩)) (fun _ _ _ _ h => h) (fun _ _ => rfl) (by omega) (by simp)), rfl, rfl, rfl⟩
end Go.Proofs.YtfaglgoanmcifaaGreat
namespace Go.Proofs.YtfaglgoanmcifaaGreat
open Go.RowKit
open Go.Proofs.Tryz (prog)
theorem right_small {a : Attrs} (h : rightA a = true) : smallA a := by
  simp only [rightA, Bool.and_eq_true, decide_eq_true_eq] at h
  obtain ⟨⟨⟨⟨⟨⟨_, h1⟩, _⟩, _⟩, _⟩, h2⟩, _⟩ := h
  simp only [pathOk, Bool.and_eq_true, decide_eq_true_eq, List.all_eq_true] at h1
  refine ⟨by omega, fun p hp => ?_, by omega⟩
  have := h1.2 p hp
  simp only [legOk, Bool.and_eq_true, decide_eq_true_eq] at this
  have := this.1.1.2
  omega
theorem byE_zero24 {p : Policy} {own : UInt32} {to : Prefix} {a : Attrs} (h : byE p own to a = 0) : rightA a = true := by
  unfold byE at h
  split at h
  · cases h
  · rename_i hh
    simp only [not_or] at hh
    simpa using hh.2.2.1
theorem by_right24 {p : Policy} {own : UInt32} {to : Prefix} {a : Attrs} (h : byE p own to a = 0) (hok : byOk p own to a = true) : rightA (byA p own to a) = true := by
  have h3 := byE_zero24 h
  unfold byA
  unfold byOk at hok
  cases hf : p.rules.find? (fun r => fits r to a) with
  | none =>
    rw [hf] at hok
    simp only at hok ⊢
    rw [if_pos hok]
    exact h3
  | some r =>
    rw [hf] at hok
    simp only at hok ⊢
    rw [if_pos hok]
    simp only [passR, Bool.and_eq_true, decide_eq_true_eq] at hok
    have hd := hok.2
    unfold doneE at hd
    exact (prep_fine hd).2.2.2.1
theorem cnt_small {own : UInt32} {pe : Peer} {pol : Policy} {p : Prefix} {a b : Attrs} (h : cnt own pe pol p a = some b) : smallA b := by
  rw [ctR_cnt] at h
  split at h
  · rename_i hc
    cases h
    unfold ctR at hc ⊢
    split at hc
    · cases hc
    · split at hc
      · cases hc
      · rename_i h1 h2
        rw [if_neg h1, if_neg h2]
        unfold byR at hc ⊢
        split at hc
        · cases hc
        · rename_i h3
          rw [if_neg h3]
          exact right_small (by_right24 (by simpa using h3) hc)
  · cases h
theorem okM_of {own : UInt32} {pe : Peer} {pol : Policy} {m : List (Prefix × Attrs)} (hn : NodE m) (hl : m.length ≤ 400) (hs : ∀ e ∈ m, smallA e.2) : okM own pe pol m := ⟨hn, hl, fun e he => ⟨hs e he, fun b hb => cnt_small hb⟩⟩
theorem okM_nil (own : UInt32) (pe : Peer) (pol : Policy) : okM own pe pol [] := okM_of (by simp [NodE, keysE]) (by simp) (by simp)
theorem take_small {P : Attrs → Prop} {l : List (Prefix × Attrs)} {g new : List Prefix} {a : Attrs} (h : ∀ e ∈ l, P e.2) (ha : P a) : ∀ e ∈ takeM l g new a, P e.2 := by
  have hd : ∀ (g : List Prefix) (l : List (Prefix × Attrs)), (∀ e ∈ l, P e.2) → ∀ e ∈ delsM l g, P e.2 := by
    intro g
    induction g with
    | nil => intro l h; exact h
    | cons x g ih => intro l h; exact ih _ fun e he => h e (List.mem_filter.1 he).1
  have hp : ∀ (g : List Prefix) (l : List (Prefix × Attrs)), (∀ e ∈ l, P e.2) → ∀ e ∈ putsM l g a, P e.2 := by
    intro g
    induction g with
    | nil => intro l h; exact h
    | cons x g ih =>
      intro l h
      refine ih _ fun e he => ?_
      have he : e ∈ putE l x a := he
      by_cases hk : x ∈ keysE l
      · rw [putE, if_pos hk] at he
        obtain ⟨e', he', rfl⟩ := List.mem_map.1 he
        show P (if e'.1 = x then (x, a) else e').2
        by_cases hx : e'.1 = x
        · rw [if_pos hx]; exact ha
        · rw [if_neg hx]; exact h e' he'
      · rw [putE, if_neg hk] at he
        rcases List.mem_append.1 he with he | he
        · exact h e he
        · obtain rfl := List.mem_singleton.1 he
          exact ha
  exact hp new _ (hd g l h)
theorem RelR.take {own : UInt32} {pe : Peer} {pol : Policy} {m : List (Prefix × Attrs)} {r : RibS} (h : RelR own pe pol m r) {u : Upd} (hu : checkU u = 0) (ha : smallA u.attrs) (hl : ¬ 64 < (newR r u).said.length) : RelR own pe pol (takeM m u.gone u.new u.attrs) (newR r u) := by
  have hm : mayU u = true := by
    unfold checkU at hu
    split at hu
    · assumption
    · cases hu
  obtain ⟨_, h2, _, _⟩ := mayU_out hm
  have hnd : u.new.Nodup := nodup_of_strict (strict_of_rise (riseP_iff.1 h2))
  have hp : (takeM m u.gone u.new u.attrs).Perm (newR r u).said := take_perm h.ris h.perm.symm hnd
  obtain ⟨hris, _⟩ := takeS_ok (gone := u.gone) (a := u.attrs) h.ris hnd
  exact ⟨h.eown, h.epeer, h.epol, hp.symm, hris, okM_of (nod_take h.ok.1) (by rw [hp.length_eq]; omega) (take_small (fun e he => (h.ok.2.2 e he).1) ha)⟩
theorem RelR.clear {own : UInt32} {pe : Peer} {pol : Policy} {m : List (Prefix × Attrs)} {r : RibS} (h : RelR own pe pol m r) : RelR own pe pol [] { r with said := [] } :=
  ⟨h.eown, h.epeer, h.epol, .refl _, by simp [RisE, keysE], okM_nil _ _ _⟩
theorem RelR.new {own : UInt32} {pe : Peer} {pol : Policy} (h : newOk own pe pol = true) : RelR own pe pol [] (newS own pe pol) := by
  rw [newS, if_pos h]
  exact ⟨rfl, rfl, rfl, .refl _, by simp [RisE, keysE], okM_nil _ _ _⟩
end Go.Proofs.YtfaglgoanmcifaaGreat
namespace Go.Proofs.YtfaglgoanmcifaaGreat
open Go.RowKit
def Kin (u0 u1 : Value) : Prop := (∃ x y : UInt32, u0 = .int .u32 x.toNat ∧ u1 = .int .u32 y.toNat) ∨ ∃ b c, u0 = .bool b ∧ u1 = .bool c
theorem Kin.one {u0 u1 : Value} (h : Kin u0 u1) : u1.oneCell' = true := by
  rcases h with ⟨x, y, _, rfl⟩ | ⟨b, c, _, rfl⟩ <;> rfl
section
variable {G : Gh} {w w' : World} {ad : Addr} {u0 u1 : Value}
def Alike (p q : List Leg) : Prop := p.map (·.ns.length) = q.map (·.ns.length)
theorem Alike.length {p q : List Leg} (h : Alike p q) : p.length = q.length := by simpa [Alike] using congrArg List.length h
theorem Alike.at {p q : List Leg} (h : Alike p q) {i : Nat} (h1 : i < p.length) (h2 : i < q.length) : p[i].ns.length = q[i].ns.length := by
  have : (p.map (·.ns.length))[i]? = (q.map (·.ns.length))[i]? := by rw [h]
  simpa [h1, h2] using this
end
end Go.Proofs.YtfaglgoanmcifaaGreat
namespace Go.Proofs.YtfaglgoanmcifaaGreat
open Go.RowKit
open Go.Proofs.Tryz (prog)
attribute [local irreducible] CallV RoundV VC VH
structure Shp (a x : Attrs) : Prop where
  legs : Alike x.path a.path
  tags : x.tags.length = a.tags.length
theorem Shp.refl (a : Attrs) : Shp a a := ⟨rfl, rfl⟩
def Bare (s : St) : List (Nat × V) → Prop
  | [] => True
  | (i, v) :: r => (Scalar v ∧ s.get i = v) ∧ Bare s r
theorem Bare.out {s : St} : ∀ {t : List (Nat × V)}, Bare s t → ∀ i, look t i = .any ∨ (Scalar (look t i) ∧ s.get i = look t i)
  | [], _, i => .inl rfl
  | (j, v) :: r, h, i => by
    have e : look ((j, v) :: r) i = if j = i then v else look r i := by
      have := get_put r [] [] 0 0 j v i
      simpa [St.get] using this
    rw [e]
    by_cases hij : j = i
    · subst hij; rw [if_pos rfl]; exact .inr h.1
    · rw [if_neg hij]; exact Bare.out h.2 i
theorem Kin.u32 {G : Gh} {w : World} {n : Nat} {m : Int} {u0 u1 : Value} (hn : n < 2 ^ 32) (hm : 0 ≤ m ∧ m < 2 ^ 32) (h0 : vr G w (.int .u32 n) u0) (h1 : vr G w (.int .u32 m) u1) : Kin u0 u1 := by
  left
  refine ⟨UInt32.ofNat n, UInt32.ofNat m.toNat, ?_, ?_⟩
  · rw [VR.int_iff.1 h0, UInt32.toNat_ofNat_of_lt' (by simpa [UInt32.size] using hn)]
  · rw [VR.int_iff.1 h1, UInt32.toNat_ofNat_of_lt' (by simp [UInt32.size]; omega)]
    congr 1; omega
theorem Kin.bool {G : Gh} {w : World} {b c : Bool} {u0 u1 : Value} (h0 : vr G w (.bool b) u0) (h1 : vr G w (.bool c) u1) : Kin u0 u1 := .inr ⟨b, c, VR.bool_iff.1 h0, VR.bool_iff.1 h1⟩
theorem Shp.trans {a b c : Attrs} (h : Shp a b) (k : Shp b c) : Shp a c := ⟨k.legs.trans h.legs, k.tags.trans h.tags⟩
end Go.Proofs.YtfaglgoanmcifaaGreat
namespace Go.Proofs.YtfaglgoanmcifaaGreat
open Go.RowKit
section
variable {G : Gh} {w w' : World} {ad : Addr} {u0 u1 : Value}
structure ShC (y x : Change) : Prop where
  legs : Alike y.attrs.path x.attrs.path
  tags : y.attrs.tags.length = x.attrs.tags.length
end
end Go.Proofs.YtfaglgoanmcifaaGreat
namespace Go.Proofs.YtfaglgoanmcifaaGreat
open Go.RowKit
open Go.Proofs.Tryz (prog)
attribute [local irreducible] CallV RoundV VC VH
def ShL (l x : List Change) : Prop := x.length = l.length ∧ ∀ i (h1 : i < x.length) (h2 : i < l.length), ShC x[i] l[i]
theorem ShL.refl (l : List Change) : ShL l l := ⟨rfl, fun i h1 h2 => ⟨rfl, rfl⟩⟩
theorem ShL.trans {a b c : List Change} (h : ShL a b) (k : ShL b c) : ShL a c := ⟨k.1.trans h.1, fun i h1 h2 => by
  have h3 : i < b.length := by rw [h.1]; exact h2
  exact ⟨(k.2 i h1 h3).legs.trans (h.2 i h3 h2).legs, (k.2 i h1 h3).tags.trans (h.2 i h3 h2).tags⟩⟩
end Go.Proofs.YtfaglgoanmcifaaGreat
namespace Go.Proofs.YtfaglgoanmcifaaGreat
open Go.RowKit
open Go.Proofs.Tryz (prog)
attribute [local irreducible] CallV RoundV aggK
set_option maxRecDepth 100000 in
theorem num24_ok (n : Int) : PCon prog 10 [.int .i64 n] (.int .i64 n) := by
  refine callV_of (fn := Go.Proofs.Tryz.f10) (body := _) tab_ok mixed rfl rfl (by decide) (by simp [Go.Proofs.Tryz.f10]) ?_
  (conv => whnf)
  exact (Ends.pure [] (by first | exact .fr rfl | exact .A | exact LeL.fr rfl | (refine .tupL ?_; repeat' (first | exact True.intro | exact .fr rfl | exact .A | exact LeL.fr rfl | refine .aggL ?_ | refine ⟨?_, ?_⟩)) | (refine .aggL ?_; repeat' (first | exact True.intro | exact .fr rfl | exact .A | exact LeL.fr rfl | refine ⟨?_, ?_⟩))) (by simp))
def saidA (l : List UInt32) : Attrs := { noA with path := [⟨false, l⟩], next := 9 }
set_option maxRecDepth 100000 in
set_option maxHeartbeats 4000000 in
theorem lsaid_ok (fr : Bool) (l : List UInt32) (hl : l.length ≤ 100) : PCon prog 21 [encW fr l] (encA true (saidA l)) := by
  refine callV_of (fn := Go.Proofs.Tryz.f21) (body := _) tab_ok mixed rfl rfl (by decide) (by simp [Go.Proofs.Tryz.f21]) ?_
  (conv => whnf)
  refine ⟨⟨rfl, rfl, rfl, rfl, by decide⟩, by simp, ⟨by simp [tab, tabOf, nth]; omega, by simp; omega⟩, ?_⟩
  (conv => whnf)
  refine Ends.pure [2, 3] (.aggL ⟨.fr rfl, LeV.freezeR (ys := [encLeg true ⟨false, l⟩]) (by simp) rfl (by simp) ⟨⟨.fr rfl, LeV.freezeE (by simp) rfl (by simp) (by simp; exact List.take_of_length_le (by simp)) (rowsW_free l), trivial⟩, trivial⟩, .fr rfl, .fr rfl, .fr rfl, .fr rfl, .fr rfl, .snil_sl, trivial⟩) (by intro z hz; simp only [List.mem_cons, List.not_mem_nil, or_false] at hz; rcases hz with rfl | rfl <;> exact ne_none_of rfl)
end Go.Proofs.YtfaglgoanmcifaaGreat
namespace Go.Proofs.YtfaglgoanmcifaaGreat
open Go.RowKit
open Go.Proofs.Tryz (prog)
attribute [local irreducible] CallV RoundV aggK
def ten24 : Prefix := ⟨167772160, 8⟩
def oth24 : Prefix := ⟨184549376, 8⟩
def pe2 : Peer := ⟨2, 2, 2, false⟩
def polE : Policy := ⟨[], true⟩
def upd1 (p : Prefix) (l : List UInt32) : Upd := ⟨[], [p], saidA l⟩
def mA : List (Prefix × Attrs) := [(ten24, saidA [2])]
def mB : List (Prefix × Attrs) := [(ten24, saidA [2, 1])]
def mC : List (Prefix × Attrs) := [(ten24, saidA [2, 1]), (oth24, saidA [3])]
theorem rise1_24 {p : Prefix} (h : prefOk p = true) : riseP [p] = true := riseP_iff.2 fun j hj => by
  obtain rfl : j = 0 := by simp at hj; omega
  exact ⟨h, fun h0 => absurd h0 (by omega)⟩
theorem rise0_24 : riseP [] = true := riseP_iff.2 fun j hj => by simp at hj
theorem sortPs_self {l : List Prefix} (h : l.Pairwise (fun x y => pkey x ≤ pkey y)) : sortPs l = l := sorted_eq (List.mergeSort_perm _ _) (sortPs_sorted l) h
theorem stA : takeM [] (upd1 ten24 [2]).gone (upd1 ten24 [2]).new (upd1 ten24 [2]).attrs = mA := by decide
theorem stB : takeM mA (upd1 ten24 [2, 1]).gone (upd1 ten24 [2, 1]).new (upd1 ten24 [2, 1]).attrs = mB := by decide
theorem stC : takeM mB (upd1 oth24 [3]).gone (upd1 oth24 [3]).new (upd1 oth24 [3]).attrs = mC := by decide
theorem chA : chgs 1 pe2 polE polE [] mA = [⟨ten24, true, saidA [2]⟩] := by
  unfold chgs
  rw [show dd (keysE [] ++ keysE mA) = [ten24] by decide, sortPs_self (by decide)]
  decide
theorem chB : chgs 1 pe2 polE polE mA mB = [⟨ten24, false, noA⟩] := by
  unfold chgs
  rw [show dd (keysE mA ++ keysE mB) = [ten24] by decide, sortPs_self (by decide)]
  decide
theorem chC : chgs 1 pe2 polE polE mB mC = [] := by
  unfold chgs
  rw [show dd (keysE mB ++ keysE mC) = [ten24, oth24] by decide, sortPs_self (by decide)]
  decide
theorem chD : chgs 1 pe2 polE polE mC [] = [] := by
  unfold chgs
  rw [show dd (keysE mC ++ keysE []) = [ten24, oth24] by decide, sortPs_self (by decide)]
  decide
theorem ck1 {p : Prefix} {l : List UInt32} (hp : prefOk p = true) (h1 : rightA (saidA l) = true) (h2 : (bodyB (upd1 p l)).length ≤ 493) : checkU (upd1 p l) = 0 := by
  have hm : mayU (upd1 p l) = true := by
    simp [mayU, upd1, rise0_24, rise1_24 hp, apartP, saidU, h1]
  rw [checkU, if_pos hm, if_neg (by omega)]
theorem ckA : checkU (upd1 ten24 [2]) = 0 := ck1 (by decide) (by decide) (by decide)
theorem ckB : checkU (upd1 ten24 [2, 1]) = 0 := ck1 (by decide) (by decide) (by decide)
theorem ckC : checkU (upd1 oth24 [3]) = 0 := ck1 (by decide) (by decide) (by decide)
end Go.Proofs.YtfaglgoanmcifaaGreat
namespace Go.Proofs.YtfaglgoanmcifaaGreat
open Go.RowKit
open Go.Proofs.Tryz (prog)
attribute [local irreducible] CallV RoundV aggK
theorem small24 {u : Upd} (h1 : u.gone.length ≤ 1000) (h2 : u.new.length ≤ 1000) (h3 : fewA u.attrs = true) : Small u := ⟨h1, h2, h3⟩
instance {a : Attrs} : Decidable (smallA a) := inferInstanceAs (Decidable (_ ∧ _ ∧ _))
instance {m : List (Prefix × Attrs)} : Decidable (NodE m) := inferInstanceAs (Decidable (List.Nodup _))
set_option maxRecDepth 100000 in
set_option maxHeartbeats 8000000 in
theorem works24_ok : PCon prog 12 [] (.bool true) := by
  have hA := take_ok (okM_nil 1 pe2 polE) (upd1 ten24 [2]) (small24 (by decide) (by decide) (by decide)) ckA (by decide) (by decide) (okM_of (by decide) (by decide) (by decide))
  rw [stA, chA] at hA
  have hB := take_ok (m := mA) (own := 1) (pe := pe2) (pol := polE) (okM_of (by decide) (by decide) (by decide)) (upd1 ten24 [2, 1]) (small24 (by decide) (by decide) (by decide)) ckB (by decide) (by decide) (okM_of (by decide) (by decide) (by decide))
  rw [stB, chB] at hB
  have hC := take_ok (m := mB) (own := 1) (pe := pe2) (pol := polE) (okM_of (by decide) (by decide) (by decide)) (upd1 oth24 [3]) (small24 (by decide) (by decide) (by decide)) ckC (by decide) (by decide) (okM_of (by decide) (by decide) (by decide))
  rw [stC, chC] at hC
  have kA := counts24_ok (m := mA) (own := 1) (pe := pe2) (pol := polE) (okM_of (by decide) (by decide) (by decide)) ten24
  rw [show (getE mA ten24).bind (cnt 1 pe2 polE ten24) = some (saidA [2]) by decide] at kA
  have kB := counts24_ok (m := mB) (own := 1) (pe := pe2) (pol := polE) (okM_of (by decide) (by decide) (by decide)) ten24
  rw [show (getE mB ten24).bind (cnt 1 pe2 polE ten24) = none by decide] at kB
  have sB := said24_ok (m := mB) (own := 1) (pe := pe2) (pol := polE) (okM_of (by decide) (by decide) (by decide)) ten24
  rw [show getE mB ten24 = some (saidA [2, 1]) by decide] at sB
  have cD := clear_ok (m := mC) (own := 1) (pe := pe2) (pol := polE) (okM_of (by decide) (by decide) (by decide)) (okM_nil _ _ _)
  rw [chD] at cD
  have n0 := num24_ok 0
  have hnew := new_ok 1 pe2 polE (by decide)
  refine callV_of (fn := Go.Proofs.Tryz.f12) (body := _) tab_ok mixed rfl rfl (by decide) (by simp [Go.Proofs.Tryz.f12]) ?_
  (conv => whnf)
  refine callV_frame (nx := 2) (n0 := 0) id hnew ⟨.fr rfl, .fr rfl, .aggL ⟨.snil_sl, .fr rfl, trivial⟩, trivial⟩ (LeH.nil (by omega) (fun _ h => by omega) (by simp)) (fun b hb => by omega) (fun b hb => by omega) ?_
  rintro v h' nx' ⟨rfl, rfl, rfl⟩ _
  refine ⟨.tup [.ptr 2 0, .int .i64 0], [(2, some (.var true 99 (cellsIn 1 pe2 polE []))), (0, some (.var true 53 (cellsP ten24))), (1, some (.var true 53 (cellsP oth24)))], .tup ⟨.ptr rfl, .free .int, trivial⟩, (by repeat' (first | exact True.intro | exact Or.inr ⟨by decide, rfl⟩ | exact Or.inl ⟨0, rfl, by omega, _, rfl, .var (cellsIn_free _ _ _ _)⟩ | refine ⟨?_, ?_⟩)), ?_⟩
  (conv => whnf)
  refine ⟨encA true (saidA [2]), [(4, some (.arr true true 24 1 [[.int .u32 2]]))], fun h nx hrd => ?_, by intro b ob hb; simp at hb; obtain ⟨rfl, rfl⟩ := hb; rfl, ?_⟩
  · have h4 : hget h 4 = some (.arr true true 24 1 [[.int .u32 2]]) := hrd _ _ (by simp)
    exact pureV_lend [4] (lsaid_ok false [2] (by decide)) ⟨LeV.fresh_off (LeV.freeze_of (by simp) h4 (by simp) (rowsW_free [2]) rfl), trivial⟩ (by intro v hv; obtain rfl := List.mem_singleton.1 hv; exact encW_cold _) (one_none h4) (encA_fresh _)
  (conv => whnf)
  refine ⟨.tup [encChs true [⟨ten24, true, saidA [2]⟩], .int .i64 0], [(2, some (.var true 99 (cellsIn 1 pe2 polE []))), (3, some (.arr true true 53 2 [cellsP ten24]))], [(2, some (.var true 99 (cellsIn 1 pe2 polE mA))), (3, none)], fun h nx hrd => ?_, by intro b ob hb; simp at hb; rcases hb with ⟨rfl, rfl⟩ | ⟨rfl, rfl⟩ <;> rfl, ?_⟩
  · have h2 : hget h 2 = some (.var true 99 (cellsIn 1 pe2 polE [])) := hrd _ _ (by simp)
    have h3 : hget h 3 = some (.arr true true 53 2 [cellsP ten24]) := hrd _ _ (by simp)
    exact updV_var (Z := [3]) hA (tupCh_free _ _) h2 (by simp) (one_none h3) (cellsIn_free _ _ _ _) (cellsIn_free _ _ _ _) ⟨.ptr rfl (by omega), .aggL ⟨.snil_sl, LeV.fresh_off (LeV.freezeE (ys := rowsP [ten24]) (by simp) h3 (by decide) rfl (rowsP_free _)), .fr rfl, .less (.free (encLegs_free _ _)) Less.legs, .fr rfl, .fr rfl, .fr rfl, .fr rfl, .fr rfl, .less (.free (encW_free _ _)) Less.encW, trivial⟩, trivial⟩
  (conv => whnf)
  refine ⟨by kernel_rfl, ?_⟩
  (conv => whnf)
  refine callV_in kA rfl (cellsIn_free _ _ _ _) (cellsIn_free _ _ _ _) ⟨.ptr rfl (by omega), .fr rfl, trivial⟩ ?_
  rintro v rfl
  refine ⟨rtV_free _ _ _ _, ?_⟩
  show _
  (conv => whnf)
  refine ⟨encA true (saidA [2, 1]), [(7, some (.arr true true 24 1 [[.int .u32 2], [.int .u32 1]]))], fun h nx hrd => ?_, by intro b ob hb; simp at hb; obtain ⟨rfl, rfl⟩ := hb; rfl, ?_⟩
  · have h4 : hget h 7 = some (.arr true true 24 1 [[.int .u32 2], [.int .u32 1]]) := hrd _ _ (by simp)
    exact pureV_lend [7] (lsaid_ok false [2, 1] (by decide)) ⟨LeV.fresh_off (LeV.freeze_of (by simp) h4 (by simp) (rowsW_free [2, 1]) rfl), trivial⟩ (by intro v hv; obtain rfl := List.mem_singleton.1 hv; exact encW_cold _) (one_none h4) (encA_fresh _)
  (conv => whnf)
  refine ⟨.tup [encChs true [⟨ten24, false, noA⟩], .int .i64 0], [(2, some (.var true 99 (cellsIn 1 pe2 polE mA))), (6, some (.arr true true 53 2 [cellsP ten24]))], [(2, some (.var true 99 (cellsIn 1 pe2 polE mB))), (6, none)], fun h nx hrd => ?_, by intro b ob hb; simp at hb; rcases hb with ⟨rfl, rfl⟩ | ⟨rfl, rfl⟩ <;> rfl, ?_⟩
  · have h2 : hget h 2 = some (.var true 99 (cellsIn 1 pe2 polE mA)) := hrd _ _ (by simp)
    have h3 : hget h 6 = some (.arr true true 53 2 [cellsP ten24]) := hrd _ _ (by simp)
    exact updV_var (Z := [6]) hB (tupCh_free _ _) h2 (by simp) (one_none h3) (cellsIn_free _ _ _ _) (cellsIn_free _ _ _ _) ⟨.ptr rfl (by omega), .aggL ⟨.snil_sl, LeV.fresh_off (LeV.freezeE (ys := rowsP [ten24]) (by simp) h3 (by decide) rfl (rowsP_free _)), .fr rfl, .less (.free (encLegs_free _ _)) Less.legs, .fr rfl, .fr rfl, .fr rfl, .fr rfl, .fr rfl, .less (.free (encW_free _ _)) Less.encW, trivial⟩, trivial⟩
  (conv => whnf)
  refine ⟨by kernel_rfl, ?_⟩
  (conv => whnf)
  refine callV_in kB rfl (cellsIn_free _ _ _ _) (cellsIn_free _ _ _ _) ⟨.ptr rfl (by omega), .fr rfl, trivial⟩ ?_
  rintro v rfl
  refine ⟨rtV_free _ _ _ _, ?_⟩
  show _
  (conv => whnf)
  refine callV_in sB rfl (cellsIn_free _ _ _ _) (cellsIn_free _ _ _ _) ⟨.ptr rfl (by omega), .fr rfl, trivial⟩ ?_
  rintro v rfl
  refine ⟨.tup (by simp; exact ⟨encA_free _ _, .bool⟩), ?_⟩
  show _
  (conv => whnf)
  refine ⟨encA true (saidA [3]), [(11, some (.arr true true 24 1 [[.int .u32 3]]))], fun h nx hrd => ?_, by intro b ob hb; simp at hb; obtain ⟨rfl, rfl⟩ := hb; rfl, ?_⟩
  · have h4 : hget h 11 = some (.arr true true 24 1 [[.int .u32 3]]) := hrd _ _ (by simp)
    exact pureV_lend [11] (lsaid_ok false [3] (by decide)) ⟨LeV.fresh_off (LeV.freeze_of (by simp) h4 (by simp) (rowsW_free [3]) rfl), trivial⟩ (by intro v hv; obtain rfl := List.mem_singleton.1 hv; exact encW_cold _) (one_none h4) (encA_fresh _)
  (conv => whnf)
  refine ⟨.tup [encChs true [], .int .i64 0], [(2, some (.var true 99 (cellsIn 1 pe2 polE mB))), (10, some (.arr true true 53 2 [cellsP oth24]))], [(2, some (.var true 99 (cellsIn 1 pe2 polE mC))), (10, none)], fun h nx hrd => ?_, by intro b ob hb; simp at hb; rcases hb with ⟨rfl, rfl⟩ | ⟨rfl, rfl⟩ <;> rfl, ?_⟩
  · have h2 : hget h 2 = some (.var true 99 (cellsIn 1 pe2 polE mB)) := hrd _ _ (by simp)
    have h3 : hget h 10 = some (.arr true true 53 2 [cellsP oth24]) := hrd _ _ (by simp)
    exact updV_var (Z := [10]) hC (tupCh_free _ _) h2 (by simp) (one_none h3) (cellsIn_free _ _ _ _) (cellsIn_free _ _ _ _) ⟨.ptr rfl (by omega), .aggL ⟨.snil_sl, LeV.fresh_off (LeV.freezeE (ys := rowsP [oth24]) (by simp) h3 (by decide) rfl (rowsP_free _)), .fr rfl, .less (.free (encLegs_free _ _)) Less.legs, .fr rfl, .fr rfl, .fr rfl, .fr rfl, .fr rfl, .less (.free (encW_free _ _)) Less.encW, trivial⟩, trivial⟩
  (conv => whnf)
  refine ⟨by kernel_rfl, ?_⟩
  (conv => whnf)
  refine callV_in cD rfl (cellsIn_free _ _ _ _) (cellsIn_free _ _ _ _) ⟨.ptr rfl (by omega), trivial⟩ ?_
  rintro v rfl
  refine ⟨tupCh_free _ _, ?_⟩
  show _
  (conv => whnf)
  refine callV_pure n0 ⟨.fr rfl, trivial⟩ ?_
  (conv => whnf)
  refine callV_pure n0 ⟨.fr rfl, trivial⟩ ?_
  (conv => whnf)
  refine callV_pure n0 ⟨.fr rfl, trivial⟩ ?_
  (conv => whnf)
  refine callV_pure n0 ⟨.fr rfl, trivial⟩ ?_
  (conv => whnf)
  refine callV_pure n0 ⟨.fr rfl, trivial⟩ ?_
  (conv => whnf)
  intro _
  (conv => whnf)
  refine ⟨rfl, _, ⟨by decide, rfl⟩, ?_⟩
  (conv => whnf)
  intro _
  (conv => whnf)
  refine ⟨rfl, _, ⟨by decide, rfl⟩, ?_⟩
  (conv => whnf)
  intro _
  (conv => whnf)
  intro _
  (conv => whnf)
  intro _
  (conv => whnf)
  refine callV_in (len24_ok 1 pe2 polE []) rfl (cellsIn_free _ _ _ _) (cellsIn_free _ _ _ _) ⟨.ptr rfl (by omega), trivial⟩ ?_
  rintro v rfl
  refine ⟨.int, ?_⟩
  show _
  (conv => whnf)
  exact (Ends.pure [] (by first | exact .A | exact LeL.fr rfl) (by simp))
end Go.Proofs.YtfaglgoanmcifaaGreat
namespace Go.Proofs.YtfaglgoanmcifaaGreat
open Go.RowKit
open Go.Proofs.Tryz (prog)
attribute [local irreducible] CallV RoundV aggK
set_option maxRecDepth 100000 in
set_option maxHeartbeats 8000000 in
theorem makes24_ok (own : UInt32) (pe : Peer) (pol : Policy) : PCon prog 7 [cW own, encPe pe, encPo false pol] (.bool true) := by
  cases hn : newOk own pe pol with
  | true =>
    have hnew := new_ok own pe pol hn
    have hrn := refNew_ok own pe pol
    rw [newE, hn, if_pos rfl] at hrn
    have n1 := num24_ok 1
    have n0 := num24_ok 0
    refine callV_of (fn := Go.Proofs.Tryz.f7) (body := _) tab_ok mixed rfl rfl (by decide) (by simp [Go.Proofs.Tryz.f7]) ?_
    (conv => whnf)
    intro _
    (conv => whnf)
    split
    · (conv => whnf)
      refine callV_pure works24_ok trivial ?_
      (conv => whnf)
      exact (Ends.pure [] (by first | exact .A | exact LeL.fr rfl) (by simp))
    (conv => whnf)
    refine callV_frame (nx := 3) (n0 := 0) id hnew ⟨.fr rfl, .fr rfl, .fr rfl, trivial⟩ (LeH.nil (by omega) (fun _ h => by omega) (by simp)) (fun b hb => by omega) (fun b hb => by omega) ?_
    rintro v h' nx' ⟨rfl, rfl, rfl⟩ _
    refine ⟨.tup [.ptr 3 0, .int .i64 0], [(3, some (.var true 99 (cellsIn own pe pol []))), (0, some (.var true 45 (cellsPe pe))), (1, some (.var true 33 (cellsPo false pol))), (2, some (.var true 4 [.bool false]))], .tup ⟨.ptr rfl, .free .int, trivial⟩, (by repeat' (first | exact True.intro | exact Or.inr ⟨by decide, rfl⟩ | exact Or.inl ⟨0, rfl, by omega, _, rfl, .var (cellsIn_free _ _ _ _)⟩ | refine ⟨?_, ?_⟩)), ?_⟩
    (conv => whnf)
    refine callV_pure hrn ⟨.fr rfl, .fr rfl, .fr rfl, trivial⟩ ?_
    (conv => whnf)
    refine callV_pure (take_nil ⟨[], [], noA⟩) ⟨.fr rfl, .aggL ⟨.snil_sl, .snil_sl, .fr rfl, .snil_sl, .fr rfl, .fr rfl, .fr rfl, .fr rfl, .fr rfl, .snil_sl, trivial⟩, trivial⟩ ?_
    (conv => whnf)
    refine callV_pure (policy_nil ⟨[], false⟩) ⟨.fr rfl, .aggL ⟨.snil_sl, .fr rfl, trivial⟩, trivial⟩ ?_
    (conv => whnf)
    refine callV_pure clear_nil ⟨.fr rfl, trivial⟩ ?_
    (conv => whnf)
    refine callV_pure (said24_nil ⟨0, 0⟩) ⟨.fr rfl, .fr rfl, trivial⟩ ?_
    (conv => whnf)
    refine callV_pure (counts24_nil ⟨0, 0⟩) ⟨.fr rfl, .fr rfl, trivial⟩ ?_
    (conv => whnf)
    refine callV_pure all24_nil ⟨.fr rfl, trivial⟩ ?_
    (conv => whnf)
    refine callV_pure all24_nil ⟨.fr rfl, trivial⟩ ?_
    (conv => whnf)
    refine callV_loop [] trivial fun asg' body' hasg hbody => ?_
    refine callV_of (fn := Go.Proofs.Tryz.f43) (body := _) tab_ok mixed rfl rfl (by decide) (by simp [Go.Proofs.Tryz.f43]) ?_
    (conv => whnf)
    refine callV_pure (sortedN_ok [] rfl (by simp)) ⟨.free .nilm, trivial⟩ ?_
    rw [show sortPs (keysE ([] : List (Prefix × Attrs))) = [] by simp [keysE, sortPs]]
    (conv => whnf)
    intro _
    (conv => whnf)
    refine vcg_loop tab_ok mixed (fun _ : Unit => ⟨[(7, .int .i64 0), (8, .int .i64 0)], [(7, some (.loop 143 [] [75, 76] asg' body' .ready none)), (0, some (.var true 45 (cellsPe pe))), (1, some (.var true 33 (cellsPo false pol))), (2, some (.var true 4 [.bool false])), (3, some (.var true 99 (cellsIn own pe pol []))), (4, some (.var true 61 (cellsS false (newS own pe pol))))], 8⟩) (fun _ => 0) () (Wk.i (by repeat' (first | exact True.intro | exact id | exact rfl | decide | exact Nat.le_of_ble_eq_true rfl | exact LeL.freeV (cellsIn_free own pe pol []) | exact LeL.freeV (cellsS_free false _) | exact LeL.freeV (cellsPo_free false pol) | exact LeL.freeV (fun v hv => (cellsPe_all pe v hv).1) | exact .A | exact LeL.fr rfl | exact LeB.fr rfl id id | exact LeB.fr (by simp; done) id id | refine Or.inl ⟨by simp, _, rfl, ?_⟩ | exact Or.inr ⟨by simp, _, _, _, _, rfl⟩ | refine ⟨rfl, rfl, rfl, rfl, rfl, rfl, ?_⟩ | refine ⟨?_, ?_⟩)) (by omega)) (fun _ => ?_)
    (conv => whnf)
    refine ⟨_, _, _, Ends.here, ?_⟩
    (conv => whnf)
    refine callV_pure n1 ⟨.fr rfl, trivial⟩ ?_
    (conv => whnf)
    refine callV_pure n1 ⟨.fr rfl, trivial⟩ ?_
    (conv => whnf)
    refine callV_pure n1 ⟨.fr rfl, trivial⟩ ?_
    (conv => whnf)
    refine callV_pure len24_nil ⟨.fr rfl, trivial⟩ ?_
    (conv => whnf)
    refine callV_pure copy24_nil ⟨.fr rfl, trivial⟩ ?_
    (conv => whnf)
    refine callV_pure same24_nil ⟨.fr rfl, .fr rfl, trivial⟩ ?_
    (conv => whnf)
    refine callV_pure n0 ⟨.fr rfl, trivial⟩ ?_
    (conv => whnf)
    refine callV_in (is_ok (RelR.new hn)) rfl (cellsIn_free _ _ _ _) (cellsIn_free _ _ _ _) ⟨.ptr rfl (by omega), .fr rfl, trivial⟩ ?_
    rintro v rfl
    refine ⟨.bool, ?_⟩
    show _
    (conv => whnf)
    refine callV_in (same24_l own pe pol []) rfl (cellsIn_free _ _ _ _) (cellsIn_free _ _ _ _) ⟨.ptr rfl (by omega), .fr rfl, trivial⟩ ?_
    rintro v rfl
    refine ⟨.bool, ?_⟩
    show _
    (conv => whnf)
    refine callV_in (same24_r own pe pol []) rfl (cellsIn_free _ _ _ _) (cellsIn_free _ _ _ _) ⟨.fr rfl, .ptr rfl (by omega), trivial⟩ ?_
    rintro v rfl
    refine ⟨.bool, ?_⟩
    show _
    (conv => whnf)
    refine callV_pure works24_ok trivial ?_
    (conv => whnf)
    exact (Ends.pure [] (by first | exact .A | exact LeL.fr rfl) (by simp))
  | false =>
    have hnew := new_bad own pe pol hn
    have hrn := refNew_ok own pe pol
    rw [newE, hn, if_neg (by decide)] at hrn
    have n1 := num24_ok 1
    have n2 := num24_ok 2
    refine callV_of (fn := Go.Proofs.Tryz.f7) (body := _) tab_ok mixed rfl rfl (by decide) (by simp [Go.Proofs.Tryz.f7]) ?_
    (conv => whnf)
    intro _
    (conv => whnf)
    split
    · (conv => whnf)
      refine callV_pure works24_ok trivial ?_
      (conv => whnf)
      exact (Ends.pure [] (by first | exact .A | exact LeL.fr rfl) (by simp))
    (conv => whnf)
    refine callV_pure hnew ⟨.fr rfl, .fr rfl, .fr rfl, trivial⟩ ?_
    (conv => whnf)
    refine callV_pure hrn ⟨.fr rfl, .fr rfl, .fr rfl, trivial⟩ ?_
    (conv => whnf)
    refine callV_pure (take_nil ⟨[], [], noA⟩) ⟨.fr rfl, .aggL ⟨.snil_sl, .snil_sl, .fr rfl, .snil_sl, .fr rfl, .fr rfl, .fr rfl, .fr rfl, .fr rfl, .snil_sl, trivial⟩, trivial⟩ ?_
    (conv => whnf)
    refine callV_pure (policy_nil ⟨[], false⟩) ⟨.fr rfl, .aggL ⟨.snil_sl, .fr rfl, trivial⟩, trivial⟩ ?_
    (conv => whnf)
    refine callV_pure clear_nil ⟨.fr rfl, trivial⟩ ?_
    (conv => whnf)
    refine callV_pure (said24_nil ⟨0, 0⟩) ⟨.fr rfl, .fr rfl, trivial⟩ ?_
    (conv => whnf)
    refine callV_pure (counts24_nil ⟨0, 0⟩) ⟨.fr rfl, .fr rfl, trivial⟩ ?_
    (conv => whnf)
    refine callV_pure all24_nil ⟨.fr rfl, trivial⟩ ?_
    (conv => whnf)
    refine callV_pure all24_nil ⟨.fr rfl, trivial⟩ ?_
    (conv => whnf)
    refine callV_loop [] trivial fun asg' body' hasg hbody => ?_
    refine callV_of (fn := Go.Proofs.Tryz.f43) (body := _) tab_ok mixed rfl rfl (by decide) (by simp [Go.Proofs.Tryz.f43]) ?_
    (conv => whnf)
    refine callV_pure (sortedN_ok [] rfl (by simp)) ⟨.free .nilm, trivial⟩ ?_
    rw [show sortPs (keysE ([] : List (Prefix × Attrs))) = [] by simp [keysE, sortPs]]
    (conv => whnf)
    intro _
    (conv => whnf)
    refine vcg_loop tab_ok mixed (fun _ : Unit => ⟨[(7, .int .i64 0), (8, .int .i64 0)], [(6, some (.loop 143 [] [75, 76] asg' body' .ready none)), (0, some (.var true 45 (cellsPe pe))), (1, some (.var true 33 (cellsPo false pol))), (2, some (.var true 4 [.bool false])), (3, some (.var true 61 (cellsS false (newS own pe pol))))], 7⟩) (fun _ => 0) () (Wk.i (by repeat' (first | exact True.intro | exact id | exact rfl | decide | exact Nat.le_of_ble_eq_true rfl | exact LeL.freeV (cellsS_free false _) | exact LeL.freeV (cellsPo_free false pol) | exact LeL.freeV (fun v hv => (cellsPe_all pe v hv).1) | exact .A | exact LeL.fr rfl | exact LeB.fr rfl id id | exact LeB.fr (by simp; done) id id | refine Or.inl ⟨by simp, _, rfl, ?_⟩ | exact Or.inr ⟨by simp, _, _, _, _, rfl⟩ | refine ⟨rfl, rfl, rfl, rfl, rfl, rfl, ?_⟩ | refine ⟨?_, ?_⟩)) (by omega)) (fun _ => ?_)
    (conv => whnf)
    refine ⟨_, _, _, Ends.here, ?_⟩
    (conv => whnf)
    refine callV_pure n1 ⟨.fr rfl, trivial⟩ ?_
    (conv => whnf)
    refine callV_pure n1 ⟨.fr rfl, trivial⟩ ?_
    (conv => whnf)
    refine callV_pure n1 ⟨.fr rfl, trivial⟩ ?_
    (conv => whnf)
    refine callV_pure len24_nil ⟨.fr rfl, trivial⟩ ?_
    (conv => whnf)
    refine callV_pure copy24_nil ⟨.fr rfl, trivial⟩ ?_
    (conv => whnf)
    refine callV_pure same24_nil ⟨.fr rfl, .fr rfl, trivial⟩ ?_
    (conv => whnf)
    refine callV_pure n2 ⟨.fr rfl, trivial⟩ ?_
    (conv => whnf)
    refine callV_pure works24_ok trivial ?_
    (conv => whnf)
    exact (Ends.pure [] (by first | exact .A | exact LeL.fr rfl) (by simp))
end Go.Proofs.YtfaglgoanmcifaaGreat
namespace Go.Proofs.YtfaglgoanmcifaaGreat
open Go.RowKit
open Go.Proofs.Tryz (prog)
attribute [local irreducible] CallV RoundV aggK VC VM CallB VH
instance {fr l} : FreeI (encChs fr l) := ⟨⟨encChs_free fr l⟩⟩
end Go.Proofs.YtfaglgoanmcifaaGreat
namespace Go.Proofs.YtfaglgoanmcifaaGreat
open Go.RowKit Go.ChangeShapes Go.WideShapes
open Go.Proofs.Tryz (prog)
theorem rep_peer : RepOk prog 45 cellsPe := fun enc w sp fuel cs x h => by
  have ht := Go.Proofs.Tryz.underlying45
  obtain ⟨xs, n, _, _, hlen, _, _⟩ := DataW.trod_struct ht h
  have hl : cs.length = 4 := hlen.trans (by kernel_rfl)
  obtain ⟨a, h0, o0⟩ := field_at ht h 0 rfl (rep_u32 Go.Proofs.Tryz.underlying24) rfl (by kernel_rfl)
  obtain ⟨b, h1, o1⟩ := field_at ht h 1 rfl (rep_u32 Go.Proofs.Tryz.underlying24) rfl (by kernel_rfl)
  obtain ⟨c, h2, o2⟩ := field_at ht h 2 rfl (rep_u32 Go.Proofs.Tryz.underlying24) rfl (by kernel_rfl)
  obtain ⟨d, h3, o3⟩ := field_at ht h 3 rfl (rep_bool Go.Proofs.Tryz.underlying4) rfl (by kernel_rfl)
  have j1 := vrs_join (vrs_join (vrs_join (vrs_join vrs_take0 h0 rfl (by omega)) h1 rfl (by omega)) h2 rfl (by omega)) h3 rfl (by omega)
  have k1 := one_join (one_join (one_join (one_join (by simp) o0 rfl (by omega)) o1 rfl (by omega)) o2 rfl (by omega)) o3 rfl (by omega)
  rw [List.take_of_length_le (by omega)] at j1 k1
  exact ⟨⟨a, b, c, d⟩, j1, k1⟩
theorem arg_peer : ArgOk prog 45 encPe := arg_struct Go.Proofs.Tryz.underlying45 rep_peer
theorem read_peer : prog.readableRec 45 = true ∧ 45 < prog.types.size := ⟨by kernel_rfl, of_decide_eq_true (by kernel_rfl)⟩
end Go.Proofs.YtfaglgoanmcifaaGreat
