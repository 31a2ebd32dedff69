/- Contracts: a path's first system. -/
import Derived.Test.YtcfkendgjinmiaaC15
set_option linter.unusedVariables false
set_option linter.unusedSimpArgs false
namespace Go.Proofs.Ytcfkendgjinmiaa
open Go.RowKit
open Go.Proofs.Try (prog)
attribute [local irreducible] CallV RoundV

def firstOf (a : Attrs) : UInt32 := match a.path with
  | p :: _ => if p.set then 0 else p.ns.headD 0
  | [] => 0
set_option maxRecDepth 100000 in
theorem first_ok (fr : Bool) (a : Attrs) : PCon prog 27 [encA fr a] (cW (firstOf a)) := by
  have fin : ∀ {s : St} {n : Int}, n = ((firstOf a).toNat : Int) → ∃ v1 h' nx', Ends 0 s (.int .u32 n) v1 h' nx' ∧ (v1 = cW (firstOf a) ∧ h' = [] ∧ nx' = 0) := fun h => Ends.pure [] (.int_of h) (by simp)
  obtain ⟨o, path, nxt, hm, m, hp, p, tags⟩ := a
  cases path with
  | nil =>
    refine callV_of (fn := Go.Proofs.Try.f27) (body := _) tab_ok mixed rfl rfl (by decide) (by simp [Go.Proofs.Try.f27]) ?_
    (conv => whnf)
    intro _
    (conv => whnf)
    exact fin (by simp [firstOf])
  | cons p0 r =>
    obtain ⟨set, ns⟩ := p0
    cases set with
    | true =>
      refine callV_of (fn := Go.Proofs.Try.f27) (body := _) tab_ok mixed rfl rfl (by decide) (by simp [Go.Proofs.Try.f27]) ?_
      (conv => whnf)
      intro _
      (conv => whnf)
      refine ⟨rfl, _, ⟨by omega, rfl⟩, ?_⟩
      (conv => whnf)
      exact fin (by simp [firstOf])
    | false =>
      cases ns with
      | nil =>
        refine callV_of (fn := Go.Proofs.Try.f27) (body := _) tab_ok mixed rfl rfl (by decide) (by simp [Go.Proofs.Try.f27]) ?_
        (conv => whnf)
        intro _
        (conv => whnf)
        refine ⟨rfl, _, ⟨by omega, rfl⟩, ?_⟩
        (conv => whnf)
        refine ⟨rfl, _, ⟨by omega, rfl⟩, ?_⟩
        (conv => whnf)
        intro _
        (conv => whnf)
        exact fin (by simp [firstOf])
      | cons n0 ns =>
        refine callV_of (fn := Go.Proofs.Try.f27) (body := _) tab_ok mixed rfl rfl (by decide) (by simp [Go.Proofs.Try.f27]) ?_
        (conv => whnf)
        intro _
        (conv => whnf)
        refine ⟨rfl, _, ⟨by omega, rfl⟩, ?_⟩
        (conv => whnf)
        refine ⟨rfl, _, ⟨by omega, rfl⟩, ?_⟩
        (conv => whnf)
        intro _
        (conv => whnf)
        refine ⟨rfl, _, ⟨by omega, rfl⟩, ?_⟩
        (conv => whnf)
        refine ⟨rfl, _, ⟨by omega, rfl⟩, ?_⟩
        (conv => whnf)
        exact fin (by simp [firstOf])
set_option maxRecDepth 100000 in
theorem ref_first_ok (fr : Bool) (a : Attrs) : PCon prog 28 [encA fr a] (cW (firstOf a)) := by
  have fin : ∀ {s : St} {n : Int}, n = ((firstOf a).toNat : Int) → ∃ v1 h' nx', Ends 0 s (.int .u32 n) v1 h' nx' ∧ (v1 = cW (firstOf a) ∧ h' = [] ∧ nx' = 0) := fun h => Ends.pure [] (.int_of h) (by simp)
  obtain ⟨o, path, nxt, hm, m, hp, p, tags⟩ := a
  cases path with
  | nil =>
    refine callV_of (fn := Go.Proofs.Try.f28) (body := _) tab_ok mixed rfl rfl (by decide) (by simp [Go.Proofs.Try.f28]) ?_
    (conv => whnf)
    intro _
    (conv => whnf)
    exact fin (by simp [firstOf])
  | cons p0 r =>
    obtain ⟨set, ns⟩ := p0
    cases set with
    | true =>
      refine callV_of (fn := Go.Proofs.Try.f28) (body := _) tab_ok mixed rfl rfl (by decide) (by simp [Go.Proofs.Try.f28]) ?_
      (conv => whnf)
      intro _
      (conv => whnf)
      refine ⟨rfl, _, ⟨by omega, rfl⟩, ?_⟩
      (conv => whnf)
      exact fin (by simp [firstOf])
    | false =>
      cases ns with
      | nil =>
        refine callV_of (fn := Go.Proofs.Try.f28) (body := _) tab_ok mixed rfl rfl (by decide) (by simp [Go.Proofs.Try.f28]) ?_
        (conv => whnf)
        intro _
        (conv => whnf)
        refine ⟨rfl, _, ⟨by omega, rfl⟩, ?_⟩
        (conv => whnf)
        refine ⟨rfl, _, ⟨by omega, rfl⟩, ?_⟩
        (conv => whnf)
        intro _
        (conv => whnf)
        exact fin (by simp [firstOf])
      | cons n0 ns =>
        refine callV_of (fn := Go.Proofs.Try.f28) (body := _) tab_ok mixed rfl rfl (by decide) (by simp [Go.Proofs.Try.f28]) ?_
        (conv => whnf)
        intro _
        (conv => whnf)
        refine ⟨rfl, _, ⟨by omega, rfl⟩, ?_⟩
        (conv => whnf)
        refine ⟨rfl, _, ⟨by omega, rfl⟩, ?_⟩
        (conv => whnf)
        intro _
        (conv => whnf)
        refine ⟨rfl, _, ⟨by omega, rfl⟩, ?_⟩
        (conv => whnf)
        refine ⟨rfl, _, ⟨by omega, rfl⟩, ?_⟩
        (conv => whnf)
        exact fin (by simp [firstOf])
end Go.Proofs.Ytcfkendgjinmiaa
