/- Contracts: the reference's bytes. -/
import Derived.Test.YtcfkendgjinmiaaC8
set_option linter.unusedVariables false
set_option linter.unusedSimpArgs false
namespace Go.Proofs.Ytcfkendgjinmiaa
open Go.RowKit
open Go.Proofs.Try (prog)
attribute [local irreducible] CallV RoundV

set_option maxRecDepth 100000 in
theorem ref_four_ok (x : UInt32) : PCon prog 44 [cW x] (encB true (fourB x)) := by
  refine callV_of (fn := Go.Proofs.Try.f44) (body := _) tab_ok mixed rfl rfl (by decide) (by simp [Go.Proofs.Try.f44]) ?_
  (conv => whnf)
  refine ⟨by decide, ?_⟩
  (conv => whnf)
  refine ⟨by decide, ?_⟩
  (conv => whnf)
  refine ⟨by decide, ?_⟩
  (conv => whnf)
  refine ⟨by decide, ?_⟩
  (conv => whnf)
  refine ⟨by decide, ?_⟩
  (conv => whnf)
  refine ⟨by decide, ?_⟩
  (conv => whnf)
  have hx := x.toNat_lt
  refine Ends.pure [0] (LeV.freeze_of (by simp) rfl (by simp) ?_ ?_) ?_
  · intro r hr v hv
    simp at hr
    rcases hr with rfl | rfl | rfl | rfl <;> (simp at hv; subst hv; exact .int)
  · have e : ∀ (n : Nat), ((x.toNat : Int).tdiv n) = ((x.toNat / n : Nat) : Int) := fun n => by rw [Int.tdiv_eq_ediv_of_nonneg (by omega)]; rfl
    have e2 : ∀ (n m : Nat), (((n : Nat) : Int).tmod (m : Nat)) = ((n % m : Nat) : Int) := fun n m => by rw [Int.tmod_eq_emod_of_nonneg (by omega)]; rfl
    have w : ∀ (n : Nat), n < 4294967296 → IntKind.u32.wrap (n : Int) = n := fun n hn => by rw [wrap32]; omega
    have e1 := e 16777216
    have e3 := e 65536
    have e4 := e 256
    simp only [Int.cast_ofNat_Int] at e1 e3 e4
    have d1 := w (x.toNat / 16777216) (by omega)
    have d2 := w (x.toNat / 65536) (by omega)
    have d3 := w (x.toNat / 256) (by omega)
    have m1 := e2 (x.toNat / 65536) 256
    have m2 := e2 (x.toNat / 256) 256
    have m3 := e2 x.toNat 256
    simp only [Int.cast_ofNat_Int] at m1 m2 m3
    rw [e1, e3, e4, d1, d2, d3, m1, m2, m3]
    simp [fourB, wrap8, UInt32.toNat_shiftRight, Nat.shiftRight_eq_div_pow]
  · intro z hz
    obtain rfl := List.mem_singleton.1 hz
    exact ne_none_of rfl

theorem own1 {s : St} {b n : Nat} {fr ex : Bool} {ty : TypeId} {rows : List (List V)} {bs : List UInt8} (hb : hget s.h b = some (.arr fr ex ty 1 rows)) (hr : rows = rowsB bs) (hn : n = bs.length) :
    ∃ v1 h' nx', Ends 0 s (.osl b 1 0 n) v1 h' nx' ∧ (v1 = .osl 0 1 0 bs.length ∧ h' = [(0, some (.arr fr ex ty 1 (rowsB bs)))] ∧ nx' = 1) := by
  subst hr
  exact Ends.own hb (rowsB_free _) hn rfl
/-- An attribute's bytes. -/
def attrB (f c : UInt8) (v : List UInt8) : List UInt8 :=
  if 255 < v.length then [f + 16, c, UInt8.ofNat (v.length / 256), UInt8.ofNat (v.length % 256)] ++ v else [f, c, UInt8.ofNat v.length] ++ v
set_option maxRecDepth 100000 in
theorem ref_attribute_ok (fr : Bool) (f c : UInt8) (v : List UInt8) (hv : v.length ≤ 20000) : OCon prog 43 [.int .i64 f.toNat, .int .i64 c.toNat, encB fr v] true false 5 1 (attrB f c v).length (rowsB (attrB f c v)) := by
  refine callV_of (fn := Go.Proofs.Try.f43) (body := _) tab_ok mixed rfl rfl (by decide) (by simp [Go.Proofs.Try.f43]) ?_
  (conv => whnf)
  intro _
  (conv => whnf)
  split
  · rename_i h
    have h : 255 < v.length := by simp at h; omega
    (conv => whnf)
    refine ⟨by decide, ?_⟩
    (conv => whnf)
    refine ⟨by decide, ?_⟩
    (conv => whnf)
    refine ⟨⟨rfl, rfl, rfl, rfl, by decide⟩, by simp, ⟨by simp [tab, tabOf, nth]; omega, by simp; omega⟩, ?_⟩
    (conv => whnf)
    refine own1 (bs := attrB f c v) rfl ?_ ?_
    · have e1 : ((v.length : Nat) : Int).tdiv 256 = ((v.length / 256 : Nat) : Int) := by rw [Int.tdiv_eq_ediv_of_nonneg (by omega)]; rfl
      have e2 : ((v.length : Nat) : Int).tmod 256 = ((v.length % 256 : Nat) : Int) := by rw [Int.tmod_eq_emod_of_nonneg (by omega)]; rfl
      have e3 : IntKind.i64.wrap ((v.length / 256 : Nat) : Int) = ((v.length / 256 : Nat) : Int) := by rw [wrap64] <;> omega
      have e4 : IntKind.u8.wrap (IntKind.i64.wrap ((f.toNat : Int) + 16)) = ((f + 16).toNat : Int) := by
        have := f.toNat_lt
        rw [wrap64 (by omega) (by omega), wrap8, UInt8.toNat_add]
        simp
      simp only [List.length_map, e1, e2, e3, e4, u8_int, u8_nat, UInt8.ofNat_toNat, attrB, h, if_true, rowsB, List.map_append, List.map_cons, List.map_nil]
      rfl
    · simp [attrB, h]; omega
  · rename_i h
    have h : v.length ≤ 255 := by simp at h; omega
    (conv => whnf)
    refine ⟨⟨rfl, rfl, rfl, rfl, by decide⟩, by simp, ⟨by simp [tab, tabOf, nth]; omega, by simp; omega⟩, ?_⟩
    (conv => whnf)
    refine own1 (bs := attrB f c v) rfl ?_ ?_
    · have h' : ¬ 255 < v.length := by omega
      simp only [List.length_map, u8_int, u8_nat, UInt8.ofNat_toNat, attrB, h', if_false, rowsB, List.map_append, List.map_cons, List.map_nil]
      rfl
    · have h' : ¬ 255 < v.length := by omega
      simp [attrB, h']; omega
end Go.Proofs.Ytcfkendgjinmiaa
