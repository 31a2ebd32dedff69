/- Plain laws: the two ways to write are one. -/
import Derived.Test.YtcfkendgjinmiaaC14
set_option linter.unusedVariables false
namespace Go.Proofs.Ytcfkendgjinmiaa

theorem attrX_eq (f c : UInt8) (v : List UInt8) : attrX f c v = attrB f c v := by
  unfold attrX attrB twoB
  split
  · have : UInt8.ofNat (v.length % 256) = UInt8.ofNat v.length := by
      apply UInt8.toNat_inj.1
      simp
    rw [this]
    rfl
  · rfl
theorem rawP_eq (a : Attrs) : rawP a 6 = rawA a := by
  simp only [rawP, part, rawA, rawO, attrX_eq, List.nil_append, List.append_assoc]
end Go.Proofs.Ytcfkendgjinmiaa
