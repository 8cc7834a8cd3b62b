/-
  Small plain facts for reasoning about lifted functions. Conditions: none.
-/
import Derived.Test.YtkpplfghhciacaaDoorEngW
set_option linter.unusedVariables false
set_option linter.unusedSimpArgs false
namespace Go.Proofs.YtkpplfghhciacaaDoor
namespace Eng

theorem i64_id {n : Int} (h1 : -9223372036854775808 ≤ n) (h2 : n ≤ 9223372036854775807) : i64 n = n := by
  show IntKind.wrap .i64 n = n
  unfold IntKind.wrap
  simp only [IntKind.bits, IntKind.signed]
  simp
  omega

theorem i64_cases (n : Int) : -9223372036854775808 ≤ i64 n ∧ i64 n ≤ 9223372036854775807 := by
  show -9223372036854775808 ≤ IntKind.wrap .i64 n ∧ IntKind.wrap .i64 n ≤ 9223372036854775807
  unfold IntKind.wrap
  simp only [IntKind.bits, IntKind.signed]
  simp
  omega

theorem bor (a b : Bool) : (bif a then true else b) = (a || b) := by cases a <;> rfl
theorem band (a b : Bool) : (bif a then b else false) = (a && b) := by cases a <;> rfl

theorem cond_t {b : Bool} {p q : Prop} (h : b = true) (hp : p) : bif b then p else q := by subst h; exact hp
theorem cond_f {b : Bool} {p q : Prop} (h : b = false) (hq : q) : bif b then p else q := by subst h; exact hq

theorem inB_of {i : Int} {n : Nat} (h1 : 0 ≤ i) (h2 : i < n) : inB i n := ⟨h1, h2⟩

end Eng
end Go.Proofs.YtkpplfghhciacaaDoor
