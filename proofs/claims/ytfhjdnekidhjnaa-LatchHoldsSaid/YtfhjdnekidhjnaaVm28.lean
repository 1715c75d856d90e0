/-
  Bits that do not meet are added up.
-/
import Derived.Test.YtfhjdnekidhjnaaVm27
import Derived.Laws.BitsLemmas
set_option linter.unusedVariables false
set_option linter.unusedSimpArgs false
namespace Go.Vm

theorem or_comm64 (x y : Int) : Go.bits .or .i64 x y = Go.bits .or .i64 y x := by
  simp only [bits]
  rw [BitVec.or_comm]
theorem i64_small (n : Int) (h₀ : 0 ≤ n) (h₁ : n < 2 ^ 40) : IntKind.i64.wrap n = n := by
  have : (2 : Int) ^ 40 = 1099511627776 := rfl
  exact wrap_i64 (by omega)
theorem or_put (n c : Int) (i : Nat) (hi : i ≤ 24) (h0 : 0 ≤ n) (h1 : n < 2 ^ i) (c0 : 0 ≤ c) (c1 : c < 256) : Go.bits .or .i64 n (c * 2 ^ i) = n + c * 2 ^ i := by
  rw [or_comm64]
  have hp : (2 : Int) ^ i ≤ 2 ^ 24 := by exact_mod_cast Nat.pow_le_pow_right (by decide) hi
  have hp0 : (0 : Int) < 2 ^ i := by exact_mod_cast Nat.pow_pos (by decide)
  have e24 : (2 : Int) ^ 24 = 16777216 := rfl
  have e40 : (2 : Int) ^ 40 = 1099511627776 := rfl
  have hx0 : 0 ≤ c * 2 ^ i := Int.mul_nonneg c0 (by omega)
  have hx1 : c * 2 ^ i ≤ 255 * 2 ^ i := Int.mul_le_mul_of_nonneg_right (by omega) (by omega)
  rw [Go.bits_join .i64 40 (by decide) i64_small i _ _ hx0 (Int.mul_emod_left _ _) (by omega) h0 h1 (by omega)]
  omega
theorem or0 {c : Int} (h : 0 ≤ c ∧ c < 256) : Go.bits .or .i64 0 (c * 1) = c := by
  have := or_put 0 c 0 (by decide) (by decide) (by decide) h.1 h.2
  rw [show (2 : Int) ^ 0 = 1 from rfl] at this
  omega
theorem or8 {n c : Int} (h : (0 ≤ n ∧ n < 256) ∧ 0 ≤ c ∧ c < 256) : Go.bits .or .i64 n (c * 256) = n + c * 256 := or_put n c 8 (by decide) h.1.1 h.1.2 h.2.1 h.2.2
theorem or16 {n c : Int} (h : (0 ≤ n ∧ n < 65536) ∧ 0 ≤ c ∧ c < 256) : Go.bits .or .i64 n (c * 65536) = n + c * 65536 := or_put n c 16 (by decide) h.1.1 h.1.2 h.2.1 h.2.2
theorem or24 {n c : Int} (h : (0 ≤ n ∧ n < 16777216) ∧ 0 ≤ c ∧ c < 256) : Go.bits .or .i64 n (c * 16777216) = n + c * 16777216 := or_put n c 24 (by decide) h.1.1 h.1.2 h.2.1 h.2.2

end Go.Vm
