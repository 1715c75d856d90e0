/-
  Small laws of numbers and bytes, for the ways through a law.
-/
import Derived.Test.YtfhjdnekidhjnaaVm26
set_option linter.unusedVariables false
set_option linter.unusedSimpArgs false
namespace Go.Vm

theorem wrap_u8 (n : Int) : IntKind.wrap .u8 n = n % 256 := by
  have e : IntKind.wrap .u8 n = if (false && decide (n % 256 ≥ 128)) = true then n % 256 - 256 else n % 256 := by kernel_rfl
  rw [e]
  rfl
theorem wrap_i64 {n : Int} (h : -9223372036854775808 ≤ n ∧ n ≤ 9223372036854775807) : IntKind.wrap .i64 n = n := by
  have e : IntKind.wrap .i64 n = if decide (n % 18446744073709551616 ≥ 9223372036854775808) = true then n % 18446744073709551616 - 18446744073709551616 else n % 18446744073709551616 := by kernel_rfl
  rw [e]
  simp only [decide_eq_true_eq]
  split <;> omega
theorem fdiv_pos {n c : Int} (h : 0 ≤ c) : Int.fdiv n c = n / c := Int.fdiv_eq_ediv_of_nonneg n h
theorem tdiv_pos {n c : Int} (h : 0 ≤ n) : Int.tdiv n c = n / c := Int.tdiv_eq_ediv_of_nonneg h
theorem tmod_pos {n c : Int} (h : 0 ≤ n) : Int.tmod n c = n % c := Int.tmod_eq_emod_of_nonneg h

theorem bytes_same {l l' : List UInt8} (h : l = l') : (((ByteArray.mk l.toArray).toList == (ByteArray.mk l'.toArray).toList) == true) = true := by
  subst h
  simp

end Go.Vm
