/-
  Filters: plain facts of bits.
-/
import Derived.Test.YtgpoojjajnlhjaaVm44
import Derived.Laws.BitsLemmas
set_option linter.unusedVariables false
set_option linter.unusedSimpArgs false
namespace Go.Filt
/-- A number's bits. -/
abbrev B (x : Int) : BitVec 64 := BitVec.ofInt 64 x
def bt (x : Int) (k : Nat) : Bool := (B x).getLsbD k
theorem wrap_B (v : BitVec 64) : B (IntKind.wrap .i64 (v.toNat : Int)) = v := by
  apply BitVec.eq_of_toNat_eq
  rw [BitVec.toNat_ofInt, IntKind.wrap_i64]
  have := v.isLt
  have e : ((2 ^ 64 : Nat) : Int) = 18446744073709551616 := by decide
  rw [e]
  omega
theorem B_xor (x y : Int) : B (bits .xor .i64 x y) = B x ^^^ B y := by
  unfold bits
  exact wrap_B _
theorem B_and (x y : Int) : B (bits .and .i64 x y) = B x &&& B y := by
  unfold bits
  exact wrap_B _
theorem wrap_zero (v : BitVec 64) : IntKind.wrap .i64 (v.toNat : Int) = 0 ↔ v = 0#64 := by
  constructor
  · intro h
    have := wrap_B v
    rw [h] at this
    rw [← this]
    rfl
  · rintro rfl
    rfl
theorem m11 (k : Nat) : (B 2047).getLsbD k = decide (k < 11) := by
  have e : B 2047 = BitVec.ofNat 64 (2 ^ 11 - 1) := by decide
  rw [e, BitVec.getLsbD_ofNat, Nat.testBit_two_pow_sub_one]
  by_cases h : k < 11
  · simp [h]; omega
  · simp [h]
/-- Does a filter let an identifier pass, bit by bit? -/
def mP (c m x : Int) : Bool := (List.range 11).all fun k => !(bt m k) || (bt c k == bt x k)
theorem pass_bits (c m x : Int) : (bits .and .i64 (bits .and .i64 (bits .xor .i64 x c) m) 2047 = 0) ↔ mP c m x = true := by
  have h : bits .and .i64 (bits .and .i64 (bits .xor .i64 x c) m) 2047 = IntKind.wrap .i64 ((((B x ^^^ B c) &&& B m) &&& B 2047).toNat : Int) := by
    rw [← B_xor, ← B_and]
    rfl
  rw [h, wrap_zero]
  unfold mP
  rw [List.all_eq_true]
  constructor
  · intro e k hk
    have hk := List.mem_range.1 hk
    have := congrArg (fun v => v.getLsbD k) e
    simp only [BitVec.getLsbD_and, BitVec.getLsbD_xor, m11, BitVec.getLsbD_zero, hk, decide_true, Bool.and_true] at this
    unfold bt
    revert this
    cases (B m).getLsbD k <;> cases (B c).getLsbD k <;> cases (B x).getLsbD k <;> simp
  · intro hA
    apply BitVec.eq_of_getLsbD_eq
    intro k hk
    simp only [BitVec.getLsbD_and, BitVec.getLsbD_xor, m11, BitVec.getLsbD_zero]
    by_cases h11 : k < 11
    · have := hA k (List.mem_range.2 h11)
      unfold bt at this
      revert this
      cases (B m).getLsbD k <;> cases (B c).getLsbD k <;> cases (B x).getLsbD k <;> simp
    · simp [h11]
theorem bt_div (x : Int) (k : Nat) (hk : k < 64) : bt x k = decide (x / 2 ^ k % 2 = 1) := by
  have hp : (0 : Int) < 2 ^ k := Int.pow_pos (by decide)
  have e0 : (2 : Int) ^ 64 = 2 ^ k * (2 * 2 ^ (63 - k)) := by
    rw [show (64 : Nat) = k + (63 - k + 1) by omega, Int.pow_add, Int.pow_succ, Int.mul_comm 2]
  have hx : x = x % 2 ^ 64 + 2 ^ k * (2 * (2 ^ (63 - k) * (x / 2 ^ 64))) := by
    have h := Int.emod_add_mul_ediv x (2 ^ 64)
    rw [e0] at h ⊢
    rw [Int.mul_assoc, Int.mul_assoc] at h
    exact h.symm
  have h2 : x / 2 ^ k = x % 2 ^ 64 / 2 ^ k + 2 * (2 ^ (63 - k) * (x / 2 ^ 64)) := by
    rw [← Int.add_mul_ediv_left _ _ (by omega), ← hx]
  obtain ⟨n, hn⟩ := Int.eq_ofNat_of_zero_le (Int.emod_nonneg x (show (2 : Int) ^ 64 ≠ 0 by decide))
  have h3 : bt x k = decide (n / 2 ^ k % 2 = 1) := by
    unfold bt
    rw [← BitVec.testBit_toNat, BitVec.toNat_ofInt, show ((2 ^ 64 : Nat) : Int) = 2 ^ 64 by decide, hn, Int.toNat_natCast, Nat.testBit_eq_decide_div_mod_eq]
  rw [h3, h2, hn]
  have h4 : ((n : Int) / 2 ^ k) = ((n / 2 ^ k : Nat) : Int) := by simp
  rw [h4]
  generalize n / 2 ^ k = a
  generalize 2 ^ (63 - k) * (x / 2 ^ 64) = c
  exact decide_eq_decide.2 (by omega)
/-- The document's bit. -/
theorem bit_ref (x : Int) (k : Nat) (hk : k < 64) : bits .and .i64 (Int.fdiv x (2 ^ k)) 1 = if bt x k = true then 1 else 0 := by
  have hp : (0 : Int) < 2 ^ k := Int.pow_pos (by decide)
  rw [Int.fdiv_eq_ediv_of_nonneg _ (Int.le_of_lt hp), bt_div x k hk]
  have h := bt_div (x / 2 ^ k) 0 (by decide)
  rw [Int.pow_zero, Int.ediv_one] at h
  have hb : bits .and .i64 (x / 2 ^ k) 1 = IntKind.wrap .i64 ((B (x / 2 ^ k) &&& B 1).toNat : Int) := rfl
  have h2 : B (x / 2 ^ k) &&& B 1 = if bt (x / 2 ^ k) 0 = true then 1#64 else 0#64 := by
    apply BitVec.eq_of_getLsbD_eq
    intro i hi
    have e : (B 1).getLsbD i = decide (i = 0) := by
      have : B 1 = 1#64 := rfl
      rw [this]
      simp [BitVec.getLsbD_one]
    rw [BitVec.getLsbD_and, e]
    by_cases h0 : i = 0
    · subst h0
      show (bt (x / 2 ^ k) 0 && _) = _
      cases bt (x / 2 ^ k) 0 <;> simp
    · cases bt (x / 2 ^ k) 0 <;> simp [h0, BitVec.getLsbD_one]
  rw [hb, h2, h]
  by_cases hc : x / 2 ^ k % 2 = 1
  · simp [hc]; rfl
  · simp [hc]; rfl
end Go.Filt
