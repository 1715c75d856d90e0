/-
  How many identifiers a filter lets pass: bits are counted.
-/
import Derived.Test.YtgpoojjajnlhjaaFi1
set_option linter.unusedVariables false
set_option linter.unusedSimpArgs false
namespace Go.Filt
/-! ### How many bits a number has -/
def a1 (x : Nat) : Nat := (x / 2 &&& 6148914691236517205) + (x &&& 6148914691236517205)
def a2 (x : Nat) : Nat := (x / 4 &&& 3689348814741910323) + (x &&& 3689348814741910323)
def a3 (x : Nat) : Nat := (x / 16 + x) &&& 1085102592571150095
def a4 (x : Nat) : Nat := x + x / 256
def a5 (x : Nat) : Nat := x + x / 65536
def a6 (x : Nat) : Nat := x + x / 4294967296
theorem and_u64 (a b : Nat) (ha : a < 1000000) (hb : b < 2 ^ 64) : bits .and .u64 (a : Int) (b : Int) = ((a &&& b : Nat) : Int) := by
  have h : bits .and .u64 (a : Int) (b : Int) = IntKind.wrap .u64 ((B a &&& B b).toNat : Int) := rfl
  have e1 : (B (a : Int)).toNat = a := by rw [BitVec.toNat_ofInt]; omega
  have e2 : (B (b : Int)).toNat = b := by rw [BitVec.toNat_ofInt]; omega
  rw [h, BitVec.toNat_and, e1, e2]
  have : a &&& b ≤ a := Nat.and_le_left
  simp [IntKind.wrap, IntKind.bits, IntKind.signed]
  omega
theorem wrap_u64 {n : Nat} (h : n < 2 ^ 64) : IntKind.wrap .u64 (n : Int) = (n : Int) := by
  simp [IntKind.wrap, IntKind.bits, IntKind.signed]
  omega
theorem fdiv_nat (a b : Nat) (hb : 0 < b) : Int.fdiv (a : Int) (b : Int) = ((a / b : Nat) : Int) := by
  rw [Int.fdiv_eq_ediv_of_nonneg _ (by omega)]
  simp
theorem s1 (n : Nat) (h : n < 100000) : IntKind.wrap .u64 ((bits .and .u64 (Int.fdiv (n : Int) 2) 6148914691236517205) + (bits .and .u64 (n : Int) 6148914691236517205)) = ((a1 n : Nat) : Int) := by
  have e := fdiv_nat n 2 (by decide)
  have g1 := and_u64 (n / 2) 6148914691236517205 (by omega) (by decide)
  have g2 := and_u64 n 6148914691236517205 (by omega) (by decide)
  have q1 : n / 2 &&& 6148914691236517205 ≤ n / 2 := Nat.and_le_left
  have q2 : n &&& 6148914691236517205 ≤ n := Nat.and_le_left
  have : ((6148914691236517205 : Nat) : Int) = 6148914691236517205 := rfl
  rw [this] at g1 g2
  have : ((2 : Nat) : Int) = 2 := rfl
  rw [this] at e
  rw [e, g1, g2, ← Int.natCast_add]
  exact wrap_u64 (by omega)
theorem s2 (n : Nat) (h : n < 100000) : IntKind.wrap .u64 ((bits .and .u64 (Int.fdiv (n : Int) 4) 3689348814741910323) + (bits .and .u64 (n : Int) 3689348814741910323)) = ((a2 n : Nat) : Int) := by
  have e := fdiv_nat n 4 (by decide)
  have g1 := and_u64 (n / 4) 3689348814741910323 (by omega) (by decide)
  have g2 := and_u64 n 3689348814741910323 (by omega) (by decide)
  have q1 : n / 4 &&& 3689348814741910323 ≤ n / 4 := Nat.and_le_left
  have q2 : n &&& 3689348814741910323 ≤ n := Nat.and_le_left
  have : ((3689348814741910323 : Nat) : Int) = 3689348814741910323 := rfl
  rw [this] at g1 g2
  have : ((4 : Nat) : Int) = 4 := rfl
  rw [this] at e
  rw [e, g1, g2, ← Int.natCast_add]
  exact wrap_u64 (by omega)
theorem s3 (n : Nat) (h : n < 100000) : bits .and .u64 (IntKind.wrap .u64 ((Int.fdiv (n : Int) 16) + (n : Int))) 1085102592571150095 = ((a3 n : Nat) : Int) := by
  have e := fdiv_nat n 16 (by decide)
  have : ((16 : Nat) : Int) = 16 := rfl
  rw [this] at e
  rw [e, ← Int.natCast_add, wrap_u64 (by omega)]
  exact and_u64 (n / 16 + n) 1085102592571150095 (by omega) (by decide)
theorem s4 (n : Nat) (h : n < 200000) : IntKind.wrap .u64 ((n : Int) + (Int.fdiv (n : Int) 256)) = ((a4 n : Nat) : Int) := by
  have e := fdiv_nat n 256 (by decide)
  have : ((256 : Nat) : Int) = 256 := rfl
  rw [this] at e
  rw [e, ← Int.natCast_add]
  exact wrap_u64 (by omega)
theorem s5 (n : Nat) (h : n < 300000) : IntKind.wrap .u64 ((n : Int) + (Int.fdiv (n : Int) 65536)) = ((a5 n : Nat) : Int) := by
  have e := fdiv_nat n 65536 (by decide)
  have : ((65536 : Nat) : Int) = 65536 := rfl
  rw [this] at e
  rw [e, ← Int.natCast_add]
  exact wrap_u64 (by omega)
theorem s6 (n : Nat) (h : n < 400000) : IntKind.wrap .u64 ((n : Int) + (Int.fdiv (n : Int) 4294967296)) = ((a6 n : Nat) : Int) := by
  have e := fdiv_nat n 4294967296 (by decide)
  have : ((4294967296 : Nat) : Int) = 4294967296 := rfl
  rw [this] at e
  rw [e, ← Int.natCast_add]
  exact wrap_u64 (by omega)
theorem s7 (n : Nat) (h : n < 500000) : bits .and .i64 (IntKind.wrap .i64 (n : Int)) 127 = ((n &&& 127 : Nat) : Int) := by
  have e : IntKind.wrap .i64 (n : Int) = (n : Int) := by rw [IntKind.wrap_i64]; omega
  have h0 : bits .and .i64 (n : Int) 127 = IntKind.wrap .i64 ((B n &&& B 127).toNat : Int) := rfl
  have e1 : (B (n : Int)).toNat = n := by rw [BitVec.toNat_ofInt]; omega
  have e2 : (B 127).toNat = 127 := by decide
  have : n &&& 127 ≤ n := Nat.and_le_left
  rw [e, h0, BitVec.toNat_and, e1, e2, IntKind.wrap_i64]
  omega
theorem b1 {n : Nat} (h : n < 2048) : a1 n < 4096 := by
  have q1 : n / 2 &&& 6148914691236517205 ≤ n / 2 := Nat.and_le_left
  have q2 : n &&& 6148914691236517205 ≤ n := Nat.and_le_left
  unfold a1; omega
theorem b2 {n : Nat} (h : n < 4096) : a2 n < 8192 := by
  have q1 : n / 4 &&& 3689348814741910323 ≤ n / 4 := Nat.and_le_left
  have q2 : n &&& 3689348814741910323 ≤ n := Nat.and_le_left
  unfold a2; omega
theorem b3 {n : Nat} (h : n < 8192) : a3 n < 16384 := by
  have q1 : (n / 16 + n) &&& 1085102592571150095 ≤ n / 16 + n := Nat.and_le_left
  unfold a3; omega
theorem b4 {n : Nat} (h : n < 16384) : a4 n < 32768 := by unfold a4; omega
theorem b5 {n : Nat} (h : n < 32768) : a5 n < 65536 := by unfold a5; omega
theorem b6 {n : Nat} (h : n < 65536) : a6 n < 131072 := by unfold a6; omega
/-- The bits of a number, one by one. -/
def pcn (n : Nat) : Nat → Nat
  | 0 => 0
  | k + 1 => pcn n k + n / 2 ^ k % 2
theorem ones_all : (List.range 2048).all (fun n => a6 (a5 (a4 (a3 (a2 (a1 n))))) &&& 127 == pcn n 11) = true := by decide +kernel
theorem ones_eq {n : Nat} (h : n < 2048) : a6 (a5 (a4 (a3 (a2 (a1 n))))) &&& 127 = pcn n 11 := by
  have := (List.all_eq_true.1 ones_all) n (List.mem_range.2 h)
  exact beq_iff_eq.1 this
/-- The bits that a filter does not ask for. -/
def fre (m : Int) : Nat := ((~~~ B m) &&& B 2047).toNat
theorem fre_lt (m : Int) : fre m < 2048 := by
  unfold fre
  rw [BitVec.toNat_and]
  exact Nat.lt_of_le_of_lt Nat.and_le_right (by decide)
theorem fre_is (m : Int) : IntKind.wrap .u64 (bits .and .i64 (bits .xor .i64 (-1) m) 2047) = ((fre m : Nat) : Int) := by
  have h : bits .and .i64 (bits .xor .i64 (-1) m) 2047 = IntKind.wrap .i64 (((B (-1) ^^^ B m) &&& B 2047).toNat : Int) := by
    rw [← B_xor]
    rfl
  have e : B (-1) ^^^ B m = ~~~ B m := by
    have : B (-1) = BitVec.allOnes 64 := by decide
    rw [this, BitVec.xor_comm, BitVec.xor_allOnes]
  rw [h, e]
  have := fre_lt m
  rw [show (((~~~ B m) &&& B 2047).toNat : Int) = ((fre m : Nat) : Int) from rfl, show IntKind.wrap .i64 ((fre m : Nat) : Int) = ((fre m : Nat) : Int) by rw [IntKind.wrap_i64]; omega]
  exact wrap_u64 (by omega)
theorem fre_zs (m : Int) : pcn (fre m) 11 = zs m 11 := by
  have key : ∀ k, k ≤ 11 → pcn (fre m) k = zs m k := by
    intro k
    induction k with
    | zero => intro _; rfl
    | succ k ih =>
      intro hk
      rw [pcn, zs, ih (by omega)]
      congr 1
      have h1 : (fre m).testBit k = !(bt m k) := by
        unfold fre bt
        rw [BitVec.testBit_toNat, BitVec.getLsbD_and, BitVec.getLsbD_not, m11]
        simp [show k < 64 by omega, show k < 11 by omega]
      rw [Nat.testBit_eq_decide_div_mod_eq] at h1
      cases hb : bt m k with
      | true => rw [hb] at h1; simp at h1; simp; omega
      | false => rw [hb] at h1; simp at h1; simp; omega
  exact key 11 (Nat.le_refl _)
end Go.Filt
