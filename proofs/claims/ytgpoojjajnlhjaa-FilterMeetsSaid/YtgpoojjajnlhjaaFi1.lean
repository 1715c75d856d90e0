/-
  Filters: how many identifiers pass.
-/
import Derived.Test.YtgpoojjajnlhjaaFi0
set_option linter.unusedVariables false
set_option linter.unusedSimpArgs false
namespace Go.Filt
/-- How many numbers below another one. -/
def cn (f : Nat → Bool) : Nat → Nat
  | 0 => 0
  | n + 1 => cn f n + (if f n = true then 1 else 0)
theorem cn_add (f : Nat → Bool) (a : Nat) : ∀ b, cn f (a + b) = cn f a + cn (fun i => f (a + i)) b
  | 0 => rfl
  | b + 1 => by
    show cn f (a + b) + (if f (a + b) = true then 1 else 0) = cn f a + (cn (fun i => f (a + i)) b + (if f (a + b) = true then 1 else 0))
    rw [cn_add f a b]
    omega
theorem cn_congr {f g : Nat → Bool} : ∀ (n : Nat), (∀ i, i < n → f i = g i) → cn f n = cn g n
  | 0, _ => rfl
  | n + 1, h => by rw [cn, cn, cn_congr n (fun i hi => h i (by omega)), h n (by omega)]
theorem cn_le (f : Nat → Bool) : ∀ n, cn f n ≤ n
  | 0 => Nat.le_refl _
  | n + 1 => by have := cn_le f n; rw [cn]; split <;> omega
theorem cn_pos {f : Nat → Bool} : ∀ {n : Nat}, 0 < cn f n ↔ ∃ i, i < n ∧ f i = true
  | 0 => by simp [cn]
  | n + 1 => by
    rw [cn]
    have ih := cn_pos (f := f) (n := n)
    constructor
    · intro h
      by_cases hn : f n = true
      · exact ⟨n, by omega, hn⟩
      · rw [if_neg hn] at h
        obtain ⟨i, h1, h2⟩ := ih.1 (by omega)
        exact ⟨i, by omega, h2⟩
    · rintro ⟨i, h1, h2⟩
      by_cases hn : f n = true
      · rw [if_pos hn]; omega
      · have : i ≠ n := by rintro rfl; exact hn h2
        have := ih.2 ⟨i, by omega, h2⟩
        omega
theorem cn_or (f g : Nat → Bool) : ∀ n, cn (fun i => f i || g i) n + cn (fun i => f i && g i) n = cn f n + cn g n
  | 0 => rfl
  | n + 1 => by
    have ih := cn_or f g n
    simp only [cn]
    by_cases hf : f n = true <;> by_cases hg : g n = true <;> simp [hf, hg] <;> omega
/-- Does a filter of so many bits let an identifier pass? -/
def mPk (K : Nat) (c m x : Int) : Bool := (List.range K).all fun k => !(bt m k) || (bt c k == bt x k)
/-- How many bits are not asked for. -/
def zs (m : Int) : Nat → Nat
  | 0 => 0
  | k + 1 => zs m k + (if bt m k = true then 0 else 1)
theorem bt_nat (i k : Nat) (hk : k < 64) : bt (i : Int) k = decide (i / 2 ^ k % 2 = 1) := by
  rw [bt_div _ _ hk]
  have h4 : ((i : Int) / 2 ^ k) = ((i / 2 ^ k : Nat) : Int) := by simp
  rw [h4]
  exact decide_eq_decide.2 (by omega)
theorem bt_low (K i k : Nat) (hk : k < K) (h64 : K < 64) : bt ((2 ^ K + i : Nat) : Int) k = bt (i : Int) k := by
  rw [bt_nat _ _ (by omega), bt_nat _ _ (by omega)]
  have e : 2 ^ K = 2 ^ k * (2 * 2 ^ (K - k - 1)) := by
    rw [← Nat.pow_succ', ← Nat.pow_add]
    congr 1
    omega
  rw [e, Nat.mul_add_div (Nat.pow_pos (by decide))]
  generalize 2 ^ (K - k - 1) = t
  exact decide_eq_decide.2 (by omega)
theorem bt_top (K i : Nat) (hi : i < 2 ^ K) (h64 : K < 64) : bt ((i : Nat) : Int) K = false ∧ bt ((2 ^ K + i : Nat) : Int) K = true := by
  rw [bt_nat _ _ h64, bt_nat _ _ h64]
  have hp : 0 < 2 ^ K := Nat.pow_pos (by decide)
  rw [Nat.div_eq_of_lt hi, Nat.add_div_left _ hp, Nat.div_eq_of_lt hi]
  exact ⟨rfl, rfl⟩
theorem mPk_succ (K : Nat) (c m x : Int) : mPk (K + 1) c m x = (mPk K c m x && (!(bt m K) || (bt c K == bt x K))) := by
  unfold mPk
  rw [List.range_succ, List.all_append, List.all_cons, List.all_nil, Bool.and_true]
theorem mPk_low (c m : Int) (K i : Nat) (h64 : K < 64) : mPk K c m ((2 ^ K + i : Nat) : Int) = mPk K c m (i : Int) := by
  unfold mPk
  rw [Bool.eq_iff_iff, List.all_eq_true, List.all_eq_true]
  constructor
  · intro h k hk
    have := h k hk
    rwa [bt_low K i k (List.mem_range.1 hk) h64] at this
  · intro h k hk
    rw [bt_low K i k (List.mem_range.1 hk) h64]
    exact h k hk
theorem cn_none (n : Nat) {f : Nat → Bool} (h : ∀ i, i < n → f i = false) : cn f n = 0 := by
  rw [cn_congr n (g := fun _ => false) h]
  induction n with
  | zero => rfl
  | succ n ih => rw [cn, ih (fun i hi => h i (by omega))]; rfl
theorem cn_bits (c m : Int) : ∀ K, K < 64 → cn (fun i => mPk K c m (i : Int)) (2 ^ K) = 2 ^ zs m K
  | 0, _ => rfl
  | K + 1, h => by
    have ih := cn_bits c m K (by omega)
    rw [show 2 ^ (K + 1) = 2 ^ K + 2 ^ K by rw [Nat.pow_succ]; omega, cn_add]
    by_cases hm : bt m K = true
    · rw [show zs m (K + 1) = zs m K by rw [zs, if_pos hm]; rfl]
      cases hc : bt c K with
      | false =>
        have e1 : cn (fun i => mPk (K + 1) c m (i : Int)) (2 ^ K) = 2 ^ zs m K := by
          rw [← ih]
          exact cn_congr _ fun i hi => by rw [mPk_succ, (bt_top K i hi (by omega)).1, hm, hc]; simp
        have e2 : cn (fun i => mPk (K + 1) c m ((2 ^ K + i : Nat) : Int)) (2 ^ K) = 0 := cn_none _ fun i hi => by
          rw [mPk_succ, (bt_top K i hi (by omega)).2, hm, hc]; simp
        rw [e1, e2, Nat.add_zero]
      | true =>
        have e1 : cn (fun i => mPk (K + 1) c m (i : Int)) (2 ^ K) = 0 := cn_none _ fun i hi => by
          rw [mPk_succ, (bt_top K i hi (by omega)).1, hm, hc]; simp
        have e2 : cn (fun i => mPk (K + 1) c m ((2 ^ K + i : Nat) : Int)) (2 ^ K) = 2 ^ zs m K := by
          rw [← ih]
          exact cn_congr _ fun i hi => by rw [mPk_succ, (bt_top K i hi (by omega)).2, hm, hc, mPk_low c m K i (by omega)]; simp
        rw [e1, e2, Nat.zero_add]
    · rw [show zs m (K + 1) = zs m K + 1 by rw [zs, if_neg hm]]
      have hm' : bt m K = false := by simpa using hm
      have e1 : cn (fun i => mPk (K + 1) c m (i : Int)) (2 ^ K) = 2 ^ zs m K := by
        rw [← ih]
        exact cn_congr _ fun i hi => by rw [mPk_succ, hm']; simp
      have e2 : cn (fun i => mPk (K + 1) c m ((2 ^ K + i : Nat) : Int)) (2 ^ K) = 2 ^ zs m K := by
        rw [← ih]
        exact cn_congr _ fun i hi => by rw [mPk_succ, hm', mPk_low c m K i (by omega)]; simp
      rw [e1, e2, Nat.pow_succ]; omega
theorem cn_size (c m : Int) : cn (fun i => mP c m (i : Int)) 2048 = 2 ^ zs m 11 := cn_bits c m 11 (by decide)
/-- Is there one that both let pass? -/
theorem meet_bits (ca ma cb mb : Int) : (bits .and .i64 (bits .and .i64 (bits .and .i64 (bits .xor .i64 ca cb) ma) mb) 2047 = 0) ↔ 0 < cn (fun i => mP ca ma (i : Int) && mP cb mb (i : Int)) 2048 := by
  have h : bits .and .i64 (bits .and .i64 (bits .and .i64 (bits .xor .i64 ca cb) ma) mb) 2047 = IntKind.wrap .i64 (((((B ca ^^^ B cb) &&& B ma) &&& B mb) &&& B 2047).toNat : Int) := by
    rw [← B_xor, ← B_and, ← B_and]
    rfl
  rw [h, wrap_zero, cn_pos]
  constructor
  · intro e
    refine ⟨((((B ca &&& B ma) ||| (B cb &&& ~~~ B ma)) &&& B 2047)).toNat, ?_, ?_⟩
    · rw [BitVec.toNat_and]
      exact Nat.lt_of_le_of_lt Nat.and_le_right (by decide)
    · have hb : ∀ k, k < 11 → bt ((((((B ca &&& B ma) ||| (B cb &&& ~~~ B ma)) &&& B 2047)).toNat : Nat) : Int) k = if bt ma k = true then bt ca k else bt cb k := by
        intro k hk
        unfold bt
        rw [show B ((((((B ca &&& B ma) ||| (B cb &&& ~~~ B ma)) &&& B 2047)).toNat : Nat) : Int) = ((B ca &&& B ma) ||| (B cb &&& ~~~ B ma)) &&& B 2047 by rw [B, BitVec.ofInt_natCast, BitVec.ofNat_toNat, BitVec.setWidth_eq]]
        simp only [BitVec.getLsbD_and, BitVec.getLsbD_or, BitVec.getLsbD_not, m11, hk, decide_true, Bool.and_true, show k < 64 by omega, Bool.true_and]
        cases (B ma).getLsbD k <;> simp
      rw [Bool.and_eq_true]
      unfold mP
      rw [List.all_eq_true, List.all_eq_true]
      refine ⟨fun k hk => ?_, fun k hk => ?_⟩
      · rw [hb k (List.mem_range.1 hk)]
        cases bt ma k <;> simp
      · rw [hb k (List.mem_range.1 hk)]
        have := congrArg (fun v => v.getLsbD k) e
        simp only [BitVec.getLsbD_and, BitVec.getLsbD_xor, m11, BitVec.getLsbD_zero, List.mem_range.1 hk, decide_true, Bool.and_true] at this
        unfold bt
        revert this
        cases (B ma).getLsbD k <;> cases (B ca).getLsbD k <;> cases (B cb).getLsbD k <;> cases (B mb).getLsbD k <;> simp
  · rintro ⟨i, hi, h2⟩
    rw [Bool.and_eq_true] at h2
    obtain ⟨h3, h4⟩ := h2
    unfold mP at h3 h4
    rw [List.all_eq_true] at h3 h4
    apply BitVec.eq_of_getLsbD_eq
    intro k hk
    simp only [BitVec.getLsbD_and, BitVec.getLsbD_xor, m11, BitVec.getLsbD_zero]
    by_cases h11 : k < 11
    · have a := h3 k (List.mem_range.2 h11)
      have b := h4 k (List.mem_range.2 h11)
      unfold bt at a b
      revert a b
      generalize (B (i : Int)).getLsbD k = x
      cases (B ma).getLsbD k <;> cases (B ca).getLsbD k <;> cases (B cb).getLsbD k <;> cases (B mb).getLsbD k <;> cases x <;> simp
    · simp [h11]
end Go.Filt
