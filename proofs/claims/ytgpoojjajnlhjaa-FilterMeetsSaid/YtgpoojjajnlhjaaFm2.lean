/-
  Two filters meet just if there is an identifier that both let pass.
-/
import Derived.Test.YtgpoojjajnlhjaaFm1
set_option linter.unusedVariables false
set_option linter.unusedSimpArgs false
set_option maxRecDepth 100000
namespace Go.Proofs.Ytgpoojjajnlhjaa.filt
open Go Go.Vm Go.Filt

theorem ps1 (c m : Int) (k : Nat) (hk : k < 2048) : psV [(c, m)] 1 (k : Int) = mP c m (k : Int) := by
  unfold psV anV isV
  rw [decide_eq_true (show (0 : Int) ≤ (k : Int) by omega), decide_eq_true (show (k : Int) ≤ 2047 by omega)]
  simp [List.range_succ, gF]
theorem ps2 (ca ma cb mb : Int) (k : Nat) (hk : k < 2048) : psV [(ca, ma), (cb, mb)] 2 (k : Int) = (mP ca ma (k : Int) || mP cb mb (k : Int)) := by
  unfold psV anV isV
  rw [decide_eq_true (show (0 : Int) ≤ (k : Int) by omega), decide_eq_true (show (k : Int) ≤ 2047 by omega)]
  simp [List.range_succ, gF]
theorem ms_all (ca ma cb mb : Int) : ∀ (d k : Nat), k + d = 2048 → LOK cfg none (lb 4 0) (u_ :: u_ :: (.ptr (some (0, 0))) :: (.ptr (some (1, 0))) :: u_ :: (.sl 2 (some (2, 0)) 1) :: (.sl 2 (some (3, 0)) 1) :: (i6 (((cn (fun i => mP ca ma (i : Int) && mP cb mb (i : Int)) k) : Nat) : Int)) :: (i6 (((cn (fun i => mP ca ma (i : Int)) k) : Nat) : Int)) :: (i6 (((cn (fun i => mP cb mb (i : Int)) k) : Nat) : Int)) :: (i6 ((k : Nat) : Int)) :: us 78) [c1 [(i6 ca), (i6 ma)], c1 [(i6 cb), (i6 mb)], c1 [(i6 ca), (i6 ma)], c1 [(i6 cb), (i6 mb)]] (.exit 0) (u_ :: u_ :: (.ptr (some (0, 0))) :: (.ptr (some (1, 0))) :: u_ :: u_ :: u_ :: (i6 (((cn (fun i => mP ca ma (i : Int) && mP cb mb (i : Int)) 2048) : Nat) : Int)) :: (i6 (((cn (fun i => mP ca ma (i : Int)) 2048) : Nat) : Int)) :: (i6 (((cn (fun i => mP cb mb (i : Int)) 2048) : Nat) : Int)) :: us 79) [c1 [(i6 ca), (i6 ma)], c1 [(i6 cb), (i6 mb)], d_, d_] := by
  intro d
  induction d with
  | zero =>
    intro k hk
    have : k = 2048 := by omega
    subst this
    exact ms_x ca ma cb mb _ _ _ 2048 0 0 0 (decide_eq_false (by omega))
  | succ d IH =>
    intro k hk
    have ih := IH (k + 1) (by omega)
    have e1 := cn_le (fun i => mP ca ma (i : Int)) k
    have e2 := cn_le (fun i => mP cb mb (i : Int)) k
    have e3 := cn_le (fun i => mP ca ma (i : Int) && mP cb mb (i : Int)) k
    rw [cn, cn, cn] at ih
    cases hp : mP ca ma (k : Int) with
    | true =>
      cases hq : mP cb mb (k : Int) with
      | true =>
        simp only [hp, hq, Bool.and_self, if_true] at ih
        exact ms_tt ca ma cb mb _ _ _ k _ _ _ (decide_eq_true (by omega)) (Nat.le_refl _) (by decide) (Nat.le_refl _) (by rw [ps1 _ _ _ (by omega)]; exact hp) (by rw [ps1 _ _ _ (by omega)]; exact hq) ((wrap_i64 (by omega)).trans (by omega)) ((wrap_i64 (by omega)).trans (by omega)) ((wrap_i64 (by omega)).trans (by omega)) ((wrap_i64 (by omega)).trans (by omega)) ih
      | false =>
        simp only [hp, hq, Bool.and_false, if_true, if_false, Bool.false_eq_true, Nat.add_zero] at ih
        exact ms_tf ca ma cb mb _ _ _ k _ _ _ (decide_eq_true (by omega)) (Nat.le_refl _) (by decide) (Nat.le_refl _) (by rw [ps1 _ _ _ (by omega)]; exact hp) (by rw [ps1 _ _ _ (by omega)]; exact hq) ((wrap_i64 (by omega)).trans (by omega)) ((wrap_i64 (by omega)).trans (by omega)) ih
    | false =>
      cases hq : mP cb mb (k : Int) with
      | true =>
        simp only [hp, hq, Bool.false_and, if_true, if_false, Bool.false_eq_true, Nat.add_zero] at ih
        exact ms_ft ca ma cb mb _ _ _ k _ _ _ (decide_eq_true (by omega)) (Nat.le_refl _) (by decide) (Nat.le_refl _) (by rw [ps1 _ _ _ (by omega)]; exact hp) (by rw [ps1 _ _ _ (by omega)]; exact hq) ((wrap_i64 (by omega)).trans (by omega)) ((wrap_i64 (by omega)).trans (by omega)) ih
      | false =>
        simp only [hp, hq, Bool.false_and, if_true, if_false, Bool.false_eq_true, Nat.add_zero] at ih
        exact ms_ff ca ma cb mb _ _ _ k _ _ _ (decide_eq_true (by omega)) (Nat.le_refl _) (by decide) (Nat.le_refl _) (by rw [ps1 _ _ _ (by omega)]; exact hp) (by rw [ps1 _ _ _ (by omega)]; exact hq) ((wrap_i64 (by omega)).trans (by omega)) ih
theorem law_m (ca ma cb mb : Int) : ∃ H', OK cfg (.fn 4 []) [.agg [.int .i64 ca, .int .i64 ma], .agg [.int .i64 cb, .int .i64 mb]] [] (.bool true) H' := by
  have hl := ms_all ca ma cb mb 2048 0 (by omega)
  have b1 := cn_le (fun i => mP ca ma (i : Int)) 2048
  have b2 := cn_le (fun i => mP cb mb (i : Int)) 2048
  have b3 := cn_le (fun i => mP ca ma (i : Int) && mP cb mb (i : Int)) 2048
  have hor : cn (fun i => mP ca ma (i : Int) || mP cb mb (i : Int)) 2048 + (cn (fun i => mP ca ma (i : Int) && mP cb mb (i : Int)) 2048) = (cn (fun i => mP ca ma (i : Int)) 2048) + (cn (fun i => mP cb mb (i : Int)) 2048) := cn_or (fun i => mP ca ma (i : Int)) (fun i => mP cb mb (i : Int)) 2048
  have hc : cn (fun i => psV [(ca, ma), (cb, mb)] 2 (i : Int)) 2048 = cn (fun i => mP ca ma (i : Int) || mP cb mb (i : Int)) 2048 := cn_congr _ fun i hi => ps2 ca ma cb mb i hi
  have hw : IntKind.wrap .i64 (IntKind.wrap .i64 ((((cn (fun i => mP ca ma (i : Int)) 2048) : Nat) : Int) + (((cn (fun i => mP cb mb (i : Int)) 2048) : Nat) : Int)) - (((cn (fun i => mP ca ma (i : Int) && mP cb mb (i : Int)) 2048) : Nat) : Int)) = ((cn (fun i => mP ca ma (i : Int) || mP cb mb (i : Int)) 2048 : Nat) : Int) := by
    rw [show IntKind.wrap .i64 ((((cn (fun i => mP ca ma (i : Int)) 2048) : Nat) : Int) + (((cn (fun i => mP cb mb (i : Int)) 2048) : Nat) : Int)) = (((cn (fun i => mP ca ma (i : Int)) 2048) : Nat) : Int) + (((cn (fun i => mP cb mb (i : Int)) 2048) : Nat) : Int) from wrap_i64 (by omega), wrap_i64 (by omega)]
    omega
  cases hm : meV ca ma cb mb with
  | true => exact ⟨_, lw_y ca ma cb mb _ _ _ hl (by rw [cn_size]; exact bne_self_eq_false _) (by rw [cn_size]; exact bne_self_eq_false _) (by unfold meV; rw [show decide ((((cn (fun i => mP ca ma (i : Int) && mP cb mb (i : Int)) 2048) : Nat) : Int) > 0) = decide (0 < (cn (fun i => mP ca ma (i : Int) && mP cb mb (i : Int)) 2048)) from decide_eq_decide.2 (by omega)]; simp) (Nat.le_refl _) (by decide) (by rw [hc, hw]; exact beq_iff_eq.2 rfl) hm⟩
  | false =>
    have h0 : (cn (fun i => mP ca ma (i : Int) && mP cb mb (i : Int)) 2048) = 0 := by
      unfold meV at hm
      rw [decide_eq_false_iff_not] at hm
      omega
    refine ⟨_, OK.eqv (lw_n ca ma cb mb _ _ _ hl (by rw [cn_size]; exact bne_self_eq_false _) (by rw [cn_size]; exact bne_self_eq_false _) (by unfold meV; rw [show decide ((((cn (fun i => mP ca ma (i : Int) && mP cb mb (i : Int)) 2048) : Nat) : Int) > 0) = decide (0 < (cn (fun i => mP ca ma (i : Int) && mP cb mb (i : Int)) 2048)) from decide_eq_decide.2 (by omega)]; simp) (Nat.le_refl _) (by decide) (by rw [hc, hw]; exact beq_iff_eq.2 rfl) hm) (congrArg V.bool ?_)⟩
    rw [hc, ← cn_size ca ma, ← cn_size cb mb, wrap_i64 (by omega)]
    exact beq_iff_eq.2 (by omega)
theorem typed_f {r : List V} (h : Typed [.int .i64, .int .i64] r) : ∃ x : FT, r = encR x := by
  match r, h with
  | [.int k i, .int k2 n], h =>
    obtain ⟨⟨rfl, _⟩, ⟨rfl, _⟩, _⟩ := h
    exact ⟨(i, n), rfl⟩
theorem f_leaves : leaves Try.prog 3 36 = [.int .i64, .int .i64] := by kernel_rfl
end Go.Proofs.Ytgpoojjajnlhjaa.filt
namespace Go.Proofs.Ytgpoojjajnlhjaa.filterMeets
open Go Go.Vm
noncomputable abbrev cfg : Cfg := filt.cfg
theorem law (a0 : List V) (w0 : Typed (leaves Try.prog 3 36) a0) (a1 : List V) (w1 : Typed (leaves Try.prog 3 36) a1) : ∃ H', OK cfg (.fn 4 []) [.agg a0, .agg a1] [] (.bool true) H' := by
  rw [filt.f_leaves] at w0 w1
  obtain ⟨x, rfl⟩ := filt.typed_f w0
  obtain ⟨y, rfl⟩ := filt.typed_f w1
  exact filt.law_m x.1 x.2 y.1 y.2

end Go.Proofs.Ytgpoojjajnlhjaa.filterMeets
