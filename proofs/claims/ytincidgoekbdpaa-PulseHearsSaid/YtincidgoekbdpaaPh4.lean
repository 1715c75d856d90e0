/-
  The law of the pulses that are heard: its loop, and the law.
-/
import Derived.Test.YtincidgoekbdpaaPh3
set_option linter.unusedVariables false
set_option linter.unusedSimpArgs false
set_option maxRecDepth 100000
namespace Go.Proofs.Ytincidgoekbdpaa.pulses
open Go Go.Vm

theorem ov_f {n : Int} (h : n = 0 ∨ 2 ≤ n ∧ n ≤ 240) : (!(ovB n)) = false := by simp [ovB]; omega
theorem ov_t {n : Int} (h : ¬ (n = 0 ∨ 2 ≤ n ∧ n ≤ 240)) : (!(ovB n)) = true := by simp [ovB]; omega
theorem rov_f {n : Int} (h : n = 0 ∨ 2 ≤ n ∧ n ≤ 240) : (!(rovB n)) = false := by simp [rovB]; omega
theorem rov_t {n : Int} (h : ¬ (n = 0 ∨ 2 ≤ n ∧ n ≤ 240)) : (!(rovB n)) = true := by simp [rovB]; omega
theorem ph_all (S : List (Int × Bool × Int × Int × Int × Int × Int × Int × Int × Int × Int)) (ov rate : Int) (hS : ∀ i, i < S.length → 0 ≤ (gF S i).2.2.2.1 ∧ (gF S i).2.2.2.1 < 256) (ho : ov = 0 ∨ 2 ≤ ov ∧ ov ≤ 240) : ∀ (m i : Nat) (C : List Int), i + m = 60 → C.length ≤ i → (∀ x ∈ C, (ov = 0 ∧ x = 0) ∨ (1 ≤ x ∧ x ≤ ov)) → LOK cfg none (lb 4 0) ((.int .i64 ov) :: (.sl 11 (some (0, 0)) S.length) :: (.int .i64 rate) :: u_ :: u_ :: u_ :: u_ :: (.ptr (some (1, 0))) :: (.int .i64 0) :: (.sl 1 (some (2, 0)) C.length) :: (.int .i64 ((i : Nat) : Int)) :: us 97) [.cells false ((S.map encF).flatten), .cells true [(.int .i64 ov), (.int .i64 ((C.length : Nat) : Int)), (.int .i64 (gapsR ov C)), (.int .i64 (lastC C))], .cells true ((C).map (V.int .i64))] (.exit 0) (u_ :: u_ :: u_ :: u_ :: u_ :: u_ :: u_ :: u_ :: (.int .i64 0) :: us 99) [.cells false ((S.map encF).flatten), .dead, .dead] := by
  intro m
  induction m with
  | zero =>
    intro i C hi hc hC
    by_cases h : i < S.length
    · exact ph_y S i ov rate C (decide_eq_true (by omega)) (decide_eq_false (by omega)) 
    · exact ph_x S i ov rate C (decide_eq_false (by omega)) 
  | succ m IH =>
    intro i C hi hc hC
    by_cases hl : i < S.length
    case neg => exact ph_x S i ov rate C (decide_eq_false (by omega)) 
    have hd := hS i hl
    have ei : IntKind.wrap .i64 (((i : Nat) : Int) + 1) = (((i + 1) : Nat) : Int) := (wrap_i64 (by omega)).trans (by simp)
    by_cases h : hE ov (gF S i).1 (gF S i).2.1 (gF S i).2.2.1 (gF S i).2.2.2.1 (gF S i).2.2.2.2.1 (gF S i).2.2.2.2.2.1 (gF S i).2.2.2.2.2.2.1 (gF S i).2.2.2.2.2.2.2.1 (gF S i).2.2.2.2.2.2.2.2.1 (gF S i).2.2.2.2.2.2.2.2.2.1 (gF S i).2.2.2.2.2.2.2.2.2.2 = 0
    · obtain ⟨q1, q2, q3, q4⟩ := hE_ok ho h
      have hC2 : ∀ x ∈ (C ++ [(gF S i).2.2.2.1]), (ov = 0 ∧ x = 0) ∨ (1 ≤ x ∧ x ≤ ov) := by
        intro x hx
        rcases List.mem_append.1 hx with hx | hx
        · exact hC x hx
        · have hx : x = (gF S i).2.2.2.1 := List.mem_singleton.1 hx
          omega
      have hlc : 0 ≤ lastC C ∧ lastC C ≤ 240 := by
        by_cases hc0 : C.length = 0
        · have : C = [] := List.eq_nil_of_length_eq_zero hc0
          subst this
          decide
        · have := hC (lastC C) (getD_mem (by omega))
          omega
      have hpl : plains (((C).map (V.int .i64)) ++ ([(.int .i64 (gF S i).2.2.2.1)] : List V)) = true := by
        rw [show ((C).map (V.int .i64)) ++ ([(.int .i64 (gF S i).2.2.2.1)] : List V) = (C ++ [(gF S i).2.2.2.1]).map (V.int .i64) by simp]
        exact plains_map _ (fun _ => rfl) _
      have k := IH (i + 1) (C ++ [(gF S i).2.2.2.1]) (by omega) (by simp; omega) hC2
      exact ph_g S i ov rate C (decide_eq_true (by omega)) (decide_eq_true (by omega)) (by omega) (by omega) ho hd h (by omega) (by have := gapsI_bnd ov C C.length; unfold gapsR; omega) hlc (by omega) (by simp) (by simp) hC2 (by simp; omega) hpl (by rw [gapsR_app]; simp) (by rw [lastC_app]; simp) (lastC_app _ _).symm (gapsR_app _ _ _).symm (by simp) (by simp) ei (by simp) k
    · have k := IH (i + 1) C (by omega) (by omega) hC
      exact ph_b S i ov rate C (decide_eq_true (by omega)) (decide_eq_true (by omega)) (by omega) (by omega) ho hd h (by simp) (by simpa using h) (by simp) hC (by omega) (by simp) (by simp) ei k

theorem typed_f {r : List V} (h : Typed [.int .i64, .bool, .int .i64, .int .u8, .int .u8, .int .u8, .int .u8, .int .u8, .int .u8, .int .u8, .int .u8] r) : ∃ x, r = encF x ∧ (0 ≤ x.2.2.2.1 ∧ x.2.2.2.1 < 256) := by
  match r, h with
  | [.int k i, .bool r, .int k2 n, .int e0 d0, .int e1 d1, .int e2 d2, .int e3 d3, .int e4 d4, .int e5 d5, .int e6 d6, .int e7 d7], h =>
    obtain ⟨⟨rfl, _⟩, _, ⟨rfl, _⟩, ⟨rfl, w0⟩, ⟨rfl, w1⟩, ⟨rfl, w2⟩, ⟨rfl, w3⟩, ⟨rfl, w4⟩, ⟨rfl, w5⟩, ⟨rfl, w6⟩, ⟨rfl, w7⟩, _⟩ := h
    exact ⟨(i, r, n, d0, d1, d2, d3, d4, d5, d6, d7), rfl, wf_u8 w0⟩
theorem law_pr (ov : Int) (rows : List (List V)) (hr : ∀ r ∈ rows, Typed (leaves Try.prog 4 38) r) (rate : Int) : ∃ H', OK cfg (.fn 4 []) [.int .i64 ov, .sl 11 (some (0, 0)) rows.length, .int .i64 rate] [.cells false rows.flatten] (.bool true) H' := by
  have e : leaves Try.prog 4 38 = [.int .i64, .bool, .int .i64, .int .u8, .int .u8, .int .u8, .int .u8, .int .u8, .int .u8, .int .u8, .int .u8] := by kernel_rfl
  rw [e] at hr
  obtain ⟨S, rfl, hS⟩ := rows_of (f := encF) (p := fun x => (0 ≤ x.2.2.2.1 ∧ x.2.2.2.1 < 256)) (fun r hr => typed_f hr) hr
  rw [List.length_map]
  by_cases ho : ov = 0 ∨ 2 ≤ ov ∧ ov ≤ 240
  · have hg : ∀ i, i < S.length → 0 ≤ (gF S i).2.2.2.1 ∧ (gF S i).2.2.2.1 < 256 := fun i h => hS _ (getD_mem h)
    exact ⟨_, phl_or ov S rate (ph_all S ov rate hg ho 60 0 [] rfl (by simp) (by simp)) (ov_f ho) (rov_f ho) rfl rfl rfl rfl rfl⟩
  · exact ⟨_, phl_br ov S rate (ov_t ho) (rov_t ho)⟩
theorem law_pn (ov rate : Int) : ∃ H', OK cfg (.fn 4 []) [.int .i64 ov, .sl 11 none 0, .int .i64 rate] [] (.bool true) H' := by
  by_cases ho : ov = 0 ∨ 2 ≤ ov ∧ ov ≤ 240
  · exact ⟨_, phl_on ov rate (ov_f ho) (rov_f ho)⟩
  · exact ⟨_, phl_bn ov rate (ov_t ho) (rov_t ho)⟩
theorem law_pv (ov rate : Int) : ∃ H', OK cfg (.fn 4 []) [.int .i64 ov, .sl 11 (some (0, 0)) 0, .int .i64 rate] [.void] (.bool true) H' := by
  by_cases ho : ov = 0 ∨ 2 ≤ ov ∧ ov ≤ 240
  · exact ⟨_, phl_ov ov rate (ov_f ho) (rov_f ho)⟩
  · exact ⟨_, phl_bv ov rate (ov_t ho) (rov_t ho)⟩
end Go.Proofs.Ytincidgoekbdpaa.pulses
namespace Go.Proofs.Ytincidgoekbdpaa.pulseHears
open Go Go.Vm
noncomputable abbrev cfg : Cfg := pulses.cfg
theorem law_n (a0 : Int) (w0 : (Lit.int .i64 a0).wf = true) (a2 : Int) (w2 : (Lit.int .i64 a2).wf = true) : ∃ H', OK cfg (.fn 4 []) [.int .i64 a0, .sl 11 none 0, .int .i64 a2] [] (.bool true) H' := pulses.law_pn a0 a2
theorem law_v (a0 : Int) (w0 : (Lit.int .i64 a0).wf = true) (a2 : Int) (w2 : (Lit.int .i64 a2).wf = true) : ∃ H', OK cfg (.fn 4 []) [.int .i64 a0, .sl 11 (some (0, 0)) 0, .int .i64 a2] [.void] (.bool true) H' := pulses.law_pv a0 a2
theorem law_r (a0 : Int) (w0 : (Lit.int .i64 a0).wf = true) (rows : List (List V)) (hr : ∀ r ∈ rows, Typed (leaves Try.prog 4 38) r) (a2 : Int) (w2 : (Lit.int .i64 a2).wf = true) : ∃ H', OK cfg (.fn 4 []) [.int .i64 a0, .sl 11 (some (0, 0)) rows.length, .int .i64 a2] [.cells false rows.flatten] (.bool true) H' := pulses.law_pr a0 rows hr a2

end Go.Proofs.Ytincidgoekbdpaa.pulseHears
