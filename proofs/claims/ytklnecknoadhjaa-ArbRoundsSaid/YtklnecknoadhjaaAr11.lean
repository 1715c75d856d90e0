/-
  Who is left behind each round, told one by one: the law.
-/
import Derived.Test.YtklnecknoadhjaaAr10
set_option linter.unusedVariables false
set_option linter.unusedSimpArgs false
set_option maxRecDepth 100000
namespace Go.Proofs.Ytklnecknoadhjaa.arb
open Go Go.Vm

theorem law_pz (stp : Int) (hx : 0 ≤ stp ∧ stp < 256) : (∃ H', OK cfg (.fn 7 []) [.sl 11 none 0, .int .u8 stp] [] (.bool true) H') ∧ (∃ H', OK cfg (.fn 7 []) [.sl 11 (some (0, 0)) 0, .int .u8 stp] [.void] (.bool true) H') := by
  have ew : IntKind.wrap .i64 stp = stp := wrap_i64 (by omega)
  obtain ⟨n1, n2⟩ := zn_all stp hx 12 0 0 (by omega) (by omega)
  obtain ⟨v1, v2⟩ := zv_all stp hx 12 0 0 (by omega) (by omega)
  by_cases h : 12 ≤ stp
  · exact ⟨⟨_, OK.eqv (lzn_x stp (n1 h)) (congrArg V.bool (by rw [ew, if_neg (by omega)]; rfl))⟩, ⟨_, OK.eqv (lzv_x stp (v1 h)) (congrArg V.bool (by rw [ew, if_neg (by omega)]; rfl))⟩⟩
  · exact ⟨⟨_, OK.eqv (lzn_r stp (n2 (by omega))) (congrArg V.bool (by rw [ew, if_pos (by omega)]; exact beq_iff_eq.2 (by omega)))⟩, ⟨_, OK.eqv (lzv_r stp (v2 (by omega))) (congrArg V.bool (by rw [ew, if_pos (by omega)]; exact beq_iff_eq.2 (by omega)))⟩⟩
theorem law_pn (stp : Int) (hx : 0 ≤ stp ∧ stp < 256) : ∃ H', OK cfg (.fn 7 []) [.sl 11 none 0, .int .u8 stp] [] (.bool true) H' := (law_pz stp hx).1
theorem law_pv (stp : Int) (hx : 0 ≤ stp ∧ stp < 256) : ∃ H', OK cfg (.fn 7 []) [.sl 11 (some (0, 0)) 0, .int .u8 stp] [.void] (.bool true) H' := (law_pz stp hx).2
theorem typed_f {r : List V} (h : Typed [.int .i64, .bool, .int .i64, .int .u8, .int .u8, .int .u8, .int .u8, .int .u8, .int .u8, .int .u8, .int .u8] r) : ∃ x, r = encF x ∧ True := by
  match r, h with
  | [.int k i, .bool r, .int k2 n, .int e0 d0, .int e1 d1, .int e2 d2, .int e3 d3, .int e4 d4, .int e5 d5, .int e6 d6, .int e7 d7], h =>
    obtain ⟨⟨rfl, _⟩, _, ⟨rfl, _⟩, ⟨rfl, w0⟩, ⟨rfl, w1⟩, ⟨rfl, w2⟩, ⟨rfl, w3⟩, ⟨rfl, w4⟩, ⟨rfl, w5⟩, ⟨rfl, w6⟩, ⟨rfl, w7⟩, _⟩ := h
    exact ⟨(i, r, n, d0, d1, d2, d3, d4, d5, d6, d7), rfl, trivial⟩
theorem frame_leaves : leaves Try.prog 8 61 = [.int .i64, .bool, .int .i64, .int .u8, .int .u8, .int .u8, .int .u8, .int .u8, .int .u8, .int .u8, .int .u8] := by kernel_rfl
theorem law_pr (rows : List (List V)) (hr : ∀ r ∈ rows, Typed (leaves Try.prog 8 61) r) (stp : Int) (hx : 0 ≤ stp ∧ stp < 256) : ∃ H', OK cfg (.fn 7 []) [.sl 11 (some (0, 0)) rows.length, .int .u8 stp] [.cells false rows.flatten] (.bool true) H' := by
  rw [frame_leaves] at hr
  obtain ⟨S, rfl, hS⟩ := rows_of (f := encF) (p := fun x => True) (fun r hr => typed_f hr) hr
  rw [List.length_map]
  have ew : IntKind.wrap .i64 stp = stp := wrap_i64 (by omega)
  obtain ⟨m, hmin⟩ : ∃ m, m = min S.length 20 := ⟨_, rfl⟩
  obtain ⟨_, hc⟩ := col_all S m stp (by omega) (by omega) m 0 (by omega)
  rcases hc rfl with ⟨hn, c⟩ | ⟨hn, c⟩
  · obtain ⟨k1, k2⟩ := rn_all S m stp hx (by omega) (by omega) hn 12 0 0 (by omega) (by omega)
    by_cases h : 12 ≤ stp
    · exact ⟨_, OK.eqv (ln_x S m stp [] c (k1 h) (by split <;> omega) (by omega)) (congrArg V.bool (by rw [ew, if_neg (by omega)]; rfl))⟩
    · exact ⟨_, OK.eqv (ln_r S m stp [] c (k2 (by omega)) (by split <;> omega) (by omega)) (congrArg V.bool (by rw [ew, if_pos (by omega)]; exact beq_iff_eq.2 (by omega)))⟩
  · obtain ⟨k1, k2⟩ := rd_all S m stp hx (by omega) (by omega) hn 12 0 (by omega) (by omega)
    by_cases h : 12 ≤ stp
    · exact ⟨_, OK.eqv (lf_x S m stp _ c (k1 h) (by split <;> omega) (by omega)) (congrArg V.bool (by rw [ew, if_neg (by omega)]; rfl))⟩
    · exact ⟨_, OK.eqv (lf_r S m stp _ c (k2 (by omega)) (by split <;> omega) (by omega)) (congrArg V.bool (by rw [ew, if_pos (by omega)]; exact beq_iff_eq.2 (by omega)))⟩
theorem u8_b {stp : Int} (wx : (Lit.int .u8 stp).wf = true) : 0 ≤ stp ∧ stp < 256 := by
  have := wf_u8 wx
  omega
end Go.Proofs.Ytklnecknoadhjaa.arb
namespace Go.Proofs.Ytklnecknoadhjaa.arbRounds
open Go Go.Vm
noncomputable abbrev cfg : Cfg := arb.cfg
theorem law_n (a1 : Int) (w1 : (Lit.int .u8 a1).wf = true) : ∃ H', OK cfg (.fn 7 []) [.sl 11 none 0, .int .u8 a1] [] (.bool true) H' := arb.law_pn a1 (arb.u8_b w1)
theorem law_v (a1 : Int) (w1 : (Lit.int .u8 a1).wf = true) : ∃ H', OK cfg (.fn 7 []) [.sl 11 (some (0, 0)) 0, .int .u8 a1] [.void] (.bool true) H' := arb.law_pv a1 (arb.u8_b w1)
theorem law_r (rows : List (List V)) (hr : ∀ r ∈ rows, Typed (leaves Try.prog 8 61) r) (a1 : Int) (w1 : (Lit.int .u8 a1).wf = true) : ∃ H', OK cfg (.fn 7 []) [.sl 11 (some (0, 0)) rows.length, .int .u8 a1] [.cells false rows.flatten] (.bool true) H' := arb.law_pr rows hr a1 (arb.u8_b w1)

end Go.Proofs.Ytklnecknoadhjaa.arbRounds
