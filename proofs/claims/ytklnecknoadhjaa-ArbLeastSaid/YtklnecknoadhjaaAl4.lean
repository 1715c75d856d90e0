/-
  Those that are left have the least rank: the law.
-/
import Derived.Test.YtklnecknoadhjaaAl3
set_option linter.unusedVariables false
set_option linter.unusedSimpArgs false
set_option maxRecDepth 100000
namespace Go.Proofs.Ytklnecknoadhjaa.arb
open Go Go.Vm

theorem nth_min (S : List FT) (m i : Nat) (x : Int) (h0 : N0 S m ≠ []) (hi : i < m) (hc : cF (gF S i) = 0) (hx : x ∈ nth S m 12) : rF (gF S x.toNat) ≤ rF (gF S i) := by
  obtain ⟨L, ⟨l1, _⟩, hn⟩ := nth_is S m h0 12 (by omega)
  have e : (2 : Int) ^ (12 - 12) = 1 := by decide
  rw [e] at l1 hn
  rw [hn] at hx
  obtain ⟨_, h2⟩ := List.mem_filter.1 hx
  rw [beq_iff_eq, Int.ediv_one] at h2
  have hv : va S ((i : Nat) : Int) = true := by simp only [va, decide_eq_true_eq]; exact hc
  have h3 := l1 ((i : Nat) : Int) (List.mem_filter.2 ⟨List.mem_map.2 ⟨i, List.mem_range.2 hi, rfl⟩, hv⟩)
  rw [Int.ediv_one] at h3
  have h4 : rI S x = rF (gF S x.toNat) := rfl
  have h5 : rI S ((i : Nat) : Int) = rF (gF S i) := rfl
  omega
theorem q1_all (S : List FT) (m i : Nat) (N : List Int) (hm : m ≤ S.length) (h20 : m ≤ 20) (hi : i < m) (hb : N.length ≤ 1000) (hP : Pl S m N) (hq : cF (gF S i) = 0 → ∀ x ∈ N, rF (gF S x.toNat) ≤ rF (gF S i)) : ∀ (d k : Nat), k + d = N.length → LOK cfg none (lb 6 1) ((.sl 11 (some (0, 0)) m) :: u_ :: u_ :: (.sl 1 (some (1, 0)) N.length) :: (.int .i64 ((i : Nat) : Int)) :: (.int .i64 ((k : Nat) : Int)) :: us 47) [.cells false ((S.map encF).flatten), .cells true ((N).map (V.int .i64))] (.exit 2) ((.sl 11 (some (0, 0)) m) :: u_ :: u_ :: (.sl 1 (some (1, 0)) N.length) :: (.int .i64 ((i : Nat) : Int)) :: us 48) [.cells false ((S.map encF).flatten), .cells true ((N).map (V.int .i64))] := by
  intro d
  induction d with
  | zero =>
    intro k hk
    exact q1_x S m i k 0 N (decide_eq_false (by omega))
  | succ d IH =>
    intro k hk
    have hk' : k < N.length := by omega
    obtain ⟨vB1, vB2, vC⟩ := hP _ (getD_mem0 hk')
    have vB := And.intro vB1 vB2
    have vL : ((N.getD (0 + (k * 1)) 0)).toNat < S.length := by omega
    by_cases hc : cF (gF S i) = 0
    · have hd : ¬ rF (gF S i) < rF (gF S ((N.getD (0 + (k * 1)) 0)).toNat) := Int.not_lt.2 (hq hc _ (getD_mem0 hk'))
      exact q1_y S m i k 0 N (decide_eq_true (by omega)) (by omega) (by omega) (beq_iff_eq.2 hc) hc (by omega) (by omega) vB vL vC (decide_eq_false hd) ((wrap_i64 (by omega)).trans (by omega)) (IH (k + 1) (by omega))
    · exact q1_b S m i k 0 N (decide_eq_true (by omega)) (by omega) (by omega) (beq_eq_false_iff_ne.2 hc) ((wrap_i64 (by omega)).trans (by omega)) (IH (k + 1) (by omega))
theorem q0_all (S : List FT) (m : Nat) (hm : m ≤ S.length) (h20 : m ≤ 20) (hn : N0 S m ≠ []) : ∀ (d i : Nat), i + d = m → LOK cfg none (lb 6 0) ((.sl 11 (some (0, 0)) m) :: u_ :: u_ :: (.sl 1 (some (1, 0)) (nth S m 12).length) :: (.int .i64 ((i : Nat) : Int)) :: us 48) [.cells false ((S.map encF).flatten), .cells true (((nth S m 12)).map (V.int .i64))] (.exit 0) (us 53) [.cells false ((S.map encF).flatten), .cells true (((nth S m 12)).map (V.int .i64))] := by
  obtain ⟨_, hl⟩ := nth_sub S m 12
  have hb : (nth S m 12).length ≤ 1000 := by omega
  intro d
  induction d with
  | zero =>
    intro i hi
    exact q0_x S m i 0 0 _ (decide_eq_false (by omega))
  | succ d IH =>
    intro i hi
    have h1 := q1_all S m i (nth S m 12) hm h20 (by omega) hb (nth_Pl S m 12) (fun hc x hx => nth_min S m i x hn (by omega) hc hx) (nth S m 12).length 0 (by omega)
    exact q0_s S m i 0 0 _ h1 (decide_eq_true (by omega)) ((wrap_i64 (by omega)).trans (by omega)) (IH (i + 1) (by omega))
theorem q0_none (S : List FT) (m : Nat) (hm : m ≤ S.length) (h20 : m ≤ 20) : ∀ (d i : Nat), i + d = m → LOK cfg none (lb 6 0) ((.sl 11 (some (0, 0)) m) :: u_ :: u_ :: (.sl 1 none 0) :: (.int .i64 ((i : Nat) : Int)) :: us 48) [.cells false ((S.map encF).flatten)] (.exit 0) (us 53) [.cells false ((S.map encF).flatten)] := by
  intro d
  induction d with
  | zero =>
    intro i hi
    exact q0_xn S m i 0 1 [] (decide_eq_false (by omega))
  | succ d IH =>
    intro i hi
    exact q0_n S m i 0 1 [] (decide_eq_true (by omega)) ((wrap_i64 (by omega)).trans (by omega)) (IH (i + 1) (by omega))
theorem law_pn : ∃ H', OK cfg (.fn 6 []) [.sl 11 none 0] [] (.bool true) H' := ok_run hmix 200 (by kernel_rfl)
theorem law_pv : ∃ H', OK cfg (.fn 6 []) [.sl 11 (some (0, 0)) 0] [.void] (.bool true) H' := ok_run hmix 200 (by kernel_rfl)

theorem typed_f {r : List V} (h : Typed [.int .i64, .bool, .int .i64, .int .u8, .int .u8, .int .u8, .int .u8, .int .u8, .int .u8, .int .u8, .int .u8] r) : ∃ x, r = encF x ∧ True := by
  match r, h with
  | [.int k i, .bool r, .int k2 n, .int e0 d0, .int e1 d1, .int e2 d2, .int e3 d3, .int e4 d4, .int e5 d5, .int e6 d6, .int e7 d7], h =>
    obtain ⟨⟨rfl, _⟩, _, ⟨rfl, _⟩, ⟨rfl, w0⟩, ⟨rfl, w1⟩, ⟨rfl, w2⟩, ⟨rfl, w3⟩, ⟨rfl, w4⟩, ⟨rfl, w5⟩, ⟨rfl, w6⟩, ⟨rfl, w7⟩, _⟩ := h
    exact ⟨(i, r, n, d0, d1, d2, d3, d4, d5, d6, d7), rfl, trivial⟩
theorem frame_leaves : leaves Try.prog 8 61 = [.int .i64, .bool, .int .i64, .int .u8, .int .u8, .int .u8, .int .u8, .int .u8, .int .u8, .int .u8, .int .u8] := by kernel_rfl

theorem law_pr (rows : List (List V)) (hr : ∀ r ∈ rows, Typed (leaves Try.prog 8 61) r) : ∃ H', OK cfg (.fn 6 []) [.sl 11 (some (0, 0)) rows.length] [.cells false rows.flatten] (.bool true) H' := by
  rw [frame_leaves] at hr
  obtain ⟨S, rfl, hS⟩ := rows_of (f := encF) (p := fun x => True) (fun r hr => typed_f hr) hr
  rw [List.length_map]
  obtain ⟨m, hmin⟩ : ∃ m, m = min S.length 20 := ⟨_, rfl⟩
  have hm : m ≤ S.length := by omega
  have h20 : m ≤ 20 := by omega
  obtain ⟨_, hl⟩ := nth_sub S m 12
  by_cases hn : N0 S m = []
  · exact ⟨_, la_n S m (q0_none S m hm h20 m 0 (by omega)) (by split <;> omega) (by omega) (by omega) (by omega) hn (by omega) (by rw [beh_none S m hn 11]; rfl)⟩
  · exact ⟨_, la_f S m (q0_all S m hm h20 hn m 0 (by omega)) (by split <;> omega) (by omega) (by omega) (by omega) hn (by omega) (nth_beh S m hn 11 (by omega)) (by omega)⟩
end Go.Proofs.Ytklnecknoadhjaa.arb
namespace Go.Proofs.Ytklnecknoadhjaa.arbLeast
open Go Go.Vm
noncomputable abbrev cfg : Cfg := arb.cfg
theorem law_n : ∃ H', OK cfg (.fn 6 []) [.sl 11 none 0] [] (.bool true) H' := arb.law_pn
theorem law_v : ∃ H', OK cfg (.fn 6 []) [.sl 11 (some (0, 0)) 0] [.void] (.bool true) H' := arb.law_pv
theorem law_r (rows : List (List V)) (hr : ∀ r ∈ rows, Typed (leaves Try.prog 8 61) r) : ∃ H', OK cfg (.fn 6 []) [.sl 11 (some (0, 0)) rows.length] [.cells false rows.flatten] (.bool true) H' := arb.law_pr rows hr

end Go.Proofs.Ytklnecknoadhjaa.arbLeast
