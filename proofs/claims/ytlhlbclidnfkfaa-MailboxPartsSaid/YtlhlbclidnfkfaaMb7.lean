/-
  Whatever is put into one part of a mailbox, the other one has room: the law.
-/
import Derived.Test.YtlhlbclidnfkfaaMb6
set_option linter.unusedVariables false
set_option linter.unusedSimpArgs false
set_option maxRecDepth 100000
namespace Go.Proofs.Ytlhlbclidnfkfaa.boxes
open Go Go.Vm Go.Box

theorem typed_f {r : List V} (h : Typed [.int .i64, .bool, .int .i64, .int .u8, .int .u8, .int .u8, .int .u8, .int .u8, .int .u8, .int .u8, .int .u8] r) : ∃ x, r = encF x ∧ True := by
  match r, h with
  | [.int k i, .bool r, .int k2 n, .int e0 d0, .int e1 d1, .int e2 d2, .int e3 d3, .int e4 d4, .int e5 d5, .int e6 d6, .int e7 d7], h =>
    obtain ⟨⟨rfl, _⟩, _, ⟨rfl, _⟩, ⟨rfl, w0⟩, ⟨rfl, w1⟩, ⟨rfl, w2⟩, ⟨rfl, w3⟩, ⟨rfl, w4⟩, ⟨rfl, w5⟩, ⟨rfl, w6⟩, ⟨rfl, w7⟩, _⟩ := h
    exact ⟨(i, r, n, d0, d1, d2, d3, d4, d5, d6, d7), rfl, trivial⟩
theorem frame_leaves : leaves Try.prog 4 29 = [.int .i64, .bool, .int .i64, .int .u8, .int .u8, .int .u8, .int .u8, .int .u8, .int .u8, .int .u8, .int .u8] := by kernel_rfl
theorem law_pr (rows : List (List V)) (hr : ∀ r ∈ rows, Typed (leaves Try.prog 4 29) r) (sf : Bool) (a2 : List V) (w2 : Typed (leaves Try.prog 4 29) a2) : ∃ H', OK cfg (.fn 4 []) [.sl 11 (some (0, 0)) rows.length, .bool sf, .agg a2] [.cells false rows.flatten] (.bool true) H' := by
  rw [frame_leaves] at hr w2
  obtain ⟨S, rfl, hS⟩ := rows_of (f := encF) (p := fun x => True) (fun r hr => typed_f hr) hr
  obtain ⟨⟨i, r, n, d0, d1, d2, d3, d4, d5, d6, d7⟩, rfl, _⟩ := typed_f w2
  rw [List.length_map]
  obtain ⟨m, hmin⟩ : ∃ m, m = min S.length 20 := ⟨_, rfl⟩
  rcases (m0_all S m sf i r n d0 d1 d2 d3 d4 d5 d6 d7 (by omega) (by omega) m 0 0 0 (by omega) (by omega) (by omega)).2 rfl 0 with ⟨Y, lz, cz, y1, y2, y3, y4, y5, k⟩ | ⟨ez, k⟩
  · by_cases h : chk i r n d0 d1 d2 d3 d4 d5 d6 d7 = 0
    · obtain ⟨Z, z1, z2, z3, k1⟩ := m1_go lz cz y4 sf i r n d0 d1 d2 d3 d4 d5 d6 d7 h 8 0 Y (by omega) y2 y1
      exact ⟨_, OK.eqv (lf_g S m 0 cz Y Z lz sf i r n d0 d1 d2 d3 d4 d5 d6 d7 k k1 (by split <;> omega) (by omega) (by omega) (by rw [y1]; exact bne_self_eq_false _) (decide_eq_false (by omega)) (by rw [y2]; rfl) (by simpa using h) (by omega) h (by omega) (by omega) (by rw [show IntKind.wrap .i64 (lz + 1) = lz + 1 from wrap_i64 (by omega)]; exact beq_self_eq_true _)) (congrArg V.bool (by rw [z2]; exact beq_self_eq_true _))⟩
    · exact ⟨_, OK.eqv (lf_b S m 0 cz Y [] lz sf i r n d0 d1 d2 d3 d4 d5 d6 d7 k (m1_bad Y lz cz sf i r n d0 d1 d2 d3 d4 d5 d6 d7 h 8 0 (by omega)) (by split <;> omega) (by omega) (by omega) (by rw [y1]; exact bne_self_eq_false _) (decide_eq_false (by omega)) (by rw [y2]; rfl) (by simpa using h)) (congrArg V.bool (by rw [y2]; rfl))⟩
  · by_cases h : chk i r n d0 d1 d2 d3 d4 d5 d6 d7 = 0
    · obtain ⟨Z, z1, z2, z3, k1⟩ := m1_go0 0 ez sf i r n d0 d1 d2 d3 d4 d5 d6 d7 h
      exact ⟨_, OK.eqv (ln_g S m ez 0 [] Z 0 sf i r n d0 d1 d2 d3 d4 d5 d6 d7 k k1 (by split <;> omega) (by omega) (by simpa using h) (by omega) h (by omega) (by omega) rfl) (congrArg V.bool (by rw [z2]; rfl))⟩
    · exact ⟨_, ln_b S m ez 0 [] [] 0 sf i r n d0 d1 d2 d3 d4 d5 d6 d7 k (m1_bad0 ez 0 0 sf i r n d0 d1 d2 d3 d4 d5 d6 d7 h 8 0 (by omega)) (by split <;> omega) (by omega) (by simpa using h)⟩
theorem law_pn (sf : Bool) (a2 : List V) (w2 : Typed (leaves Try.prog 4 29) a2) : ∃ H', OK cfg (.fn 4 []) [.sl 11 none 0, .bool sf, .agg a2] [] (.bool true) H' := by
  rw [frame_leaves] at w2
  obtain ⟨⟨i, r, n, d0, d1, d2, d3, d4, d5, d6, d7⟩, rfl, _⟩ := typed_f w2
  by_cases h : chk i r n d0 d1 d2 d3 d4 d5 d6 d7 = 0
  · obtain ⟨Z, z1, z2, z3, k1⟩ := m1_go0 0 0 sf i r n d0 d1 d2 d3 d4 d5 d6 d7 h
    exact ⟨_, OK.eqv (l0_g Z sf i r n d0 d1 d2 d3 d4 d5 d6 d7 k1 (by simpa using h) (by omega) h (by omega) (by omega) rfl) (congrArg V.bool (by rw [z2]; rfl))⟩
  · exact ⟨_, l0_b [] sf i r n d0 d1 d2 d3 d4 d5 d6 d7 (m1_bad0 0 0 0 sf i r n d0 d1 d2 d3 d4 d5 d6 d7 h 8 0 (by omega)) (by simpa using h)⟩
theorem law_pv (sf : Bool) (a2 : List V) (w2 : Typed (leaves Try.prog 4 29) a2) : ∃ H', OK cfg (.fn 4 []) [.sl 11 (some (0, 0)) 0, .bool sf, .agg a2] [.void] (.bool true) H' := by
  rw [frame_leaves] at w2
  obtain ⟨⟨i, r, n, d0, d1, d2, d3, d4, d5, d6, d7⟩, rfl, _⟩ := typed_f w2
  by_cases h : chk i r n d0 d1 d2 d3 d4 d5 d6 d7 = 0
  · obtain ⟨Z, z1, z2, z3, k1⟩ := m1_go0 0 0 sf i r n d0 d1 d2 d3 d4 d5 d6 d7 h
    exact ⟨_, OK.eqv (lv_g Z sf i r n d0 d1 d2 d3 d4 d5 d6 d7 k1 (by simpa using h) (by omega) h (by omega) (by omega) rfl) (congrArg V.bool (by rw [z2]; rfl))⟩
  · exact ⟨_, lv_b [] sf i r n d0 d1 d2 d3 d4 d5 d6 d7 (m1_bad0 0 0 0 sf i r n d0 d1 d2 d3 d4 d5 d6 d7 h 8 0 (by omega)) (by simpa using h)⟩
end Go.Proofs.Ytlhlbclidnfkfaa.boxes
namespace Go.Proofs.Ytlhlbclidnfkfaa.mailboxParts
open Go Go.Vm
noncomputable abbrev cfg : Cfg := boxes.cfg
theorem law_n (a1 : Bool) (a2 : List V) (w2 : Typed (leaves Try.prog 4 29) a2) : ∃ H', OK cfg (.fn 4 []) [.sl 11 none 0, .bool a1, .agg a2] [] (.bool true) H' := boxes.law_pn a1 a2 w2
theorem law_v (a1 : Bool) (a2 : List V) (w2 : Typed (leaves Try.prog 4 29) a2) : ∃ H', OK cfg (.fn 4 []) [.sl 11 (some (0, 0)) 0, .bool a1, .agg a2] [.void] (.bool true) H' := boxes.law_pv a1 a2 w2
theorem law_r (rows : List (List V)) (hr : ∀ r ∈ rows, Typed (leaves Try.prog 4 29) r) (a1 : Bool) (a2 : List V) (w2 : Typed (leaves Try.prog 4 29) a2) : ∃ H', OK cfg (.fn 4 []) [.sl 11 (some (0, 0)) rows.length, .bool a1, .agg a2] [.cells false rows.flatten] (.bool true) H' := boxes.law_pr rows hr a1 a2 w2

end Go.Proofs.Ytlhlbclidnfkfaa.mailboxParts
