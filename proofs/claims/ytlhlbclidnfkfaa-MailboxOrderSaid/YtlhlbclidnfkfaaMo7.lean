/-
  Frames are taken by their ranks: the law.
-/
import Derived.Test.YtlhlbclidnfkfaaMo6
set_option linter.unusedVariables false
set_option linter.unusedSimpArgs false
set_option maxRecDepth 100000
namespace Go.Proofs.Ytlhlbclidnfkfaa.boxes
open Go Go.Vm Go.Box

theorem typed_f {r : List V} (h : Typed [.int .i64, .bool, .int .i64, .int .u8, .int .u8, .int .u8, .int .u8, .int .u8, .int .u8, .int .u8, .int .u8] r) : ∃ x, r = encF x ∧ True := by
  match r, h with
  | [.int k i, .bool r, .int k2 n, .int e0 d0, .int e1 d1, .int e2 d2, .int e3 d3, .int e4 d4, .int e5 d5, .int e6 d6, .int e7 d7], h =>
    obtain ⟨⟨rfl, _⟩, _, ⟨rfl, _⟩, ⟨rfl, w0⟩, ⟨rfl, w1⟩, ⟨rfl, w2⟩, ⟨rfl, w3⟩, ⟨rfl, w4⟩, ⟨rfl, w5⟩, ⟨rfl, w6⟩, ⟨rfl, w7⟩, _⟩ := h
    exact ⟨(i, r, n, d0, d1, d2, d3, d4, d5, d6, d7), rfl, trivial⟩
theorem frame_leaves : leaves Try.prog 4 29 = [.int .i64, .bool, .int .i64, .int .u8, .int .u8, .int .u8, .int .u8, .int .u8, .int .u8, .int .u8, .int .u8] := by kernel_rfl
theorem law_pr (rows : List (List V)) (hr : ∀ r ∈ rows, Typed (leaves Try.prog 4 29) r) : ∃ H', OK cfg (.fn 3 []) [.sl 11 (some (0, 0)) rows.length] [.cells false rows.flatten] (.bool true) H' := by
  rw [frame_leaves] at hr
  obtain ⟨S, rfl, hS⟩ := rows_of (f := encF) (p := fun x => True) (fun r hr => typed_f hr) hr
  rw [List.length_map]
  obtain ⟨m, hmin⟩ : ∃ m, m = min S.length 20 := ⟨_, rfl⟩
  rcases (o0_all S m (by omega) (by omega) m 0 0 (by omega) (by omega)).2 0 with ⟨T, L, lo, hI, hT, k⟩ | ⟨ez, k⟩
  · obtain ⟨hG, hs, hf⟩ := hI.out
    have hl := hI.len
    have hm : (L.map frL).length = L.length := List.length_map ..
    exact ⟨_, lf S T (L.map frL) m 0 L lo k (o1_all T lo hT T.length 0 [] L (by omega) hl (Nat.le_refl 0)) (o2_all T (L.map frL) [] lo (by omega) hG (fun k hk => hs k (by omega)) _ 0 rfl) (o3_all T (L.map frL) [] lo (by omega) hT hG hI.okT hf 4096 0 (by omega)) (by split <;> omega) (by omega) rfl rfl rfl⟩
  · exact ⟨_, ln S [] [] m ez [] 0 k (o1_xn [] [] [] 0 0 0 0 0 0 ez rfl) (o2_xn [] [] [] 0 0 0 0 0 0 ez rfl) (o3_none 0 ez 4096 0 (by omega)) (by split <;> omega) (by omega) rfl rfl rfl⟩
theorem law_pn : ∃ H', OK cfg (.fn 3 []) [.sl 11 none 0] [] (.bool true) H' := ⟨_, l0 [] [] [] 0 0 [] 0 (o1_xn [] [] [] 0 0 0 0 0 0 0 rfl) (o2_xn [] [] [] 0 0 0 0 0 0 0 rfl) (o3_none 0 0 4096 0 (by omega)) rfl rfl rfl rfl rfl⟩
theorem law_pv : ∃ H', OK cfg (.fn 3 []) [.sl 11 (some (0, 0)) 0] [.void] (.bool true) H' := ⟨_, lv [] [] [] 0 0 [] 0 (o1_xn [] [] [] 0 0 0 0 0 0 0 rfl) (o2_xn [] [] [] 0 0 0 0 0 0 0 rfl) (o3_none 0 0 4096 0 (by omega)) rfl rfl rfl rfl rfl⟩
end Go.Proofs.Ytlhlbclidnfkfaa.boxes
namespace Go.Proofs.Ytlhlbclidnfkfaa.mailboxOrder
open Go Go.Vm
noncomputable abbrev cfg : Cfg := boxes.cfg
theorem law_n : ∃ H', OK cfg (.fn 3 []) [.sl 11 none 0] [] (.bool true) H' := boxes.law_pn
theorem law_v : ∃ H', OK cfg (.fn 3 []) [.sl 11 (some (0, 0)) 0] [.void] (.bool true) H' := boxes.law_pv
theorem law_r (rows : List (List V)) (hr : ∀ r ∈ rows, Typed (leaves Try.prog 4 29) r) : ∃ H', OK cfg (.fn 3 []) [.sl 11 (some (0, 0)) rows.length] [.cells false rows.flatten] (.bool true) H' := boxes.law_pr rows hr

end Go.Proofs.Ytlhlbclidnfkfaa.mailboxOrder
