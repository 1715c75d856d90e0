/-
  Each row stands at the place of its key: the law.
-/
import Derived.Test.YtoglhcgcfdcmfaaSh8
set_option linter.unusedVariables false
set_option linter.unusedSimpArgs false
set_option maxRecDepth 100000
namespace Go.Proofs.Ytoglhcgcfdcmfaa.shelf
open Go Go.Vm Go.Shelf

theorem at_n {L : List R2} (hs : Srt L) {n : Nat} (h : n < L.length) : pl L (gR L n).1 = n ∧ hasL L (gR L n).1 = true ∧ valL L (gR L n).1 = (gR L n).2 := by
  have a1 : pl L (gR L n).1 = n := pl_of (fun j hj => srt_get hs hj h) (by omega) (fun _ => by omega)
  have a2 : hasL L (gR L n).1 = true := by simp only [hasL, decide_eq_true_eq]; rw [a1]; exact ⟨h, rfl⟩
  exact ⟨a1, a2, by rw [valL, if_pos a2, a1]⟩
theorem sp_all (L : List R2) (x : Int) (hs : Srt L) (hb : L.length ≤ 1000) : ∀ (m n : Nat), n + m = L.length → LOK cfg none (lb 4 0) (u_ :: (.int .i64 x) :: u_ :: u_ :: u_ :: (.ptr (some (0, 0))) :: u_ :: u_ :: (.int .i64 ((n : Nat) : Int)) :: us 100) [.cells true [(.sl 2 (some (1, 0)) L.length)], .cells true ((L.map encR).flatten)] (.exit 0) (u_ :: (.int .i64 x) :: u_ :: u_ :: u_ :: (.ptr (some (0, 0))) :: us 103) [.cells true [(.sl 2 (some (1, 0)) L.length)], .cells true ((L.map encR).flatten)] := by
  intro m
  induction m with
  | zero =>
    intro n hn
    exact sp_x L x n (decide_eq_false (by omega))
  | succ m IH =>
    intro n hn
    have h : n < L.length := by omega
    obtain ⟨a1, a2, a3⟩ := at_n hs h
    have k := IH (n + 1) (by omega)
    by_cases h0 : n = 0
    · exact sp_0 L x n (decide_eq_true (by omega)) (decide_eq_false (by omega)) (decide_eq_false (by omega)) (by omega) (by omega) hs (by omega) (by rw [a2]; rfl) (by rw [a3]; simp) (by rw [a1]; simp) (by rw [show (IntKind.wrap .i64 (((n : Nat) : Int) - 1)) = ((n : Nat) : Int) - 1 from wrap_i64 (by omega)]; exact decide_eq_true (by omega)) ((wrap_i64 (by omega)).trans (by simp)) k
    · exact sp_n L x n (decide_eq_true (by omega)) (decide_eq_false (by omega)) (decide_eq_false (by omega)) (by omega) (by omega) hs (by omega) (by rw [a2]; rfl) (by rw [a3]; simp) (by rw [a1]; simp) ((wrap_i64 (by omega)).trans (by omega)) (decide_eq_false (by omega)) (decide_eq_false (by omega)) (by omega) (by omega) (decide_eq_false (by have : (L.getD (n - 1) (0, 0)).1 < (L.getD n (0, 0)).1 := srt_get hs (show n - 1 < n by omega) h; omega)) ((wrap_i64 (by omega)).trans (by simp)) k

theorem typed_d {r : List V} (h : Typed [.int .i64, .int .i64, .int .i64] r) : ∃ x, r = encD x ∧ True := by
  match r, h with
  | [.int k0 n0, .int k1 n1, .int k2 n2], h =>
    obtain ⟨⟨rfl, _⟩, ⟨rfl, _⟩, ⟨rfl, _⟩, _⟩ := h
    exact ⟨(n0, n1, n2), rfl, trivial⟩
/-- What played comes to. -/
theorem play_ok (S : List (Int × Int × Int)) : (∃ Z Y : List R2, Inv Z Y ∧ Z.length ≤ 50 ∧ OK cfg (.fn 15 []) [(.sl 3 (some (0, 0)) S.length)] [.cells false ((S.map encD).flatten)] (.tup [(.ptr (some (2, 0))), (.sl 2 (some (1, 0)) Y.length), (.bool true)]) [.cells false ((S.map encD).flatten), .cells true ((Y.map encR).flatten), .cells true [(.sl 2 (some (3, 0)) Z.length)], .cells true ((Z.map encR).flatten)]) ∨ (∃ (ez : Nat) (Y : List R2), Inv [] Y ∧ OK cfg (.fn 15 []) [(.sl 3 (some (0, 0)) S.length)] [.cells false ((S.map encD).flatten)] (.tup [(.ptr (some (2, 0))), (.sl 2 (some (1, 0)) Y.length), (.bool true)]) [.cells false ((S.map encD).flatten), .cells true ((Y.map encR).flatten), .cells true [(.sl ez none 0)]]) := by
  rcases (play_all S 50 0 [] rfl).2 0 Inv.nil with ⟨Z, Y, hI, hl, k⟩ | ⟨ez, Y, hI, k⟩
  · exact .inl ⟨Z, Y, hI, hl, pq_f' S 0 Z Y k rfl rfl⟩
  · exact .inr ⟨ez, Y, hI, pq_n' S ez [] Y k rfl rfl⟩
theorem law_pr (rows : List (List V)) (hr : ∀ r ∈ rows, Typed (leaves Try.prog 2 93) r) (x : Int) (wx : (Lit.int .i64 x).wf = true) : ∃ H', OK cfg (.fn 4 []) [.sl 3 (some (0, 0)) rows.length, .int .i64 x] [.cells false rows.flatten] (.bool true) H' := by
  have e : leaves Try.prog 2 93 = [.int .i64, .int .i64, .int .i64] := by kernel_rfl
  rw [e] at hr
  obtain ⟨S, rfl, hS⟩ := rows_of (f := encD) (p := fun x => True) (fun r hr => typed_d hr) hr
  rw [List.length_map]
  have hx := wf_i64 wx
  rcases play_ok S with ⟨Z, Y, hI, hl, hp⟩ | ⟨ez, Y, hI, hp⟩
  · have ha := sp_all Z x hI.1 (by omega) Z.length 0 (by omega)
    by_cases h1 : x < 0
    · exact ⟨_, lf_m S 0 Z Y x hp ha (decide_eq_true (by omega)) (decide_eq_false (by omega))⟩
    by_cases h2 : x < Z.length
    · exact ⟨_, OK.eqv (lf_i S 0 Z Y x hp ha (decide_eq_false (by omega)) (decide_eq_false (by omega)) (by omega) (by omega) (decide_eq_true (by omega))) (by simp; omega)⟩
    · exact ⟨_, OK.eqv (lf_g S 0 Z Y x hp ha (decide_eq_false (by omega)) (decide_eq_true (by omega)) (decide_eq_true (by omega))) (by simp; omega)⟩
  · by_cases h1 : x < 0
    · exact ⟨_, ln_m S ez [] Y x hp (decide_eq_true (by omega)) (decide_eq_false (by omega))⟩
    · exact ⟨_, OK.eqv (ln_g S ez [] Y x hp (decide_eq_false (by omega)) (decide_eq_true (by omega))) (by simp; omega)⟩
theorem law_pn (x : Int) : ∃ H', OK cfg (.fn 4 []) [.sl 3 none 0, .int .i64 x] [] (.bool true) H' := by
  by_cases h1 : x < 0
  · exact ⟨_, l0_m x (decide_eq_true (by omega)) (decide_eq_false (by omega))⟩
  · exact ⟨_, OK.eqv (l0_g x (decide_eq_false (by omega)) (decide_eq_true (by omega))) (by simp; omega)⟩
theorem law_pv (x : Int) : ∃ H', OK cfg (.fn 4 []) [.sl 3 (some (0, 0)) 0, .int .i64 x] [.void] (.bool true) H' := by
  by_cases h1 : x < 0
  · exact ⟨_, lv_m x (decide_eq_true (by omega)) (decide_eq_false (by omega))⟩
  · exact ⟨_, OK.eqv (lv_g x (decide_eq_false (by omega)) (decide_eq_true (by omega))) (by simp; omega)⟩
end Go.Proofs.Ytoglhcgcfdcmfaa.shelf
namespace Go.Proofs.Ytoglhcgcfdcmfaa.shelfPlaces
open Go Go.Vm
noncomputable abbrev cfg : Cfg := shelf.cfg
theorem law_n (a1 : Int) (w1 : (Lit.int .i64 a1).wf = true) : ∃ H', OK cfg (.fn 4 []) [.sl 3 none 0, .int .i64 a1] [] (.bool true) H' := shelf.law_pn a1
theorem law_v (a1 : Int) (w1 : (Lit.int .i64 a1).wf = true) : ∃ H', OK cfg (.fn 4 []) [.sl 3 (some (0, 0)) 0, .int .i64 a1] [.void] (.bool true) H' := shelf.law_pv a1
theorem law_r (rows : List (List V)) (hr : ∀ r ∈ rows, Typed (leaves Try.prog 2 93) r) (a1 : Int) (w1 : (Lit.int .i64 a1).wf = true) : ∃ H', OK cfg (.fn 4 []) [.sl 3 (some (0, 0)) rows.length, .int .i64 a1] [.cells false rows.flatten] (.bool true) H' := shelf.law_pr rows hr a1 w1

end Go.Proofs.Ytoglhcgcfdcmfaa.shelfPlaces
