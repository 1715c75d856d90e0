/-
  What is read of any bytes, up to the first error, is the document's: any rows.
-/
import Derived.Test.YteljlgjofmbniaaWr8
set_option linter.unusedVariables false
set_option linter.unusedSimpArgs false
set_option maxRecDepth 100000
namespace Go.Proofs.Yteljlgjofmbniaa.words
open Go Go.Vm

theorem nls_eq : leavesN Try.prog 4 30 = [.fl (.int .i64), .fl (.int .i64), .sl [.int .u8] 1] := by kernel_rfl
theorem es_eq : esOf Try.prog 30 = 3 := by kernel_rfl
theorem row_of {G : Heap} {b : Nat} {r : List V} (h : TypedF G b [.fl (.int .i64), .fl (.int .i64), .sl [.int .u8] 1] r) : ∃ x : WT, r = encW x ∧ (x.2.2.1 = none ∨ x.2.2.1 = some (b, 0)) ∧ x.2.2.2 ≤ maxLen := by
  match r, h with
  | [.int k i, .int k2 n, v], h =>
    obtain ⟨⟨rfl, _⟩, ⟨rfl, _⟩, hv, _⟩ := h
    rcases hv with rfl | ⟨rows, rfl, _, hl, _⟩
    · exact ⟨(i, n, none, 0), rfl, .inl rfl, Nat.zero_le _⟩
    · exact ⟨(i, n, some (b, 0), rows.length), rfl, .inr rfl, hl⟩
theorem rows_split : ∀ (rows : List (List V)) (M base : Nat), (∀ i r, i < M → rows[i]? = some r → ∃ x : WT, r = encW x ∧ (x.2.2.1 = none ∨ x.2.2.1 = some (base + i, 0)) ∧ x.2.2.2 ≤ maxLen) → (∀ i r, M ≤ i → rows[i]? = some r → r = List.replicate 3 V.undef) →
    ∃ (S : List WT) (k : Nat), rows.flatten = RW S (List.replicate k V.undef) ∧ S.length = min rows.length M ∧ ∀ i x, S[i]? = some x → (x.2.2.1 = none ∨ x.2.2.1 = some (base + i, 0)) ∧ x.2.2.2 ≤ maxLen
  | [], M, base, _, _ => ⟨[], 0, rfl, by simp, fun i x h => by simp at h⟩
  | r :: rows, 0, base, h1, h2 => by
    obtain ⟨S, k, e1, e2, e3⟩ := rows_split rows 0 base (fun i r hi => by omega) (fun i r hi hr => h2 (i + 1) r (by omega) (by simpa using hr))
    have hS : S = [] := List.eq_nil_of_length_eq_zero (by omega)
    subst hS
    refine ⟨[], 3 + k, ?_, by simp, e3⟩
    rw [List.flatten_cons, e1, h2 0 r (by omega) rfl]
    simp only [RW, List.map_nil, List.flatten_nil, List.nil_append]
    rw [List.replicate_append_replicate]
  | r :: rows, M + 1, base, h1, h2 => by
    obtain ⟨x, hx, hp⟩ := h1 0 r (by omega) rfl
    obtain ⟨S, k, e1, e2, e3⟩ := rows_split rows M (base + 1) (fun i r hi hr => by
      have := h1 (i + 1) r (by omega) (by simpa using hr)
      rw [show base + (i + 1) = base + 1 + i by omega] at this
      exact this) (fun i r hi hr => h2 (i + 1) r (by omega) (by simpa using hr))
    refine ⟨x :: S, k, ?_, by simp; omega, fun i y hy => ?_⟩
    · rw [List.flatten_cons, e1, hx]
      simp [RW]
    · cases i with
      | zero => simp at hy; subst hy; exact hp
      | succ i =>
        have := e3 i y (by simpa using hy)
        rw [show base + (i + 1) = base + 1 + i by omega]
        exact this
theorem ve_rows {σ : Sig} : ∀ (S : List WT) (base : Nat), (∀ i x, S[i]? = some x → (x.2.2.1 = none ∨ x.2.2.1 = some (base + i, 0)) ∧ x.2.2.2 ≤ maxLen) → (∀ b, b < base + S.length → σ b = some (b, 0)) → VEL true σ ((S.map encW).flatten) ((S.map encW).flatten)
  | [], _, _, _ => .nil
  | (a, c, p, n) :: S, base, h, hσ => by
    rw [List.map_cons, List.flatten_cons]
    refine VEL.append ?_ (ve_rows S (base + 1) (fun i y hy => by
      have := h (i + 1) y (by simpa using hy)
      rw [show base + (i + 1) = base + 1 + i by omega] at this
      exact this) (fun b hb => hσ b (by simp at hb ⊢; omega)))
    refine .c (.int _ _) (.c (.int _ _) (.c ?_ .nil))
    rcases (h 0 (a, c, p, n) rfl).1 with e | e
    · simp only at e; subst e; exact .slN 1 _
    · simp only at e; subst e; exact .sl 1 _ 0 _ _ 0 (hσ _ (by simp))
theorem ve_und {σ : Sig} : ∀ (k : Nat), VEL true σ (List.replicate k V.undef) (List.replicate k V.undef)
  | 0 => .nil
  | k + 1 => .c .q (ve_und k)
theorem hr_of (S : List WT) (k base N : Nat) (h : ∀ i x, S[i]? = some x → (x.2.2.1 = none ∨ x.2.2.1 = some (base + i, 0)) ∧ x.2.2.2 ≤ maxLen) (hN : base + S.length ≤ N) : HR S (List.replicate k V.undef) N := fun σ hσ =>
  VEL.append (ve_rows S base h (fun b hb => hσ b (by omega))) (ve_und k)
theorem rows_of' (base N : Nat) (hN : base + 20 ≤ N) {G : Heap} (rows : List (List V)) (hu : ∀ i r, 20 ≤ i → rows[i]? = some r → r = List.replicate (esOf Try.prog 30) V.undef) (ht : ∀ i r, i < 20 → rows[i]? = some r → TypedF G (base + i * nsl (leavesN Try.prog 4 30)) (leavesN Try.prog 4 30) r) :
    ∃ (S : List WT) (X : List V) (m : Nat), rows.flatten = RW S X ∧ S.length = m ∧ m = min rows.length 20 ∧ HR S X N ∧ ∀ i, i < m → (gW S i).2.2.2 ≤ maxLen := by
  rw [es_eq] at hu
  rw [nls_eq] at ht
  obtain ⟨S, k, e1, e2, e3⟩ := rows_split rows 20 base (fun i r hi hr => by
    have h := ht i r hi hr
    rw [show i * nsl [.fl (.int .i64), .fl (.int .i64), .sl [.int .u8] 1] = i by simp [nsl]] at h
    exact row_of h) hu
  refine ⟨S, _, min rows.length 20, e1, e2, rfl, hr_of S k base N e3 (by omega), fun i hi => ?_⟩
  have hs : S[i]? = some (S[i]'(by omega)) := List.getElem?_eq_getElem (by omega)
  have := (e3 i _ hs).2
  simpa [gW, List.getD_eq_getElem?_getD, hs] using this
theorem u8_leaf : leaves Try.prog 3 5 = [.int .u8] := by kernel_rfl
theorem aa_len : 20 * nsl (leavesN Try.prog 4 30) = 20 := by rw [nls_eq]; rfl
theorem p_rd (rows0 : List (List V)) (h0 : ∀ r ∈ rows0, Typed (leaves Try.prog 3 5) r) (C : Nat → List V) (rows : List (List V)) (hC : ∀ k, plains (C k) = true) (hu : ∀ i r, 20 ≤ i → rows[i]? = some r → r = List.replicate (esOf Try.prog 30) V.undef) {G : Heap} (ht : ∀ i r, i < 20 → rows[i]? = some r → TypedF G (1 + i * nsl (leavesN Try.prog 4 30)) (leavesN Try.prog 4 30) r) :
    ∃ H', OK cfg (.fn 3 []) [.sl 1 (some (0, 0)) rows0.length, .sl 3 (some (21, 0)) rows.length] ([.cells false rows0.flatten] ++ AA C 20 rows.flatten) (.bool true) H' := by
  rw [u8_leaf] at h0
  obtain ⟨T, h1, h2, h3⟩ := rows_int h0
  have ho : okb T := fun x hx => wf_u8 (h3 x hx)
  obtain ⟨S, X, m, e1, e2, e3, hR, hn⟩ := rows_of' 1 21 (by decide) rows hu ht
  rw [h1, h2, e1]
  by_cases hT : T.length ≤ 100
  · by_cases ht0 : T.length = 0
    · have : T = [] := List.eq_nil_of_length_eq_zero ht0
      subst this
      exact ⟨_, w_zd S X C hC hR m rows.length (lz_all S X C hC hR m e2 (by omega) hn m 0 0 (by omega)) (by split <;> omega) (by omega)⟩
    · exact ⟨_, w_gd T S X C hC hR m rows.length (lg_all T S X C hC hR m e2 (by omega) hn hT ho m 0 0 T.length 0 (by omega) (by omega)) (decide_eq_false (by omega)) (by split <;> omega) (by omega) (by simp) (by omega) ht0 (by omega)⟩
  · exact ⟨_, w_Ld T S X C hC hR m rows.length (decide_eq_true (by omega))⟩
theorem p_rn (rows0 : List (List V)) (h0 : ∀ r ∈ rows0, Typed (leaves Try.prog 3 5) r) : (∃ H', OK cfg (.fn 3 []) [.sl 1 (some (0, 0)) rows0.length, .sl 3 none 0] [.cells false rows0.flatten] (.bool true) H') ∧ (∃ H', OK cfg (.fn 3 []) [.sl 1 (some (0, 0)) rows0.length, .sl 3 (some (1, 0)) 0] [.cells false rows0.flatten, .void] (.bool true) H') := by
  rw [u8_leaf] at h0
  obtain ⟨T, h1, h2, h3⟩ := rows_int h0
  rw [h1, h2]
  by_cases hT : T.length ≤ 100
  · by_cases ht0 : T.length = 0
    · have : T = [] := List.eq_nil_of_length_eq_zero ht0
      subst this
      exact ⟨⟨_, w_zn⟩, ⟨_, w_zv⟩⟩
    · exact ⟨⟨_, w_gn T (decide_eq_false (by omega)) (by simp) (by omega) ht0⟩, ⟨_, w_gv T (decide_eq_false (by omega)) (by simp) (by omega) ht0⟩⟩
  · exact ⟨⟨_, w_Ln T (decide_eq_true (by omega))⟩, ⟨_, w_Lv T (decide_eq_true (by omega))⟩⟩
theorem p_vd (C : Nat → List V) (rows : List (List V)) (hC : ∀ k, plains (C k) = true) (hu : ∀ i r, 20 ≤ i → rows[i]? = some r → r = List.replicate (esOf Try.prog 30) V.undef) {G : Heap} (ht : ∀ i r, i < 20 → rows[i]? = some r → TypedF G (1 + i * nsl (leavesN Try.prog 4 30)) (leavesN Try.prog 4 30) r) :
    ∃ H', OK cfg (.fn 3 []) [.sl 1 (some (0, 0)) 0, .sl 3 (some (21, 0)) rows.length] ([.void] ++ AA C 20 rows.flatten) (.bool true) H' := by
  obtain ⟨S, X, m, e1, e2, e3, hR, hn⟩ := rows_of' 1 21 (by decide) rows hu ht
  rw [e1]
  exact ⟨_, w_vd S X C hC hR m rows.length (lv_all S X C hC hR m e2 (by omega) hn m 0 0 (by omega)) (by split <;> omega) (by omega)⟩
theorem p_nd (C : Nat → List V) (rows : List (List V)) (hC : ∀ k, plains (C k) = true) (hu : ∀ i r, 20 ≤ i → rows[i]? = some r → r = List.replicate (esOf Try.prog 30) V.undef) {G : Heap} (ht : ∀ i r, i < 20 → rows[i]? = some r → TypedF G (0 + i * nsl (leavesN Try.prog 4 30)) (leavesN Try.prog 4 30) r) :
    ∃ H', OK cfg (.fn 3 []) [.sl 1 none 0, .sl 3 (some (20, 0)) rows.length] (AA C 20 rows.flatten) (.bool true) H' := by
  obtain ⟨S, X, m, e1, e2, e3, hR, hn⟩ := rows_of' 0 20 (by decide) rows hu ht
  rw [e1]
  exact ⟨_, w_nd S X C hC hR m rows.length (ln_all S X C hC hR m e2 (by omega) hn m 0 0 (by omega)) (by split <;> omega) (by omega)⟩
end Go.Proofs.Yteljlgjofmbniaa.words
namespace Go.Proofs.Yteljlgjofmbniaa.wordReads
open Go Go.Vm
noncomputable abbrev cfg : Cfg := words.cfg
theorem law_nn : ∃ H', OK cfg (.fn 3 []) [.sl 1 none 0, .sl 3 none 0] [] (.bool true) H' := ⟨_, words.w_nn⟩
theorem law_nv : ∃ H', OK cfg (.fn 3 []) [.sl 1 none 0, .sl 3 (some (0, 0)) 0] [.void] (.bool true) H' := ⟨_, words.w_nv⟩
theorem law_vn : ∃ H', OK cfg (.fn 3 []) [.sl 1 (some (0, 0)) 0, .sl 3 none 0] [.void] (.bool true) H' := ⟨_, words.w_vn⟩
theorem law_vv : ∃ H', OK cfg (.fn 3 []) [.sl 1 (some (0, 0)) 0, .sl 3 (some (1, 0)) 0] [.void, .void] (.bool true) H' := ⟨_, words.w_vv⟩
theorem law_rn (rows0 : List (List V)) (h0 : ∀ r ∈ rows0, Typed (leaves Try.prog 3 5) r) : ∃ H', OK cfg (.fn 3 []) [.sl 1 (some (0, 0)) rows0.length, .sl 3 none 0] [.cells false rows0.flatten] (.bool true) H' := (words.p_rn rows0 h0).1
theorem law_rv (rows0 : List (List V)) (h0 : ∀ r ∈ rows0, Typed (leaves Try.prog 3 5) r) : ∃ H', OK cfg (.fn 3 []) [.sl 1 (some (0, 0)) rows0.length, .sl 3 (some (1, 0)) 0] [.cells false rows0.flatten, .void] (.bool true) H' := (words.p_rn rows0 h0).2
theorem law_nd (C : Nat → List V) (rows : List (List V)) (hC : ∀ k, plains (C k) = true) (hl : ∀ r ∈ rows, r.length = esOf Try.prog 30) (hu : ∀ i r, 20 ≤ i → rows[i]? = some r → r = List.replicate (esOf Try.prog 30) V.undef) (ht : ∀ i r, i < 20 → rows[i]? = some r → TypedF ([] ++ AA C (20 * nsl (leavesN Try.prog 4 30)) rows.flatten) (([] : Heap).length + i * nsl (leavesN Try.prog 4 30)) (leavesN Try.prog 4 30) r) :
    ∃ H', OK cfg (.fn 3 []) [.sl 1 none 0, .sl 3 (some (([] : Heap).length + 20 * nsl (leavesN Try.prog 4 30), 0)) rows.length] ([] ++ AA C (20 * nsl (leavesN Try.prog 4 30)) rows.flatten) (.bool true) H' := by
  have := words.p_nd C rows hC hu ht
  rw [words.aa_len]
  exact this
theorem law_vd (C : Nat → List V) (rows : List (List V)) (hC : ∀ k, plains (C k) = true) (hl : ∀ r ∈ rows, r.length = esOf Try.prog 30) (hu : ∀ i r, 20 ≤ i → rows[i]? = some r → r = List.replicate (esOf Try.prog 30) V.undef) (ht : ∀ i r, i < 20 → rows[i]? = some r → TypedF ([.void] ++ AA C (20 * nsl (leavesN Try.prog 4 30)) rows.flatten) (([.void] : Heap).length + i * nsl (leavesN Try.prog 4 30)) (leavesN Try.prog 4 30) r) :
    ∃ H', OK cfg (.fn 3 []) [.sl 1 (some (0, 0)) 0, .sl 3 (some (([.void] : Heap).length + 20 * nsl (leavesN Try.prog 4 30), 0)) rows.length] ([.void] ++ AA C (20 * nsl (leavesN Try.prog 4 30)) rows.flatten) (.bool true) H' := by
  have := words.p_vd C rows hC hu ht
  rw [words.aa_len]
  exact this
theorem law_rd (rows0 : List (List V)) (h0 : ∀ r ∈ rows0, Typed (leaves Try.prog 3 5) r) (C : Nat → List V) (rows : List (List V)) (hC : ∀ k, plains (C k) = true) (hl : ∀ r ∈ rows, r.length = esOf Try.prog 30) (hu : ∀ i r, 20 ≤ i → rows[i]? = some r → r = List.replicate (esOf Try.prog 30) V.undef) (ht : ∀ i r, i < 20 → rows[i]? = some r → TypedF ([.cells false rows0.flatten] ++ AA C (20 * nsl (leavesN Try.prog 4 30)) rows.flatten) (([.cells false rows0.flatten] : Heap).length + i * nsl (leavesN Try.prog 4 30)) (leavesN Try.prog 4 30) r) :
    ∃ H', OK cfg (.fn 3 []) [.sl 1 (some (0, 0)) rows0.length, .sl 3 (some (([.cells false rows0.flatten] : Heap).length + 20 * nsl (leavesN Try.prog 4 30), 0)) rows.length] ([.cells false rows0.flatten] ++ AA C (20 * nsl (leavesN Try.prog 4 30)) rows.flatten) (.bool true) H' := by
  have := words.p_rd rows0 h0 C rows hC hu ht
  rw [words.aa_len]
  exact this

end Go.Proofs.Yteljlgjofmbniaa.wordReads
