/-
  What is written, up to the first number that does not fit, is the document's, and is read as it was: any rows.
-/
import Derived.Test.YteljlgjofmbniaaWw6
set_option linter.unusedVariables false
set_option linter.unusedSimpArgs false
set_option maxRecDepth 100000
namespace Go.Proofs.Yteljlgjofmbniaa.words
open Go Go.Vm

theorem win_zero (L : List Int) (q : Nat) : win L 0 q = L.take q := by simp [win]
theorem rr_g (S : List WT) (X : List V) (C : Nat → List V) (D : Nat → List Int) (hC : ∀ k, plains (C k) = true) (hR : HR S X 20) (m : Nat) (hm : S.length = m) (h20 : m ≤ 20) (hr : Rows C D S) (hD : ∀ j, okb (D j)) (n : Nat) (hn : n ≤ m) (hok : ∀ j, j < n → okr S j) (T : List Int) (hT : T = cat S D n) : ∀ (d i o r : Nat), i + d = n → o = (cat S D i).length → o + r = T.length → ∃ o2 : Nat, LOK cfg none (lb 4 1) ((.sl 3 (some (20, 0)) m) :: u_ :: u_ :: u_ :: u_ :: u_ :: (i6 ((n : Nat) : Int)) :: u_ :: u_ :: u_ :: u_ :: (.ptr (some (22, 0))) :: (i6 ((i : Nat) : Int)) :: us 163) (hA C S X [.cells true ((T).map (V.int .u8)), c1 [(i6 0), (.sl 1 (some (21, o)) r)]]) (.exit 2) (u_ :: u_ :: u_ :: u_ :: u_ :: u_ :: u_ :: u_ :: u_ :: u_ :: u_ :: (.ptr (some (22, 0))) :: us 164) (hA C S X [.cells true ((T).map (V.int .u8)), c1 [(i6 0), (.sl 1 (some (21, o2)) 0)]]) := by
  have hcl := cat_len S D n
  have hob : okb T := by rw [hT]; exact cat_okb S D hD n
  have htl : T.length = (cat S D n).length := by rw [hT]
  intro d
  induction d with
  | zero =>
    intro i o r hi ho hor
    have : i = n := by omega
    subst this
    have hr0 : r = 0 := by omega
    subst hr0
    exact ⟨o, rx_g S X C D hC hR _ m _ 0 _ _ 0 0 _ (decide_eq_false (by omega))⟩
  | succ d IH =>
    intro i o r hi ho hor
    have hc : (cat S D (i + 1)).length = (cat S D i).length + (encI S D i).length := by rw [cat, List.length_append]
    have hle := cat_le S D (i := i + 1) (n := n) (by omega)
    have hwc := win_cat S D (i := i) (n := n) (by omega)
    rw [← hT, ← ho] at hwc
    by_cases hk : (gW S i).1 = 8
    · rcases RowsIs S C D hr i (by omega) with ⟨hp, hz, hd⟩ | ⟨hp, hl, hC3⟩
      · have hen : encI S D i = [] := by rw [encI, if_pos hk, hd]; rfl
        obtain ⟨o2, k⟩ := IH (i + 1) (o + 0) r (by omega) (by rw [hc, hen]; simp [ho]) hor
        exact ⟨o2, rn_g S X C D hC hR i (by omega) m n 0 o r _ 0 T hp (by omega) hz (decide_eq_true (by omega)) (by omega) (beq_iff_eq.2 hk) ((wrap_i64 (by omega)).trans (by omega)) k⟩
      · obtain ⟨q, hq⟩ : ∃ q, q = min (D i).length 50 := ⟨_, rfl⟩
        have hen : encI S D i = (D i).take q := by rw [encI, if_pos hk, hq]
        have hel : (encI S D i).length = q := by rw [hen, List.length_take]; omega
        by_cases hq0 : q = 0
        · obtain ⟨o2, k⟩ := IH (i + 1) (o + 0) r (by omega) (by omega) hor
          exact ⟨o2, rz_g S X C D hC hR i (by omega) m n 0 o r _ 0 T hp (by omega) hC3 (decide_eq_true (by omega)) (by omega) (beq_iff_eq.2 hk) (by split <;> omega) (by omega) ((wrap_i64 (by omega)).trans (by omega)) k⟩
        · have hw : win T o q = win (D i) 0 q := by rw [win_zero, ← hen, ← hwc, hel]
          obtain ⟨o2, k⟩ := IH (i + 1) (o + (q * 1)) (r - q) (by omega) (by omega) (by omega)
          exact ⟨o2, rg_g S X C D hC hR i (by omega) m n q o r _ 0 T hp (by omega) hC3 (decide_eq_true (by omega)) (by omega) (beq_iff_eq.2 hk) (by split <;> omega) (by omega) (by omega) (by omega) (by omega) (by omega) hw (by omega) ((wrap_i64 (by omega)).trans (by omega)) k⟩
    · have hfit : fits (gW S i).1 (gW S i).2.1 = true := (hok i (by omega)).resolve_left hk
      have hen : encI S D i = bytes (gW S i).1 (gW S i).2.1 := by rw [encI, if_neg hk]
      have hbz := bytes_zn _ _ hfit
      have hbn := bytes_ne (gW S i).1 (gW S i).2.1
      have hel : (encI S D i).length = zn (gW S i).1 := by rw [hen, hbz]
      have hz0 : zn (gW S i).1 ≠ 0 := by rw [← hbz]; exact hbn
      have hw : win T o (zn (gW S i).1) = bytes (gW S i).1 (gW S i).2.1 := by rw [← hel, hwc, hen]
      obtain ⟨o2, k⟩ := IH (i + 1) (o + (zn (gW S i).1 * 1)) (r - zn (gW S i).1) (by omega) (by omega) (by omega)
      exact ⟨o2, rk_g S X C D hC hR i (by omega) m n 0 o r _ 0 T (decide_eq_true (by omega)) (by omega) (by omega) (beq_eq_false_iff_ne.2 hk) hz0 (by omega) (by omega) hob (by rw [hw, back1 _ _ hfit]) (by rw [hw, back1 _ _ hfit]; exact bne_self_eq_false _) ((wrap_i64 (by omega)).trans (by omega)) k⟩
theorem rr_z (S : List WT) (X : List V) (C : Nat → List V) (D : Nat → List Int) (hC : ∀ k, plains (C k) = true) (hR : HR S X 20) (m : Nat) (hm : S.length = m) (h20 : m ≤ 20) (hr : Rows C D S) (n : Nat) (hn : n ≤ m) (hok : ∀ j, j < n → okr S j) (hT : cat S D n = []) : ∀ (d i : Nat), i + d = n → LOK cfg none (lb 4 1) ((.sl 3 (some (20, 0)) m) :: u_ :: u_ :: u_ :: u_ :: u_ :: (i6 ((n : Nat) : Int)) :: u_ :: u_ :: u_ :: u_ :: (.ptr (some (21, 0))) :: (i6 ((i : Nat) : Int)) :: us 163) (hA C S X [c1 [(i6 0), (.sl 1 none 0)]]) (.exit 2) (u_ :: u_ :: u_ :: u_ :: u_ :: u_ :: u_ :: u_ :: u_ :: u_ :: u_ :: (.ptr (some (21, 0))) :: us 164) (hA C S X [c1 [(i6 0), (.sl 1 none 0)]]) := by
  intro d
  induction d with
  | zero =>
    intro i hi
    exact rx_z S X C D hC hR i m n 0 0 0 0 0 [] (decide_eq_false (by omega))
  | succ d IH =>
    intro i hi
    have ih := IH (i + 1) (by omega)
    have hc : (cat S D (i + 1)).length = (cat S D i).length + (encI S D i).length := by rw [cat, List.length_append]
    have hle := cat_le S D (i := i + 1) (n := n) (by omega)
    rw [hT, List.length_nil] at hle
    by_cases hk : (gW S i).1 = 8
    · rcases RowsIs S C D hr i (by omega) with ⟨hp, hz, hd⟩ | ⟨hp, hl, hC3⟩
      · exact rn_z S X C D hC hR i (by omega) m n 0 0 0 0 0 [] hp (by omega) hz (decide_eq_true (by omega)) (by omega) (beq_iff_eq.2 hk) ((wrap_i64 (by omega)).trans (by omega)) ih
      · obtain ⟨q, hq⟩ : ∃ q, q = min (D i).length 50 := ⟨_, rfl⟩
        have hen : encI S D i = (D i).take q := by rw [encI, if_pos hk, hq]
        have hel : (encI S D i).length = q := by rw [hen, List.length_take]; omega
        have hq0 : q = 0 := by omega
        exact rz_z S X C D hC hR i (by omega) m n 0 0 0 0 0 [] hp (by omega) hC3 (decide_eq_true (by omega)) (by omega) (beq_iff_eq.2 hk) (by split <;> omega) (by omega) ((wrap_i64 (by omega)).trans (by omega)) ih
    · have hen : encI S D i = bytes (gW S i).1 (gW S i).2.1 := by rw [encI, if_neg hk]
      have hbn := bytes_ne (gW S i).1 (gW S i).2.1
      rw [hen] at hc
      omega
theorem row_of2 {G : Heap} {b : Nat} {r : List V} (h : TypedF G b [.fl (.int .i64), .fl (.int .i64), .sl [.int .u8] 1] r) : ∃ x : WT, r = encW x ∧ ((x.2.2.1 = none ∧ x.2.2.2 = 0) ∨ ∃ l : List Int, okb l ∧ x.2.2.1 = some (b, 0) ∧ x.2.2.2 = l.length ∧ G[b]? = some (.cells false (l.map (V.int .u8)))) := by
  match r, h with
  | [.int k i, .int k2 n, v], h =>
    obtain ⟨⟨rfl, _⟩, ⟨rfl, _⟩, hv, _⟩ := h
    rcases hv with rfl | ⟨rows, rfl, h1, hl, h2⟩
    · exact ⟨(i, n, none, 0), rfl, .inl ⟨rfl, rfl⟩⟩
    · obtain ⟨l, e1, e2, e3⟩ := rows_int h2
      refine ⟨(i, n, some (b, 0), rows.length), rfl, .inr ⟨l, fun x hx => wf_u8 (e3 x hx), rfl, e2, ?_⟩⟩
      rw [← e1]
      exact h1
theorem rows_split2 (P : Nat → WT → Prop) : ∀ (rows : List (List V)) (M base : Nat), (∀ i r, i < M → rows[i]? = some r → ∃ x : WT, r = encW x ∧ P (base + i) x) → (∀ i r, M ≤ i → rows[i]? = some r → r = List.replicate 3 V.undef) →
    ∃ (S : List WT) (k : Nat), rows.flatten = RW S (List.replicate k V.undef) ∧ S.length = min rows.length M ∧ ∀ i x, S[i]? = some x → P (base + i) x
  | [], M, base, _, _ => ⟨[], 0, rfl, by simp, fun i x h => by simp at h⟩
  | r :: rows, 0, base, h1, h2 => by
    obtain ⟨S, k, e1, e2, e3⟩ := rows_split2 P rows 0 base (fun i r hi => by omega) (fun i r hi hr => h2 (i + 1) r (by omega) (by simpa using hr))
    have hS : S = [] := List.eq_nil_of_length_eq_zero (by omega)
    subst hS
    refine ⟨[], 3 + k, ?_, by simp, e3⟩
    rw [List.flatten_cons, e1, h2 0 r (by omega) rfl]
    simp only [RW, List.map_nil, List.flatten_nil, List.nil_append]
    rw [List.replicate_append_replicate]
  | r :: rows, M + 1, base, h1, h2 => by
    obtain ⟨x, hx, hp⟩ := h1 0 r (by omega) rfl
    obtain ⟨S, k, e1, e2, e3⟩ := rows_split2 P rows M (base + 1) (fun i r hi hr => by
      have := h1 (i + 1) r (by omega) (by simpa using hr)
      rw [show base + (i + 1) = base + 1 + i by omega] at this
      exact this) (fun i r hi hr => h2 (i + 1) r (by omega) (by simpa using hr))
    refine ⟨x :: S, k, ?_, by simp; omega, fun i y hy => ?_⟩
    · rw [List.flatten_cons, e1, hx]
      simp [RW]
    · cases i with
      | zero => simp at hy; subst hy; exact hp
      | succ i =>
        have := e3 i y (by simpa using hy)
        rw [show base + (i + 1) = base + 1 + i by omega]
        exact this
theorem ve_rows2 {σ : Sig} : ∀ (S : List WT) (base : Nat), (∀ i x, S[i]? = some x → x.2.2.1 = none ∨ x.2.2.1 = some (base + i, 0)) → (∀ b, b < base + S.length → σ b = some (b, 0)) → VEL true σ ((S.map encW).flatten) ((S.map encW).flatten)
  | [], _, _, _ => .nil
  | (a, c, p, n) :: S, base, h, hσ => by
    rw [List.map_cons, List.flatten_cons]
    refine VEL.append ?_ (ve_rows2 S (base + 1) (fun i y hy => by
      have := h (i + 1) y (by simpa using hy)
      rw [show base + (i + 1) = base + 1 + i by omega] at this
      exact this) (fun b hb => hσ b (by simp at hb ⊢; omega)))
    refine .c (.int _ _) (.c (.int _ _) (.c ?_ .nil))
    rcases h 0 (a, c, p, n) rfl with e | e
    · simp only at e; subst e; exact .slN 1 _
    · simp only at e; subst e; exact .sl 1 _ 0 _ _ 0 (hσ _ (by simp))
theorem ve_und {σ : Sig} : ∀ (k : Nat), VEL true σ (List.replicate k V.undef) (List.replicate k V.undef)
  | 0 => .nil
  | k + 1 => .c .q (ve_und k)
theorem nls_eq : leavesN Try.prog 4 30 = [.fl (.int .i64), .fl (.int .i64), .sl [.int .u8] 1] := by kernel_rfl
theorem es_eq : esOf Try.prog 30 = 3 := by kernel_rfl
theorem aa_len : 20 * nsl (leavesN Try.prog 4 30) = 20 := by rw [nls_eq]; rfl
theorem aa_get (C : Nat → List V) (R : List V) (i : Nat) (hi : i < 20) : (([] : Heap) ++ AA C 20 R)[i]? = some (.cells false (C i)) := by
  rw [List.nil_append, AA, List.getElem?_append_left (by simp; omega), List.getElem?_map, List.getElem?_range hi]
  rfl
theorem rows_of2 (C : Nat → List V) (rows : List (List V)) (hu : ∀ i r, 20 ≤ i → rows[i]? = some r → r = List.replicate (esOf Try.prog 30) V.undef) (ht : ∀ i r, i < 20 → rows[i]? = some r → TypedF (([] : Heap) ++ AA C 20 rows.flatten) (0 + i * nsl (leavesN Try.prog 4 30)) (leavesN Try.prog 4 30) r) :
    ∃ (S : List WT) (X : List V) (m : Nat) (D : Nat → List Int), rows.flatten = RW S X ∧ S.length = m ∧ m = min rows.length 20 ∧ HR S X 20 ∧ Rows C D S ∧ ∀ j, okb (D j) := by
  rw [es_eq] at hu
  rw [nls_eq] at ht
  obtain ⟨S, k, e1, e2, e3⟩ := rows_split2 (fun i x => (x.2.2.1 = none ∧ x.2.2.2 = 0) ∨ ∃ l : List Int, okb l ∧ x.2.2.1 = some (i, 0) ∧ x.2.2.2 = l.length ∧ (([] : Heap) ++ AA C 20 rows.flatten)[i]? = some (.cells false (l.map (V.int .u8)))) rows 20 0 (fun i r hi hr => by
    have h := ht i r hi hr
    rw [show i * nsl [.fl (.int .i64), .fl (.int .i64), .sl [.int .u8] 1] = i by simp [nsl]] at h
    exact row_of2 h) hu
  have at_ : ∀ i, i < S.length → S[i]? = some (gW S i) := fun i hi => by
    rw [List.getElem?_eq_getElem hi]
    simp [gW, List.getD_eq_getElem?_getD, List.getElem?_eq_getElem hi]
  have ch : ∀ i, ∃ l : List Int, okb l ∧ (i < S.length → ((gW S i).2.2.1 = none ∧ (gW S i).2.2.2 = 0 ∧ l = []) ∨ ((gW S i).2.2.1 = some (i, 0) ∧ (gW S i).2.2.2 = l.length ∧ C i = l.map (V.int .u8))) := by
    intro i
    by_cases hi : i < S.length
    · have h := e3 i _ (at_ i hi)
      rw [Nat.zero_add] at h
      rcases h with ⟨h1, h2⟩ | ⟨l, h0, h1, h2, h3⟩
      · exact ⟨[], fun x hx => (by cases hx), fun _ => .inl ⟨h1, h2, rfl⟩⟩
      · refine ⟨l, h0, fun _ => .inr ⟨h1, h2, ?_⟩⟩
        rw [aa_get C _ i (by omega)] at h3
        injection h3 with h3
        injection h3 with _ h3
    · exact ⟨[], fun x hx => (by cases hx), fun h => absurd h hi⟩
  refine ⟨S, _, min rows.length 20, fun i => Classical.choose (ch i), e1, e2, rfl, ?_, ⟨fun i hi hp => ?_, fun i hi hp => ?_⟩, fun j => (Classical.choose_spec (ch j)).1⟩
  · intro σ hσ
    refine VEL.append (ve_rows2 S 0 (fun i x hx => ?_) (fun b hb => hσ b (by omega))) (ve_und k)
    rcases e3 i x hx with ⟨h1, _⟩ | ⟨_, _, h1, _⟩
    · exact .inl h1
    · exact .inr h1
  · rcases (Classical.choose_spec (ch i)).2 hi with ⟨_, h2, h3⟩ | ⟨h1, _⟩
    · exact ⟨h2, h3⟩
    · rw [hp] at h1; cases h1
  · rcases (Classical.choose_spec (ch i)).2 hi with ⟨h1, _⟩ | h
    · exact absurd h1 hp
    · exact h
theorem p_d (C : Nat → List V) (rows : List (List V)) (hC : ∀ k, plains (C k) = true) (hu : ∀ i r, 20 ≤ i → rows[i]? = some r → r = List.replicate (esOf Try.prog 30) V.undef) (ht : ∀ i r, i < 20 → rows[i]? = some r → TypedF (([] : Heap) ++ AA C 20 rows.flatten) (0 + i * nsl (leavesN Try.prog 4 30)) (leavesN Try.prog 4 30) r) :
    ∃ H', OK cfg (.fn 4 []) [.sl 3 (some (20, 0)) rows.length] (AA C 20 rows.flatten) (.bool true) H' := by
  obtain ⟨S, X, m, D, e1, e2, e3, hR, hr, hD⟩ := rows_of2 C rows hu ht
  rw [e1]
  obtain ⟨n2, e2', g1, g2, g3, _, _⟩ := w_all S X C D hC hR m e2 (by omega) hr m 0 (by omega) (fun j hj => by omega)
  have hcl := cat_len S D n2
  rcases g3 rfl 0 with ⟨h1, e3', k⟩ | ⟨h1, k⟩
  · exact ⟨_, lw_n S X C D hC hR m rows.length n2 0 e3' e2' [] k (rr_z S X C D hC hR m e2 (by omega) hr n2 g1 g2 h1 n2 0 (by omega)) (by split <;> omega) (by omega) rfl rfl (bne_self_eq_false _) rfl⟩
  · obtain ⟨o2, kr⟩ := rr_g S X C D hC hR m e2 (by omega) hr hD n2 g1 g2 _ rfl n2 0 0 (cat S D n2).length (by omega) rfl (by omega)
    have hz0 : (cat S D n2).length ≠ 0 := fun h => h1 (List.eq_nil_of_length_eq_zero h)
    exact ⟨_, lw_f S X C D hC hR m rows.length n2 o2 0 e2' (cat S D n2) k kr (by split <;> omega) (by omega) rfl rfl (by simp) (by omega) hz0 (by rw [win_zero, List.take_length]) (by omega) (by omega) (bne_self_eq_false _) (by omega)⟩
end Go.Proofs.Yteljlgjofmbniaa.words
namespace Go.Proofs.Yteljlgjofmbniaa.wordWrites
open Go Go.Vm
noncomputable abbrev cfg : Cfg := words.cfg
theorem law_n : ∃ H', OK cfg (.fn 4 []) [.sl 3 none 0] [] (.bool true) H' := words.lw_nil
theorem law_v : ∃ H', OK cfg (.fn 4 []) [.sl 3 (some (0, 0)) 0] [.void] (.bool true) H' := words.lw_void
theorem law_d (C : Nat → List V) (rows : List (List V)) (hC : ∀ k, plains (C k) = true) (hl : ∀ r ∈ rows, r.length = esOf Try.prog 30) (hu : ∀ i r, 20 ≤ i → rows[i]? = some r → r = List.replicate (esOf Try.prog 30) V.undef) (ht : ∀ i r, i < 20 → rows[i]? = some r → TypedF ([] ++ AA C (20 * nsl (leavesN Try.prog 4 30)) rows.flatten) (([] : Heap).length + i * nsl (leavesN Try.prog 4 30)) (leavesN Try.prog 4 30) r) :
    ∃ H', OK cfg (.fn 4 []) [.sl 3 (some (([] : Heap).length + 20 * nsl (leavesN Try.prog 4 30), 0)) rows.length] ([] ++ AA C (20 * nsl (leavesN Try.prog 4 30)) rows.flatten) (.bool true) H' := by
  have := words.p_d C rows hC hu (fun i r hi hr => by
    have h := ht i r hi hr
    rw [words.aa_len] at h
    exact h)
  rw [words.aa_len]
  exact this

end Go.Proofs.Yteljlgjofmbniaa.wordWrites
