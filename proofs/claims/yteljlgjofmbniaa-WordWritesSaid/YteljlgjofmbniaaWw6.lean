/-
  What is written, up to the first number that does not fit, is the document's, and is read as it was.
-/
import Derived.Test.YteljlgjofmbniaaWw5
set_option linter.unusedVariables false
set_option linter.unusedSimpArgs false
set_option maxRecDepth 100000
namespace Go.Proofs.Yteljlgjofmbniaa.words
open Go Go.Vm

theorem RowsIs (S : List WT) (C : Nat → List V) (D : Nat → List Int) (hr : Rows C D S) (i : Nat) (hi : i < S.length) : ((gW S i).2.2.1 = none ∧ (gW S i).2.2.2 = 0 ∧ D i = []) ∨ ((gW S i).2.2.1 = some (i, 0) ∧ (gW S i).2.2.2 = (D i).length ∧ C i = (D i).map (V.int .u8)) := by
  by_cases h : (gW S i).2.2.1 = none
  · exact .inl ⟨h, (hr.a i hi h).1, (hr.a i hi h).2⟩
  · exact .inr (hr.b i hi h)
/-- A row's bytes. -/
def encI (S : List WT) (D : Nat → List Int) (j : Nat) : List Int := if (gW S j).1 = 8 then (D j).take (min (D j).length 50) else bytes (gW S j).1 (gW S j).2.1
/-- The bytes of the first rows. -/
def cat (S : List WT) (D : Nat → List Int) : Nat → List Int
  | 0 => []
  | n + 1 => cat S D n ++ encI S D n
/-- May a row be written? -/
def okr (S : List WT) (j : Nat) : Prop := (gW S j).1 = 8 ∨ fits (gW S j).1 (gW S j).2.1 = true
theorem bytes_len (k v : Int) : (bytes k v).length ≤ 4 := by
  unfold bytes
  split
  · simp
  · split <;> simp
theorem bytes_ne (k v : Int) : (bytes k v).length ≠ 0 := by
  unfold bytes
  split
  · simp
  · split <;> simp
theorem bytes_zn (k v : Int) (h : fits k v = true) : (bytes k v).length = zn k := by
  have hp : 0 < sz k := by simp [fits] at h; omega
  unfold bytes zn
  rcases sz_cases k with e | e | e | e
  · omega
  · rw [e]; rfl
  · rw [e]; rfl
  · rw [e]; rfl
theorem enc_len (S : List WT) (D : Nat → List Int) (j : Nat) : (encI S D j).length ≤ 50 := by
  unfold encI
  split
  · simp; omega
  · have := bytes_len (gW S j).1 (gW S j).2.1; omega
theorem cat_len (S : List WT) (D : Nat → List Int) : ∀ n, (cat S D n).length ≤ 50 * n
  | 0 => Nat.le_refl _
  | n + 1 => by have := cat_len S D n; have := enc_len S D n; rw [cat, List.length_append]; omega
theorem cat_okb (S : List WT) (D : Nat → List Int) (hD : ∀ j, okb (D j)) : ∀ n, okb (cat S D n)
  | 0 => fun x hx => by cases hx
  | n + 1 => fun x hx => by
    rw [cat] at hx
    rcases List.mem_append.1 hx with hx | hx
    · exact cat_okb S D hD n x hx
    · unfold encI at hx
      split at hx
      · exact hD n x (List.mem_of_mem_take hx)
      · exact bytes_ok _ _ x hx
theorem cat_pre (S : List WT) (D : Nat → List Int) (i : Nat) : ∀ d, ∃ R, cat S D (i + d) = cat S D i ++ R
  | 0 => ⟨[], by simp⟩
  | d + 1 => by
    obtain ⟨R, hR⟩ := cat_pre S D i d
    exact ⟨R ++ encI S D (i + d), by rw [← Nat.add_assoc, cat, hR, List.append_assoc]⟩
theorem cat_le (S : List WT) (D : Nat → List Int) {i n : Nat} (h : i ≤ n) : (cat S D i).length ≤ (cat S D n).length := by
  obtain ⟨R, hR⟩ := cat_pre S D i (n - i)
  rw [show i + (n - i) = n by omega] at hR
  rw [hR, List.length_append]
  omega
theorem win_cat (S : List WT) (D : Nat → List Int) {i n : Nat} (h : i < n) : win (cat S D n) (cat S D i).length (encI S D i).length = encI S D i := by
  obtain ⟨R, hR⟩ := cat_pre S D (i + 1) (n - (i + 1))
  rw [show i + 1 + (n - (i + 1)) = n by omega] at hR
  rw [hR, cat, win, List.append_assoc, List.drop_left, List.take_left]
theorem ws_n (S : List WT) (X : List V) (C : Nat → List V) (D : Nat → List Int) (hC : ∀ k, plains (C k) = true) (hR : HR S X 20) (m : Nat) (hm : S.length = m) (h20 : m ≤ 20) (hr : Rows C D S) (n e0 : Nat) (e : Int) (he : e ≠ 0) : ∀ (d i : Nat), i + d = m → LOK cfg none (lb 4 0) ((.sl 3 (some (20, 0)) m) :: u_ :: u_ :: (.ptr (some (21, 0))) :: (.sl 1 (some (22, 0)) ([] : List Int).length) :: (i6 e) :: (i6 ((n : Nat) : Int)) :: (i6 ((i : Nat) : Int)) :: us 168) (hA C S X [c1 [(i6 e), (.sl e0 none 0)], .cells true ((([] : List Int)).map (V.int .u8))]) (.exit 0) ((.sl 3 (some (20, 0)) m) :: u_ :: u_ :: (.ptr (some (21, 0))) :: (.sl 1 (some (23, 0)) ([] : List Int).length) :: (i6 e) :: (i6 ((n : Nat) : Int)) :: us 169) (hA C S X [c1 [(i6 e), (.sl e0 none 0)], d_, .cells true ((([] : List Int)).map (V.int .u8))]) := by
  intro d
  induction d with
  | zero =>
    intro i hi
    exact wx_nn S X C D hC hR i m n 0 n e0 e0 e e [] [] (decide_eq_false (by omega))
  | succ d IH =>
    intro i hi
    have ih := IH (i + 1) (by omega)
    by_cases hk : (gW S i).1 = 8
    · rcases RowsIs S C D hr i (by omega) with ⟨hp, hz, hd⟩ | ⟨hp, hl, hC3⟩
      · exact tna_nn S X C D hC hR i (by omega) m n 0 n e0 e0 e e [] [] hp (by omega) hz (decide_eq_true (by omega)) (by omega) (beq_iff_eq.2 hk) (beq_eq_false_iff_ne.2 he) ((wrap_i64 (by omega)).trans (by omega)) ih
      · obtain ⟨q, hq⟩ : ∃ q, q = min (D i).length 50 := ⟨_, rfl⟩
        exact tsa_nn S X C D hC hR i (by omega) m n q n e0 e0 e e [] [] hp (by omega) hC3 (decide_eq_true (by omega)) (by omega) (beq_iff_eq.2 hk) (by split <;> omega) (by omega) (beq_eq_false_iff_ne.2 he) ((wrap_i64 (by omega)).trans (by omega)) ih
    · cases hfit : fits (gW S i).1 (gW S i).2.1 with
      | true => exact na_nn S X C D hC hR i (by omega) m n 0 n e0 e0 e e [] [] (decide_eq_true (by omega)) (by omega) (by omega) (beq_eq_false_iff_ne.2 hk) hfit (beq_eq_false_iff_ne.2 he) (by simpa using he) ((wrap_i64 (by omega)).trans (by omega)) ih
      | false => exact nb_nn S X C D hC hR i (by omega) m n 0 n e0 e0 e e [] [] (decide_eq_true (by omega)) (by omega) (by omega) (beq_eq_false_iff_ne.2 hk) hfit (beq_eq_false_iff_ne.2 he) (by simpa using he) ((wrap_i64 (by omega)).trans (by omega)) ih
theorem ws_f (S : List WT) (X : List V) (C : Nat → List V) (D : Nat → List Int) (hC : ∀ k, plains (C k) = true) (hR : HR S X 20) (m : Nat) (hm : S.length = m) (h20 : m ≤ 20) (hr : Rows C D S) (n : Nat) (e : Int) (W : List Int) (he : e ≠ 0) : ∀ (d i : Nat), i + d = m → LOK cfg none (lb 4 0) ((.sl 3 (some (20, 0)) m) :: u_ :: u_ :: (.ptr (some (21, 0))) :: (.sl 1 (some (23, 0)) W.length) :: (i6 e) :: (i6 ((n : Nat) : Int)) :: (i6 ((i : Nat) : Int)) :: us 168) (hA C S X [c1 [(i6 e), (.sl 1 (some (22, 0)) W.length)], .cells true ((W).map (V.int .u8)), .cells true ((W).map (V.int .u8))]) (.exit 0) ((.sl 3 (some (20, 0)) m) :: u_ :: u_ :: (.ptr (some (21, 0))) :: (.sl 1 (some (25, 0)) W.length) :: (i6 e) :: (i6 ((n : Nat) : Int)) :: us 169) (hA C S X [c1 [(i6 e), (.sl 1 (some (24, 0)) W.length)], d_, d_, .cells true ((W).map (V.int .u8)), .cells true ((W).map (V.int .u8))]) := by
  intro d
  induction d with
  | zero =>
    intro i hi
    exact wx_ff S X C D hC hR i m n 0 n 0 0 e e W W (decide_eq_false (by omega))
  | succ d IH =>
    intro i hi
    have ih := IH (i + 1) (by omega)
    by_cases hk : (gW S i).1 = 8
    · rcases RowsIs S C D hr i (by omega) with ⟨hp, hz, hd⟩ | ⟨hp, hl, hC3⟩
      · exact tna_ff S X C D hC hR i (by omega) m n 0 n 0 0 e e W W hp (by omega) hz (decide_eq_true (by omega)) (by omega) (beq_iff_eq.2 hk) (beq_eq_false_iff_ne.2 he) ((wrap_i64 (by omega)).trans (by omega)) ih
      · obtain ⟨q, hq⟩ : ∃ q, q = min (D i).length 50 := ⟨_, rfl⟩
        exact tsa_ff S X C D hC hR i (by omega) m n q n 0 0 e e W W hp (by omega) hC3 (decide_eq_true (by omega)) (by omega) (beq_iff_eq.2 hk) (by split <;> omega) (by omega) (beq_eq_false_iff_ne.2 he) ((wrap_i64 (by omega)).trans (by omega)) ih
    · cases hfit : fits (gW S i).1 (gW S i).2.1 with
      | true => exact na_ff S X C D hC hR i (by omega) m n 0 n 0 0 e e W W (decide_eq_true (by omega)) (by omega) (by omega) (beq_eq_false_iff_ne.2 hk) hfit (beq_eq_false_iff_ne.2 he) (by simpa using he) ((wrap_i64 (by omega)).trans (by omega)) ih
      | false => exact nb_ff S X C D hC hR i (by omega) m n 0 n 0 0 e e W W (decide_eq_true (by omega)) (by omega) (by omega) (beq_eq_false_iff_ne.2 hk) hfit (beq_eq_false_iff_ne.2 he) (by simpa using he) ((wrap_i64 (by omega)).trans (by omega)) ih
theorem w_all (S : List WT) (X : List V) (C : Nat → List V) (D : Nat → List Int) (hC : ∀ k, plains (C k) = true) (hR : HR S X 20) (m : Nat) (hm : S.length = m) (h20 : m ≤ 20) (hr : Rows C D S) : ∀ (d i : Nat), i + d = m → (∀ j, j < i → okr S j) → ∃ (n2 : Nat) (e2 : Int), n2 ≤ m ∧ (∀ j, j < n2 → okr S j) ∧ (cat S D i = [] → ∀ e0 : Nat, (cat S D n2 = [] ∧ ∃ e3 : Nat, LOK cfg none (lb 4 0) ((.sl 3 (some (20, 0)) m) :: u_ :: u_ :: (.ptr (some (21, 0))) :: (.sl 1 (some (22, 0)) ([] : List Int).length) :: (i6 0) :: (i6 ((i : Nat) : Int)) :: (i6 ((i : Nat) : Int)) :: us 168) (hA C S X [c1 [(i6 0), (.sl e0 none 0)], .cells true ((([] : List Int)).map (V.int .u8))]) (.exit 0) ((.sl 3 (some (20, 0)) m) :: u_ :: u_ :: (.ptr (some (21, 0))) :: (.sl 1 (some (23, 0)) ([] : List Int).length) :: (i6 e2) :: (i6 ((n2 : Nat) : Int)) :: us 169) (hA C S X [c1 [(i6 e2), (.sl e3 none 0)], d_, .cells true ((([] : List Int)).map (V.int .u8))])) ∨ (cat S D n2 ≠ [] ∧ LOK cfg none (lb 4 0) ((.sl 3 (some (20, 0)) m) :: u_ :: u_ :: (.ptr (some (21, 0))) :: (.sl 1 (some (22, 0)) ([] : List Int).length) :: (i6 0) :: (i6 ((i : Nat) : Int)) :: (i6 ((i : Nat) : Int)) :: us 168) (hA C S X [c1 [(i6 0), (.sl e0 none 0)], .cells true ((([] : List Int)).map (V.int .u8))]) (.exit 0) ((.sl 3 (some (20, 0)) m) :: u_ :: u_ :: (.ptr (some (21, 0))) :: (.sl 1 (some (24, 0)) (cat S D n2).length) :: (i6 e2) :: (i6 ((n2 : Nat) : Int)) :: us 169) (hA C S X [c1 [(i6 e2), (.sl 1 (some (23, 0)) (cat S D n2).length)], d_, .cells true (((cat S D n2)).map (V.int .u8)), .cells true (((cat S D n2)).map (V.int .u8))]))) ∧ (cat S D i ≠ [] → LOK cfg none (lb 4 0) ((.sl 3 (some (20, 0)) m) :: u_ :: u_ :: (.ptr (some (21, 0))) :: (.sl 1 (some (23, 0)) (cat S D i).length) :: (i6 0) :: (i6 ((i : Nat) : Int)) :: (i6 ((i : Nat) : Int)) :: us 168) (hA C S X [c1 [(i6 0), (.sl 1 (some (22, 0)) (cat S D i).length)], .cells true (((cat S D i)).map (V.int .u8)), .cells true (((cat S D i)).map (V.int .u8))]) (.exit 0) ((.sl 3 (some (20, 0)) m) :: u_ :: u_ :: (.ptr (some (21, 0))) :: (.sl 1 (some (25, 0)) (cat S D n2).length) :: (i6 e2) :: (i6 ((n2 : Nat) : Int)) :: us 169) (hA C S X [c1 [(i6 e2), (.sl 1 (some (24, 0)) (cat S D n2).length)], d_, d_, .cells true (((cat S D n2)).map (V.int .u8)), .cells true (((cat S D n2)).map (V.int .u8))])) ∧ i ≤ n2 := by
  intro d
  induction d with
  | zero =>
    intro i hi hok
    exact ⟨i, 0, by omega, hok, fun h e0 => .inl ⟨h, e0, wx_nn S X C D hC hR i m i 0 i e0 e0 0 0 [] [] (decide_eq_false (by omega))⟩, fun h => wx_ff S X C D hC hR i m i 0 i 0 0 0 0 _ [] (decide_eq_false (by omega)), Nat.le_refl _⟩
  | succ d IH =>
    intro i hi hok
    have hcl := cat_len S D i
    by_cases hk : (gW S i).1 = 8
    · have hok2 : ∀ j, j < i + 1 → okr S j := fun j hj => by
        by_cases e : j = i
        · subst e; exact .inl hk
        · exact hok j (by omega)
      obtain ⟨n2, e2, g1, g2, g3, g4, g5⟩ := IH (i + 1) (by omega) hok2
      rcases RowsIs S C D hr i (by omega) with ⟨hp, hz, hd⟩ | ⟨hp, hl, hC3⟩
      · have hc : cat S D (i + 1) = cat S D i := by rw [cat, encI, if_pos hk, hd]; simp
        rw [hc] at g3 g4
        refine ⟨n2, e2, g1, g2, fun h e0 => ?_, fun h => ?_, by omega⟩
        · rcases g3 h 1 with ⟨h1, e3, k⟩ | ⟨h1, k⟩
          · exact .inl ⟨h1, e3, tn_nn S X C D hC hR i (by omega) m i 0 _ e0 e3 0 _ [] [] hp (by omega) hz (decide_eq_true (by omega)) (by omega) (beq_iff_eq.2 hk) ((wrap_i64 (by omega)).trans (by omega)) ((wrap_i64 (by omega)).trans (by omega)) (by simp; try omega) k⟩
          · exact .inr ⟨h1, tn_nf S X C D hC hR i (by omega) m i 0 _ e0 0 0 _ [] _ hp (by omega) hz (decide_eq_true (by omega)) (by omega) (beq_iff_eq.2 hk) ((wrap_i64 (by omega)).trans (by omega)) ((wrap_i64 (by omega)).trans (by omega)) (by simp; try omega) k⟩
        · exact tn_ff S X C D hC hR i (by omega) m i 0 _ 0 0 0 _ _ _ hp (by omega) hz (decide_eq_true (by omega)) (by omega) (beq_iff_eq.2 hk) ((wrap_i64 (by omega)).trans (by omega)) (by omega) ((wrap_i64 (by omega)).trans (by omega)) (g4 h)
      · obtain ⟨q, hq⟩ : ∃ q, q = min (D i).length 50 := ⟨_, rfl⟩
        have hen : encI S D i = (D i).take q := by rw [encI, if_pos hk, hq]
        by_cases hq0 : q = 0
        · have hc : cat S D (i + 1) = cat S D i := by rw [cat, hen, hq0]; simp
          rw [hc] at g3 g4
          refine ⟨n2, e2, g1, g2, fun h e0 => ?_, fun h => ?_, by omega⟩
          · rcases g3 h 1 with ⟨h1, e3, k⟩ | ⟨h1, k⟩
            · exact .inl ⟨h1, e3, tz_nn S X C D hC hR i (by omega) m i 0 _ e0 e3 0 _ [] [] hp (by omega) hC3 (decide_eq_true (by omega)) (by omega) (beq_iff_eq.2 hk) (by split <;> omega) (by omega) ((wrap_i64 (by omega)).trans (by omega)) ((wrap_i64 (by omega)).trans (by omega)) (by simp; try omega) k⟩
            · exact .inr ⟨h1, tz_nf S X C D hC hR i (by omega) m i 0 _ e0 0 0 _ [] _ hp (by omega) hC3 (decide_eq_true (by omega)) (by omega) (beq_iff_eq.2 hk) (by split <;> omega) (by omega) ((wrap_i64 (by omega)).trans (by omega)) ((wrap_i64 (by omega)).trans (by omega)) (by simp; try omega) k⟩
          · exact tz_ff S X C D hC hR i (by omega) m i 0 _ 0 0 0 _ _ _ hp (by omega) hC3 (decide_eq_true (by omega)) (by omega) (beq_iff_eq.2 hk) (by split <;> omega) (by omega) ((wrap_i64 (by omega)).trans (by omega)) (by omega) ((wrap_i64 (by omega)).trans (by omega)) (g4 h)
        · have hne : (D i).take q ≠ [] := fun h => by
            have := congrArg List.length h
            rw [List.length_take, List.length_nil] at this
            omega
          have hc : cat S D (i + 1) = cat S D i ++ (D i).take q := by rw [cat, hen]
          have hne2 : cat S D (i + 1) ≠ [] := by rw [hc]; simp [hne]
          have k := g4 hne2
          have hn2 : cat S D n2 ≠ [] := fun h => by
            have h1 := cat_le S D (i := i + 1) (n := n2) g5
            rw [h] at h1
            exact hne2 (List.eq_nil_of_length_eq_zero (by simpa using h1))
          refine ⟨n2, e2, g1, g2, fun h e0 => .inr ⟨hn2, ?_⟩, fun h => ?_, by omega⟩
          · rw [hc, h, List.nil_append] at k
            exact tg_nf S X C D hC hR i (by omega) m i q _ e0 0 0 _ [] _ hp (by omega) hC3 (decide_eq_true (by omega)) (by omega) (beq_iff_eq.2 hk) (by split <;> omega) (by omega) (by simp; omega) (by omega) (by omega) (ones_win (D i) 0 q) (by rw [List.length_nil]; omega) (by simp) ((wrap_i64 (by omega)).trans (by omega)) (plains_win (D i) 0 q) (by simp only [win_map]; rw [← List.map_append]; exact plains_map _ (fun _ => rfl) _) (by simp; try omega) (by rw [win_map]; simp [win]) (by rw [win_map]; simp [win]) ((wrap_i64 (by omega)).trans (by omega)) (by simp; try omega) k
          · rw [hc] at k
            exact tg_ff S X C D hC hR i (by omega) m i q _ 0 0 0 _ _ _ hp (by omega) hC3 (decide_eq_true (by omega)) (by omega) (beq_iff_eq.2 hk) (by split <;> omega) (by omega) (by simp; omega) (by omega) (by omega) (ones_win (D i) 0 q) (by simp) ((wrap_i64 (by omega)).trans (by omega)) (by simp only [win_map]; rw [← List.map_append]; exact plains_map _ (fun _ => rfl) _) (by simp; try omega) (by rw [win_map]; simp [win]) ((wrap_i64 (by omega)).trans (by omega)) k
    · cases hfit : fits (gW S i).1 (gW S i).2.1 with
      | true =>
        have hok2 : ∀ j, j < i + 1 → okr S j := fun j hj => by
          by_cases e : j = i
          · subst e; exact .inr hfit
          · exact hok j (by omega)
        obtain ⟨n2, e2, g1, g2, g3, g4, g5⟩ := IH (i + 1) (by omega) hok2
        have hbn := bytes_ne (gW S i).1 (gW S i).2.1
        have hbl := bytes_len (gW S i).1 (gW S i).2.1
        have hen : encI S D i = bytes (gW S i).1 (gW S i).2.1 := by rw [encI, if_neg hk]
        have hc : cat S D (i + 1) = cat S D i ++ bytes (gW S i).1 (gW S i).2.1 := by rw [cat, hen]
        have hne2 : cat S D (i + 1) ≠ [] := fun h => by
          have := congrArg List.length h
          rw [hc, List.length_append, List.length_nil] at this
          omega
        have k := g4 hne2
        have hn2 : cat S D n2 ≠ [] := fun h => by
          have h1 := cat_le S D (i := i + 1) (n := n2) g5
          rw [h] at h1
          exact hne2 (List.eq_nil_of_length_eq_zero (by simpa using h1))
        refine ⟨n2, e2, g1, g2, fun h e0 => .inr ⟨hn2, ?_⟩, fun h => ?_, by omega⟩
        · rw [hc, h, List.nil_append] at k
          exact nf_nf S X C D hC hR i (by omega) m i 0 _ e0 0 0 _ [] _ (decide_eq_true (by omega)) (by omega) (by omega) (beq_eq_false_iff_ne.2 hk) hfit (by simp) (by omega) hbn (by rw [List.length_nil]; omega) (by simp) ((wrap_i64 (by omega)).trans (by omega)) (by simp; try omega) (by simp) ((wrap_i64 (by omega)).trans (by omega)) (by simp; try omega) k
        · rw [hc] at k
          exact nf_ff S X C D hC hR i (by omega) m i 0 _ 0 0 0 _ _ _ (decide_eq_true (by omega)) (by omega) (by omega) (beq_eq_false_iff_ne.2 hk) hfit (by simp) (by omega) hbn (by simp) ((wrap_i64 (by omega)).trans (by omega)) (by simp; try omega) (by simp) ((wrap_i64 (by omega)).trans (by omega)) k
      | false => exact ⟨i, 2, by omega, hok, fun h e0 => .inl ⟨h, e0, nn_nn S X C D hC hR i (by omega) m i 0 i e0 e0 0 2 [] [] (decide_eq_true (by omega)) (by omega) (by omega) (beq_eq_false_iff_ne.2 hk) hfit ((wrap_i64 (by omega)).trans (by omega)) (by simp; try omega) (ws_n S X C D hC hR m hm h20 hr i e0 2 (by decide) d (i + 1) (by omega))⟩, fun h => nn_ff S X C D hC hR i (by omega) m i 0 i 0 0 0 2 _ _ (decide_eq_true (by omega)) (by omega) (by omega) (beq_eq_false_iff_ne.2 hk) hfit ((wrap_i64 (by omega)).trans (by omega)) (by omega) (ws_f S X C D hC hR m hm h20 hr i 2 _ (by decide) d (i + 1) (by omega)), Nat.le_refl _⟩

end Go.Proofs.Yteljlgjofmbniaa.words
