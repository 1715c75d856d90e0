/-
  Who is left behind each round: the plain law, and the loops as wholes.
-/
import Derived.Test.YtklnecknoadhjaaAr7
set_option linter.unusedVariables false
set_option linter.unusedSimpArgs false
set_option maxRecDepth 100000
namespace Go.Proofs.Ytklnecknoadhjaa.arb
open Go Go.Vm

/-- May the frame of a place be? -/
def va (S : List FT) (x : Int) : Bool := decide (cF (gF S x.toNat) = 0)
/-- The places of frames that may be. -/
def N0 (S : List FT) (n : Nat) : List Int := (rng n).filter (va S)
theorem N0_succ (S : List FT) (n : Nat) : N0 S (n + 1) = N0 S n ++ (if va S n = true then [(n : Int)] else []) := by
  unfold N0
  rw [rng_succ, List.filter_append]
  congr 1
  rw [List.filter_cons, List.filter_nil]
/-- Who is left behind so many rounds. -/
def nth (S : List FT) (m : Nat) : Nat → List Int
  | 0 => N0 S m
  | k + 1 => stay S k (lowV S k (nth S m k)) (nth S m k)
theorem N0_len (S : List FT) (n : Nat) : (N0 S n).length ≤ n := by
  have := List.length_filter_le (va S) (rng n)
  rw [rng_len] at this
  exact this
theorem nth_sub (S : List FT) (m : Nat) : ∀ k, (∀ x ∈ nth S m k, x ∈ N0 S m) ∧ (nth S m k).length ≤ m
  | 0 => ⟨fun x h => h, N0_len S m⟩
  | k + 1 => by
    obtain ⟨h1, h2⟩ := nth_sub S m k
    refine ⟨fun x h => h1 x (List.mem_filter.1 h).1, ?_⟩
    have := List.length_filter_le (fun x => !dl S k (lowV S k (nth S m k)) x) (nth S m k)
    simp only [nth, stay]
    omega
theorem N0_Pl (S : List FT) (m : Nat) : Pl S m (N0 S m) := by
  intro x hx
  obtain ⟨h1, h2⟩ := List.mem_filter.1 hx
  obtain ⟨i, hi, rfl⟩ := List.mem_map.1 h1
  rw [List.mem_range] at hi
  exact ⟨by omega, by omega, by simpa [va] using h2⟩
theorem nth_Pl (S : List FT) (m k : Nat) : Pl S m (nth S m k) := fun x hx => N0_Pl S m x ((nth_sub S m k).1 x hx)
/-- The least of some places' first bits. -/
def isL (S : List FT) (N : List Int) (b L : Int) : Prop := (∀ x ∈ N, L ≤ rI S x / b) ∧ ∃ x ∈ N, rI S x / b = L
theorem isL_uniq {S : List FT} {N : List Int} {b L M : Int} (h : isL S N b L) (h' : isL S N b M) : L = M := by
  obtain ⟨h1, x, hx, e1⟩ := h
  obtain ⟨h2, y, hy, e2⟩ := h'
  have := h1 y hy
  have := h2 x hx
  omega
theorem lsB_is (S : List FT) (b : Int) (hb : 1 ≤ b) : ∀ n, (N0 S n = [] ∧ lsB S b n = 5000) ∨ isL S (N0 S n) b (lsB S b n)
  | 0 => .inl ⟨rfl, rfl⟩
  | n + 1 => by
    have ih := lsB_is S b hb n
    rw [N0_succ]
    have en : ((n : Nat) : Int).toNat = n := rfl
    by_cases hc : cF (gF S n) = 0
    · have hr := rF_b hc
      have er : rR (gF S n) = rF (gF S n) := if_pos hc
      have h2 : rF (gF S n) / b ≤ rF (gF S n) := Int.ediv_le_self _ hr.1
      have hv : va S n = true := by simp only [va, en, decide_eq_true_eq]; exact hc
      have eI : rI S ((n : Nat) : Int) = rF (gF S n) := rfl
      rw [if_pos hv]
      refine .inr ?_
      have el : lsB S b (n + 1) = if rF (gF S n) / b < lsB S b n then rF (gF S n) / b else lsB S b n := by
        rw [lsB, er]
        by_cases h : rF (gF S n) / b < lsB S b n
        · rw [if_pos ⟨hr.1, h⟩, if_pos h]
        · rw [if_neg (fun k => h k.2), if_neg h]
      rw [el]
      rcases ih with ⟨e1, e2⟩ | ⟨h3, x, hx, e3⟩
      · rw [e1, e2, if_pos (by omega)]
        exact ⟨fun x hx => by rw [List.nil_append, List.mem_singleton] at hx; subst hx; exact Int.le_refl _, (n : Int), by simp, rfl⟩
      · by_cases h : rF (gF S n) / b < lsB S b n
        · rw [if_pos h]
          refine ⟨fun y hy => ?_, (n : Int), by simp, rfl⟩
          rcases List.mem_append.1 hy with hy | hy
          · have := h3 y hy; omega
          · rw [List.mem_singleton] at hy; subst hy; exact Int.le_refl _
        · rw [if_neg h]
          refine ⟨fun y hy => ?_, x, List.mem_append_left _ hx, e3⟩
          rcases List.mem_append.1 hy with hy | hy
          · exact h3 y hy
          · rw [List.mem_singleton] at hy; subst hy; rw [eI]; omega
    · have er : rR (gF S n) = -1 := if_neg hc
      have hv : ¬ va S n = true := by simp only [va, en, decide_eq_true_eq]; exact hc
      rw [if_neg hv, List.append_nil, lsB, er, if_neg (by omega)]
      exact ih
theorem beh_N0 (S : List FT) (m : Nat) (b lo : Int) : behL S b lo m = (N0 S m).filter (fun x => rI S x / b == lo) := by
  unfold behL N0
  rw [List.filter_filter]
  refine List.filter_congr fun x _ => ?_
  unfold behP va
  by_cases hc : cF (gF S x.toNat) = 0
  · have er : rR (gF S x.toNat) = rF (gF S x.toNat) := if_pos hc
    have hr := rF_b hc
    rw [er, decide_eq_true hr.1, decide_eq_true hc, Bool.true_and, Bool.and_true]
  · have er : rR (gF S x.toNat) = -1 := if_neg hc
    rw [er, decide_eq_false hc, Bool.and_false, decide_eq_false (by omega), Bool.false_and]
theorem low_fold (S : List FT) (k : Nat) : ∀ (N : List Int) (a : Int), (N.foldl (fun lo x => mn lo (bitV (rI S x) k)) a ≤ a) ∧ (∀ x ∈ N, N.foldl (fun lo x => mn lo (bitV (rI S x) k)) a ≤ bitV (rI S x) k) ∧ (N.foldl (fun lo x => mn lo (bitV (rI S x) k)) a = a ∨ ∃ x ∈ N, N.foldl (fun lo x => mn lo (bitV (rI S x) k)) a = bitV (rI S x) k)
  | [], a => ⟨Int.le_refl _, fun x hx => (nomatch hx), .inl rfl⟩
  | y :: N, a => by
    obtain ⟨h1, h2, h3⟩ := low_fold S k N (mn a (bitV (rI S y) k))
    rw [List.foldl_cons]
    have hm : mn a (bitV (rI S y) k) ≤ a ∧ mn a (bitV (rI S y) k) ≤ bitV (rI S y) k ∧ (mn a (bitV (rI S y) k) = a ∨ mn a (bitV (rI S y) k) = bitV (rI S y) k) := by unfold mn; split <;> omega
    refine ⟨by omega, fun x hx => ?_, ?_⟩
    · rcases List.mem_cons.1 hx with rfl | hx
      · omega
      · exact h2 x hx
    · rcases h3 with h3 | ⟨x, hx, h3⟩
      · rcases hm.2.2 with e | e
        · exact .inl (h3.trans e)
        · exact .inr ⟨y, List.mem_cons_self, h3.trans e⟩
      · exact .inr ⟨x, List.mem_cons_of_mem _ hx, h3⟩
theorem low_is (S : List FT) (k : Nat) (N : List Int) (h : N ≠ []) : (∀ x ∈ N, lowV S k N ≤ bitV (rI S x) k) ∧ ∃ x ∈ N, lowV S k N = bitV (rI S x) k := by
  obtain ⟨h1, h2, h3⟩ := low_fold S k N 1
  refine ⟨h2, ?_⟩
  rcases h3 with h3 | h3
  · obtain ⟨x, hx⟩ := List.exists_mem_of_ne_nil N h
    refine ⟨x, hx, ?_⟩
    have := h2 x hx
    have := bitV_01 (rI S x) k
    unfold lowV
    omega
  · exact h3
theorem nth_is (S : List FT) (m : Nat) (h0 : N0 S m ≠ []) : ∀ k, k ≤ 12 → ∃ L, isL S (N0 S m) (2 ^ (12 - k)) L ∧ nth S m k = (N0 S m).filter (fun x => rI S x / 2 ^ (12 - k) == L)
  | 0, _ => by
    have hz : ∀ x ∈ N0 S m, rI S x / 2 ^ (12 - 0) = 0 := fun x hx => by
      have hr := rF_b (N0_Pl S m x hx).2.2
      have e : (2 : Int) ^ (12 - 0) = 4096 := by decide
      rw [e]
      show rF (gF S x.toNat) / 4096 = 0
      omega
    refine ⟨0, ⟨fun x hx => by rw [hz x hx]; exact Int.le_refl _, ?_⟩, ?_⟩
    · obtain ⟨x, hx⟩ := List.exists_mem_of_ne_nil _ h0
      exact ⟨x, hx, hz x hx⟩
    · symm
      rw [nth, List.filter_eq_self]
      intro x hx
      rw [hz x hx]
      rfl
  | k + 1, hk => by
    obtain ⟨L, ⟨l1, y, hy, l2⟩, hn⟩ := nth_is S m h0 k (by omega)
    have eb : (2 : Int) ^ (12 - k) = 2 ^ (12 - (k + 1)) * 2 := by rw [show 12 - k = 12 - (k + 1) + 1 by omega, Int.pow_succ]
    have hp : (0 : Int) < 2 ^ (12 - (k + 1)) := Int.pow_pos (by decide)
    have eq : ∀ x, rI S x / 2 ^ (12 - k) = rI S x / 2 ^ (12 - (k + 1)) / 2 := fun x => by rw [eb, Int.ediv_ediv_of_nonneg (by omega)]
    have ebit : ∀ x, bitV (rI S x) k = rI S x / 2 ^ (12 - (k + 1)) % 2 := fun x => by unfold bitV; rw [show 11 - k = 12 - (k + 1) by omega]
    have hmem : ∀ x, x ∈ nth S m k ↔ x ∈ N0 S m ∧ rI S x / 2 ^ (12 - k) = L := fun x => by rw [hn, List.mem_filter]; simp
    have hne : nth S m k ≠ [] := by
      intro e
      have := (hmem y).2 ⟨hy, l2⟩
      rw [e] at this
      cases this
    obtain ⟨w1, z, hz, w2⟩ := low_is S k _ hne
    generalize hlow : lowV S k (nth S m k) = low at *
    have w0 : 0 ≤ low ∧ low ≤ 1 := by rw [w2]; exact bitV_01 _ _
    refine ⟨2 * L + low, ⟨fun x hx => ?_, z, ((hmem z).1 hz).1, ?_⟩, ?_⟩
    · have g := l1 x hx
      rw [eq] at g
      by_cases e : rI S x / 2 ^ (12 - k) = L
      · have := w1 x ((hmem x).2 ⟨hx, e⟩)
        rw [ebit] at this
        rw [eq] at e
        omega
      · rw [eq] at e
        omega
    · have g := ((hmem z).1 hz).2
      rw [eq] at g
      rw [ebit] at w2
      omega
    · rw [nth, hlow]
      unfold stay
      rw [hn, List.filter_filter]
      refine List.filter_congr fun x hx => ?_
      have g := l1 x hx
      rw [eq] at g
      unfold dl
      rw [ebit, eq]
      by_cases e : rI S x / 2 ^ (12 - (k + 1)) / 2 = L
      · have g2 := w1 x ((hmem x).2 ⟨hx, by rw [eq]; exact e⟩)
        rw [ebit] at g2
        by_cases e2 : rI S x / 2 ^ (12 - (k + 1)) % 2 > low
        · rw [decide_eq_true e2, beq_eq_false_iff_ne.2 (show rI S x / 2 ^ (12 - (k + 1)) ≠ 2 * L + low by omega)]
          rfl
        · rw [decide_eq_false e2, beq_iff_eq.2 e, beq_iff_eq.2 (show rI S x / 2 ^ (12 - (k + 1)) = 2 * L + low by omega)]
          rfl
      · rw [beq_eq_false_iff_ne.2 e, beq_eq_false_iff_ne.2 (show rI S x / 2 ^ (12 - (k + 1)) ≠ 2 * L + low by omega), Bool.and_false]
theorem nth_ne (S : List FT) (m : Nat) (h0 : N0 S m ≠ []) (k : Nat) (hk : k ≤ 12) : nth S m k ≠ [] := by
  obtain ⟨L, ⟨_, y, hy, l2⟩, hn⟩ := nth_is S m h0 k hk
  intro e
  have : y ∈ nth S m k := by rw [hn, List.mem_filter]; exact ⟨hy, beq_iff_eq.2 l2⟩
  rw [e] at this
  cases this
/-- Who is left behind a round is who is left as the document has it. -/
theorem nth_beh (S : List FT) (m : Nat) (h0 : N0 S m ≠ []) (k : Nat) (hk : k < 12) : nth S m (k + 1) = behV S m k := by
  obtain ⟨L, hL, hn⟩ := nth_is S m h0 (k + 1) (by omega)
  rw [show 12 - (k + 1) = 11 - k by omega] at hL hn
  rw [behV, beh_N0, Int.one_mul]
  rcases lsB_is S (2 ^ (11 - k)) (by have := pow_b k; omega) m with ⟨e, _⟩ | h
  · exact absurd e h0
  · rw [← isL_uniq hL h]
    exact hn
theorem beh_none (S : List FT) (m : Nat) (h0 : N0 S m = []) (k : Nat) : behV S m k = [] := by
  rw [behV, beh_N0, h0]
  rfl

theorem col_all (S : List FT) (m : Nat) (stp : Int) (hm : m ≤ S.length) (h20 : m ≤ 20) : ∀ (d j : Nat), j + d = m → (LOK cfg none (lb 39 0) ((.yld 6) :: (.ptr (some (1, 0))) :: u_ :: (.sl 1 (some (7, 0)) (N0 S j).length) :: u_ :: u_ :: u_ :: u_ :: u_ :: u_ :: (.sl 11 (some (0, 0)) m) :: (i6 ((m : Nat) : Int)) :: (i6 ((j : Nat) : Int)) :: us 40) [fb S, c1 [(.sl 11 (some (0, 0)) m)], c1 [(.sl 11 (some (0, 0)) m)], c1 [(.int .u8 stp)], c1 [(i6 0)], c1 [(.bool false)], lrR, .cells true (((N0 S j)).map (V.int .i64))] (.exit 0) ((.yld 6) :: (.ptr (some (1, 0))) :: u_ :: (.sl 1 (some (8, 0)) (N0 S m).length) :: us 49) [fb S, c1 [(.sl 11 (some (0, 0)) m)], c1 [(.sl 11 (some (0, 0)) m)], c1 [(.int .u8 stp)], c1 [(i6 0)], c1 [(.bool false)], lrR, d_, .cells true (((N0 S m)).map (V.int .i64))]) ∧ (N0 S j = [] → (N0 S m = [] ∧ LOK cfg none (lb 39 0) ((.yld 6) :: (.ptr (some (1, 0))) :: u_ :: (.sl 0 none 0) :: u_ :: u_ :: u_ :: u_ :: u_ :: u_ :: (.sl 11 (some (0, 0)) m) :: (i6 ((m : Nat) : Int)) :: (i6 ((j : Nat) : Int)) :: us 40) [fb S, c1 [(.sl 11 (some (0, 0)) m)], c1 [(.sl 11 (some (0, 0)) m)], c1 [(.int .u8 stp)], c1 [(i6 0)], c1 [(.bool false)], lrR] (.exit 0) ((.yld 6) :: (.ptr (some (1, 0))) :: u_ :: (.sl 0 none 0) :: us 49) [fb S, c1 [(.sl 11 (some (0, 0)) m)], c1 [(.sl 11 (some (0, 0)) m)], c1 [(.int .u8 stp)], c1 [(i6 0)], c1 [(.bool false)], lrR]) ∨ (N0 S m ≠ [] ∧ LOK cfg none (lb 39 0) ((.yld 6) :: (.ptr (some (1, 0))) :: u_ :: (.sl 0 none 0) :: u_ :: u_ :: u_ :: u_ :: u_ :: u_ :: (.sl 11 (some (0, 0)) m) :: (i6 ((m : Nat) : Int)) :: (i6 ((j : Nat) : Int)) :: us 40) [fb S, c1 [(.sl 11 (some (0, 0)) m)], c1 [(.sl 11 (some (0, 0)) m)], c1 [(.int .u8 stp)], c1 [(i6 0)], c1 [(.bool false)], lrR] (.exit 0) ((.yld 6) :: (.ptr (some (1, 0))) :: u_ :: (.sl 1 (some (7, 0)) (N0 S m).length) :: us 49) [fb S, c1 [(.sl 11 (some (0, 0)) m)], c1 [(.sl 11 (some (0, 0)) m)], c1 [(.int .u8 stp)], c1 [(i6 0)], c1 [(.bool false)], lrR, .cells true (((N0 S m)).map (V.int .i64))])) := by
  intro d
  induction d with
  | zero =>
    intro j hj
    have : j = m := by omega
    subst this
    exact ⟨co_xf S j j stp _ [] (decide_eq_false (by omega)), fun h => .inl ⟨h, co_xn S j j stp [] [] (decide_eq_false (by omega))⟩⟩
  | succ d IH =>
    intro j hj
    obtain ⟨k1, k2⟩ := IH (j + 1) (by omega)
    have hl := N0_len S j
    have ej : ((j : Nat) : Int).toNat = j := rfl
    rw [N0_succ] at k1 k2
    by_cases hc : cF (gF S j) = 0
    · have hv : va S j = true := by simp only [va, ej, decide_eq_true_eq]; exact hc
      rw [if_pos hv] at k1 k2
      refine ⟨co_gf S m j stp _ _ (decide_eq_true (by omega)) (by omega) (by omega) (beq_iff_eq.2 hc) (by omega) (by simp) (by simp) ((wrap_i64 (by omega)).trans (by omega)) (by simp) k1, fun h => .inr ⟨?_, ?_⟩⟩
      · intro e
        have : ((j : Nat) : Int) ∈ N0 S m := by
          refine List.mem_filter.2 ⟨List.mem_map.2 ⟨j, List.mem_range.2 (by omega), rfl⟩, hv⟩
        rw [e] at this
        cases this
      · rw [h, List.nil_append] at k1
        exact co_gn S m j stp [] _ (decide_eq_true (by omega)) (by omega) (by omega) (beq_iff_eq.2 hc) (by simp) ((wrap_i64 (by omega)).trans (by omega)) (by simp) k1
    · have hv : ¬ va S j = true := by simp only [va, ej, decide_eq_true_eq]; exact hc
      rw [if_neg hv, List.append_nil] at k1 k2
      refine ⟨co_bf S m j stp _ _ (decide_eq_true (by omega)) (by omega) (by omega) (beq_eq_false_iff_ne.2 hc) ((wrap_i64 (by omega)).trans (by omega)) k1, fun h => ?_⟩
      rcases k2 h with ⟨e, k⟩ | ⟨e, k⟩
      · exact .inl ⟨e, co_bnn S m j stp [] [] (decide_eq_true (by omega)) (by omega) (by omega) (beq_eq_false_iff_ne.2 hc) ((wrap_i64 (by omega)).trans (by omega)) k⟩
      · exact .inr ⟨e, co_bnf S m j stp [] _ (decide_eq_true (by omega)) (by omega) (by omega) (beq_eq_false_iff_ne.2 hc) ((wrap_i64 (by omega)).trans (by omega)) k⟩
theorem lr_all (S : List FT) (m k : Nat) (stp : Int) (N : List Int) (hm : m ≤ S.length) (hk : k < 12) (hb : N.length ≤ 1000) (hP : Pl S m N) : ∀ (d j : Nat) (lo : Int), j + d = N.length → LOK cfg none (lb 39 2) ((.yld 6) :: (.ptr (some (1, 0))) :: u_ :: (.sl 1 (some (7, 0)) N.length) :: u_ :: u_ :: (.ptr (some (8, 0))) :: (.ptr (some (9, 0))) :: u_ :: u_ :: u_ :: u_ :: u_ :: u_ :: u_ :: u_ :: u_ :: u_ :: u_ :: u_ :: u_ :: u_ :: u_ :: u_ :: u_ :: (i6 ((k : Nat) : Int)) :: u_ :: u_ :: (.sl 1 (some (7, 0)) N.length) :: (i6 ((N.length : Nat) : Int)) :: (i6 ((j : Nat) : Int)) :: us 22) [fb S, c1 [(.sl 11 (some (0, 0)) m)], c1 [(.sl 11 (some (0, 0)) m)], c1 [(.int .u8 stp)], c1 [(i6 ((k : Nat) : Int))], c1 [(.bool false)], lrR, .cells true ((N).map (V.int .i64)), c1 [(i6 ((k : Nat) : Int))], c1 [(i6 lo)]] (.exit 4) ((.yld 6) :: (.ptr (some (1, 0))) :: u_ :: (.sl 1 (some (7, 0)) N.length) :: u_ :: u_ :: (.ptr (some (8, 0))) :: (.ptr (some (9, 0))) :: u_ :: u_ :: u_ :: u_ :: u_ :: u_ :: u_ :: u_ :: u_ :: u_ :: u_ :: u_ :: u_ :: u_ :: u_ :: u_ :: u_ :: (i6 ((k : Nat) : Int)) :: us 27) [fb S, c1 [(.sl 11 (some (0, 0)) m)], c1 [(.sl 11 (some (0, 0)) m)], c1 [(.int .u8 stp)], c1 [(i6 ((k : Nat) : Int))], c1 [(.bool false)], lrR, .cells true ((N).map (V.int .i64)), c1 [(i6 ((k : Nat) : Int))], c1 [(i6 ((N.drop j).foldl (fun lo x => mn lo (bitV (rI S x) k)) lo))]] := by
  intro d
  induction d with
  | zero =>
    intro j lo hj
    rw [List.drop_eq_nil_of_le (by omega)]
    exact lr_x S m k j 0 stp lo 0 N [] (decide_eq_false (by omega))
  | succ d IH =>
    intro j lo hj
    have hj' : j < N.length := by omega
    obtain ⟨vB1, vB2, vC⟩ := hP _ (getD_mem0 hj')
    have vB := And.intro vB1 vB2
    have vL : ((N.getD (0 + (j * 1)) 0)).toNat < S.length := by omega
    have e : N.drop j = N.getD (0 + (j * 1)) 0 :: N.drop (j + 1) := by
      rw [getD_0, List.drop_eq_getElem_cons hj']
      simp [List.getD_eq_getElem?_getD, List.getElem?_eq_getElem hj']
    rw [e, List.foldl_cons]
    exact lr_s S m k j 0 stp lo _ N [] (decide_eq_true (by omega)) (by omega) (by omega) vB vL vC (by omega) rfl ((wrap_i64 (by omega)).trans (by omega)) (IH (j + 1) _ (by omega))
theorem rd_all (S : List FT) (m : Nat) (stp : Int) (h0 : 0 ≤ stp ∧ stp < 256) (hm : m ≤ S.length) (h20 : m ≤ 20) (hn : N0 S m ≠ []) : ∀ (d k : Nat), k + d = 12 → (k : Int) ≤ stp → (12 ≤ stp → LOK cfg none (lb 39 1) ((.yld 6) :: (.ptr (some (1, 0))) :: u_ :: (.sl 1 (some (7, 0)) (nth S m k).length) :: u_ :: u_ :: u_ :: u_ :: u_ :: u_ :: u_ :: u_ :: u_ :: u_ :: u_ :: u_ :: u_ :: u_ :: u_ :: u_ :: u_ :: u_ :: u_ :: u_ :: u_ :: (i6 ((k : Nat) : Int)) :: us 27) [fb S, c1 [(.sl 11 (some (0, 0)) m)], c1 [(.sl 11 (some (0, 0)) m)], c1 [(.int .u8 stp)], c1 [(i6 ((k : Nat) : Int))], c1 [(.bool false)], lrR, .cells true (((nth S m k)).map (V.int .i64))] (.exit 2) (us 53) [fb S, d_, d_, c1 [(.int .u8 stp)], c1 [(i6 ((12 : Nat) : Int))], c1 [(.bool false)], .loop (recOf Try.prog 7 0 (u_ :: u_ :: u_ :: (.ptr (some (3, 0))) :: (.ptr (some (5, 0))) :: (.ptr (some (4, 0))) :: us 41) .ready none), d_]) ∧ (stp < 12 → LOK cfg none (lb 39 1) ((.yld 6) :: (.ptr (some (1, 0))) :: u_ :: (.sl 1 (some (7, 0)) (nth S m k).length) :: u_ :: u_ :: u_ :: u_ :: u_ :: u_ :: u_ :: u_ :: u_ :: u_ :: u_ :: u_ :: u_ :: u_ :: u_ :: u_ :: u_ :: u_ :: u_ :: u_ :: u_ :: (i6 ((k : Nat) : Int)) :: us 27) [fb S, c1 [(.sl 11 (some (0, 0)) m)], c1 [(.sl 11 (some (0, 0)) m)], c1 [(.int .u8 stp)], c1 [(i6 ((k : Nat) : Int))], c1 [(.bool false)], lrR, .cells true (((nth S m k)).map (V.int .i64))] .ret (us 53) [fb S, d_, d_, c1 [(.int .u8 stp)], c1 [(i6 (((stp.toNat) : Nat) : Int))], c1 [(.bool false)], .loop (recOf Try.prog 7 0 (u_ :: u_ :: u_ :: (.ptr (some (3, 0))) :: (.ptr (some (5, 0))) :: (.ptr (some (4, 0))) :: us 41) .done (some (.exit 0))), d_]) := by
  have ew : IntKind.wrap .i64 stp = stp := wrap_i64 (by omega)
  intro d
  induction d with
  | zero =>
    intro k hk hp
    have : k = 12 := by omega
    subst this
    exact ⟨fun _ => rd_e S m 12 0 0 stp 0 0 _ [] (decide_eq_false (by omega)), fun h => by omega⟩
  | succ d IH =>
    intro k hk hp
    have hk' : k < 12 := by omega
    obtain ⟨_, hl⟩ := nth_sub S m k
    have hb : (nth S m k).length ≤ 1000 := by omega
    have hP := nth_Pl S m k
    obtain ⟨_, hz⟩ := nth_sub S m (k + 1)
    have hZ : (stay S k (lowV S k (nth S m k)) (nth S m k)).length ≤ 1000 := by rw [nth] at hz; omega
    have hQ : stay S k (lowV S k (nth S m k)) (nth S m k) = behV S m k := nth_beh S m hn k hk'
    have hlo := lr_all S m k stp (nth S m k) hm hk' hb hP (nth S m k).length 0 1 (by omega)
    refine ⟨fun h => ?_, fun h => ?_⟩
    · obtain ⟨k1, _⟩ := IH (k + 1) (by omega) (by omega)
      exact rd_x S m k 12 0 stp 0 0 _ [] hlo (decide_eq_true (by omega)) (by omega) (by omega) (by omega) hP hZ (by rw [ew]; exact beq_eq_false_iff_ne.2 (by omega)) (bne_self_eq_false _) ((wrap_i64 (by omega)).trans (by omega)) (by omega) hQ (k1 h)
    · by_cases e : (k : Int) = stp
      · have e2 : stp.toNat = k := by omega
        rw [e2]
        exact rd_b S m k 0 0 stp 0 0 _ [] hlo (decide_eq_true (by omega)) (by omega) (by omega) (by omega) hP hZ (by rw [ew]; exact beq_iff_eq.2 (by omega))
      · obtain ⟨_, k2⟩ := IH (k + 1) (by omega) (by omega)
        exact rd_r S m k _ 0 stp 0 0 _ [] hlo (decide_eq_true (by omega)) (by omega) (by omega) (by omega) hP hZ (by rw [ew]; exact beq_eq_false_iff_ne.2 (by omega)) (bne_self_eq_false _) ((wrap_i64 (by omega)).trans (by omega)) (by omega) hQ (k2 h)
theorem rn_all (S : List FT) (m : Nat) (stp : Int) (h0 : 0 ≤ stp ∧ stp < 256) (hm : m ≤ S.length) (h20 : m ≤ 20) (hn : N0 S m = []) : ∀ (d k e0 : Nat), k + d = 12 → (k : Int) ≤ stp → (12 ≤ stp → LOK cfg none (lb 39 1) ((.yld 6) :: (.ptr (some (1, 0))) :: u_ :: (.sl e0 none 0) :: u_ :: u_ :: u_ :: u_ :: u_ :: u_ :: u_ :: u_ :: u_ :: u_ :: u_ :: u_ :: u_ :: u_ :: u_ :: u_ :: u_ :: u_ :: u_ :: u_ :: u_ :: (i6 ((k : Nat) : Int)) :: us 27) [fb S, c1 [(.sl 11 (some (0, 0)) m)], c1 [(.sl 11 (some (0, 0)) m)], c1 [(.int .u8 stp)], c1 [(i6 ((k : Nat) : Int))], c1 [(.bool false)], lrR] (.exit 2) (us 53) [fb S, d_, d_, c1 [(.int .u8 stp)], c1 [(i6 ((12 : Nat) : Int))], c1 [(.bool false)], .loop (recOf Try.prog 7 0 (u_ :: u_ :: u_ :: (.ptr (some (3, 0))) :: (.ptr (some (5, 0))) :: (.ptr (some (4, 0))) :: us 41) .ready none)]) ∧ (stp < 12 → LOK cfg none (lb 39 1) ((.yld 6) :: (.ptr (some (1, 0))) :: u_ :: (.sl e0 none 0) :: u_ :: u_ :: u_ :: u_ :: u_ :: u_ :: u_ :: u_ :: u_ :: u_ :: u_ :: u_ :: u_ :: u_ :: u_ :: u_ :: u_ :: u_ :: u_ :: u_ :: u_ :: (i6 ((k : Nat) : Int)) :: us 27) [fb S, c1 [(.sl 11 (some (0, 0)) m)], c1 [(.sl 11 (some (0, 0)) m)], c1 [(.int .u8 stp)], c1 [(i6 ((k : Nat) : Int))], c1 [(.bool false)], lrR] .ret (us 53) [fb S, d_, d_, c1 [(.int .u8 stp)], c1 [(i6 (((stp.toNat) : Nat) : Int))], c1 [(.bool false)], .loop (recOf Try.prog 7 0 (u_ :: u_ :: u_ :: (.ptr (some (3, 0))) :: (.ptr (some (5, 0))) :: (.ptr (some (4, 0))) :: us 41) .done (some (.exit 0)))]) := by
  have ew : IntKind.wrap .i64 stp = stp := wrap_i64 (by omega)
  intro d
  induction d with
  | zero =>
    intro k e0 hk hp
    have : k = 12 := by omega
    subst this
    exact ⟨fun _ => rn_e S m 12 0 e0 stp 0 0 [] [] (decide_eq_false (by omega)), fun h => by omega⟩
  | succ d IH =>
    intro k e0 hk hp
    have hk' : k < 12 := by omega
    have hQ := beh_none S m hn k
    refine ⟨fun h => ?_, fun h => ?_⟩
    · obtain ⟨k1, _⟩ := IH (k + 1) 1 (by omega) (by omega)
      exact rn_x S m k 12 e0 stp 0 0 [] [] (decide_eq_true (by omega)) (by rw [ew]; exact beq_eq_false_iff_ne.2 (by omega)) (bne_self_eq_false _) ((wrap_i64 (by omega)).trans (by omega)) (by omega) (by omega) (by omega) (by rw [hQ]; rfl) (k1 h)
    · by_cases e : (k : Int) = stp
      · have e2 : stp.toNat = k := by omega
        rw [e2]
        exact rn_b S m k 0 e0 stp 0 0 [] [] (decide_eq_true (by omega)) (by rw [ew]; exact beq_iff_eq.2 (by omega))
      · obtain ⟨_, k2⟩ := IH (k + 1) 1 (by omega) (by omega)
        exact rn_r S m k _ e0 stp 0 0 [] [] (decide_eq_true (by omega)) (by rw [ew]; exact beq_eq_false_iff_ne.2 (by omega)) (bne_self_eq_false _) ((wrap_i64 (by omega)).trans (by omega)) (by omega) (by omega) (by omega) (by rw [hQ]; rfl) (k2 h)

end Go.Proofs.Ytklnecknoadhjaa.arb
