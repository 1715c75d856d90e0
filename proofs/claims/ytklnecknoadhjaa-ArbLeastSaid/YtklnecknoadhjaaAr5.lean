/-
  Who is left behind each round: what the document says.
-/
import Derived.Test.YtklnecknoadhjaaAr4
set_option linter.unusedVariables false
set_option linter.unusedSimpArgs false
set_option maxRecDepth 100000
namespace Go.Proofs.Ytklnecknoadhjaa.arb
open Go Go.Vm

/-- A frame's rank, or that it has none. -/
abbrev rR (x : FT) : Int := if cF x = 0 then rF x else -1
theorem rF_b {x : FT} (h : cF x = 0) : 0 ≤ rF x ∧ rF x ≤ 4095 := by
  obtain ⟨h1, h2, _⟩ := (chk_zero _ _ _ _ _ _ _ _ _ _ _).1 h
  exact rkV_b ⟨h1, h2⟩
/-- The least of the first bits. -/
def lsB (S : List FT) (b : Int) : Nat → Int
  | 0 => 5000
  | j + 1 => if 0 ≤ rR (gF S j) ∧ rR (gF S j) / b < lsB S b j then rR (gF S j) / b else lsB S b j
/-- All places. -/
def rng (n : Nat) : List Int := (List.range n).map (fun (i : Nat) => (i : Int))
theorem rng_succ (n : Nat) : rng (n + 1) = rng n ++ [(n : Int)] := by simp [rng, List.range_succ]
def behP (S : List FT) (b lo : Int) (x : Int) : Bool := decide (0 ≤ rR (gF S x.toNat)) && (rR (gF S x.toNat) / b == lo)
def behL (S : List FT) (b lo : Int) (n : Nat) : List Int := (rng n).filter (behP S b lo)
theorem behL_succ (S : List FT) (b lo : Int) (n : Nat) : behL S b lo (n + 1) = behL S b lo n ++ (if behP S b lo n = true then [(n : Int)] else []) := by
  unfold behL
  rw [rng_succ, List.filter_append]
  congr 1
  rw [List.filter_cons, List.filter_nil]
theorem rng_len (n : Nat) : (rng n).length = n := by simp [rng]
theorem behL_len (S : List FT) (b lo : Int) (n : Nat) : (behL S b lo n).length ≤ n := by
  have := List.length_filter_le (behP S b lo) (rng n)
  rw [rng_len] at this
  exact this
theorem same_all (A B : List Int) (h : A = B) (hb : A.length ≤ 1000) : ∀ (d j : Nat), j + d = A.length → LOK cfg none (lb 27 0) ((.sl 1 (some (0, 0)) A.length) :: (.sl 1 (some (1, 0)) B.length) :: u_ :: u_ :: u_ :: (i6 ((j : Nat) : Int)) :: us 20) [.cells true ((A).map (V.int .i64)), .cells true ((B).map (V.int .i64))] (.exit 0) (us 26) [.cells true ((A).map (V.int .i64)), .cells true ((B).map (V.int .i64))] := by
  have hl : A.length = B.length := by rw [h]
  intro d
  induction d with
  | zero =>
    intro j hj
    exact sa_x A B j (decide_eq_false (by omega))
  | succ d IH =>
    intro j hj
    exact sa_s A B j (decide_eq_true (by omega)) (by omega) (by omega) (by omega) (by omega) (by rw [h]; exact bne_self_eq_false _) ((wrap_i64 (by omega)).trans (by omega)) (IH (j + 1) (by omega))
theorem same_ok (A B : List Int) (h : A = B) (hb : A.length ≤ 1000) : OK cfg (.fn 27 []) [.sl 1 (some (0, 0)) A.length, .sl 1 (some (1, 0)) B.length] [.cells true ((A).map (V.int .i64)), .cells true ((B).map (V.int .i64))] (.bool true) [.cells true ((A).map (V.int .i64)), .cells true ((B).map (V.int .i64))] :=
  saf' A B 0 (same_all A B h hb A.length 0 (by omega)) (by rw [h]; exact bne_self_eq_false _)
theorem by_all (S : List FT) (m : Nat) : ∀ (d i : Nat) (b : Int), i + d = 12 → 1 ≤ b ∧ b * 2 ^ d ≤ 4096 → LOK cfg none (lb 33 0) ((.sl 11 (some (0, 0)) m) :: u_ :: u_ :: u_ :: u_ :: (i6 b) :: (i6 ((i : Nat) : Int)) :: us 62) [fb S] (.exit 0) ((.sl 11 (some (0, 0)) m) :: u_ :: u_ :: u_ :: u_ :: (i6 (b * 2 ^ d)) :: us 63) [fb S] := by
  intro d
  induction d with
  | zero =>
    intro i b hi hb
    rw [Int.pow_zero, Int.mul_one]
    exact by_x S m i 0 0 b 0 0 [] [] (decide_eq_false (by omega))
  | succ d IH =>
    intro i b hi hb
    have hp : (0 : Int) < 2 ^ (d + 1) := Int.pow_pos (by decide)
    have e : b * 1 ≤ b * 2 ^ (d + 1) := Int.mul_le_mul_of_nonneg_left (by omega) (by omega)
    have e2 : b * 2 ^ (d + 1) = 2 * b * 2 ^ d := by rw [Int.pow_succ]; rw [Int.mul_comm 2 b, Int.mul_assoc, Int.mul_comm (2 ^ d) 2]
    rw [e2]
    exact by_s S m i 0 0 b 0 _ [] [] (decide_eq_true (by omega)) ((wrap_i64 (by omega)).trans (by omega)) (wrap_i64 (by omega)) (IH (i + 1) (2 * b) (by omega) ⟨by omega, by rw [← e2]; exact hb.2⟩)
theorem wrap_td {b x : Int} (hb : 1 ≤ b) (hx : 0 ≤ x ∧ x ≤ 4095) : IntKind.wrap .i64 (Int.tdiv x b) = x / b := by
  have h1 : 0 ≤ x / b := Int.ediv_nonneg hx.1 (by omega)
  have h2 : x / b ≤ x := Int.ediv_le_self _ hx.1
  rw [Int.tdiv_eq_ediv_of_nonneg hx.1]
  exact wrap_i64 (by omega)
theorem be_all (S : List FT) (m : Nat) (hm : m ≤ S.length) (h20 : m ≤ 1000) (b : Int) (hb : 1 ≤ b) : ∀ (d j : Nat), j + d = m → LOK cfg none (lb 33 1) ((.sl 11 (some (0, 0)) m) :: u_ :: u_ :: u_ :: u_ :: (i6 b) :: u_ :: (i6 (lsB S b j)) :: (i6 ((j : Nat) : Int)) :: us 60) [fb S] (.exit 2) ((.sl 11 (some (0, 0)) m) :: u_ :: u_ :: u_ :: u_ :: (i6 b) :: u_ :: (i6 (lsB S b m)) :: us 61) [fb S] := by
  intro d
  induction d with
  | zero =>
    intro j hj
    have : j = m := by omega
    subst this
    exact be_x S j 0 j 0 b _ 0 [] [] (decide_eq_false (by omega))
  | succ d IH =>
    intro j hj
    have ih := IH (j + 1) (by omega)
    by_cases hc : cF (gF S j) = 0
    · have hr := rF_b hc
      have er : rR (gF S j) = rF (gF S j) := if_pos hc
      have ew : IntKind.wrap .i64 (Int.tdiv (rF (gF S j)) b) = Int.tdiv (rF (gF S j)) b := by rw [wrap_td hb hr, Int.tdiv_eq_ediv_of_nonneg hr.1]
      have et : Int.tdiv (rF (gF S j)) b = rF (gF S j) / b := Int.tdiv_eq_ediv_of_nonneg hr.1
      by_cases hd : Int.tdiv (rF (gF S j)) b < lsB S b j
      · have e : lsB S b (j + 1) = Int.tdiv (rF (gF S j)) b := by
          rw [lsB, er, et, if_pos ⟨hr.1, by omega⟩]
        rw [e] at ih
        exact be_l S m 0 j 0 b _ _ [] [] (decide_eq_true (by omega)) (by omega) (by omega) hc (decide_eq_true hr.1) (by omega) (by rw [ew]; exact decide_eq_true hd) ((wrap_i64 (by omega)).trans (by omega)) ew ih
      · have e : lsB S b (j + 1) = lsB S b j := by
          rw [lsB, er, if_neg (by omega)]
        rw [e] at ih
        exact be_g S m 0 j 0 b _ _ [] [] (decide_eq_true (by omega)) (by omega) (by omega) hc (decide_eq_true hr.1) (by omega) (by rw [ew]; exact decide_eq_false hd) ((wrap_i64 (by omega)).trans (by omega)) ih
    · have er : rR (gF S j) = -1 := if_neg hc
      have e : lsB S b (j + 1) = lsB S b j := by
        rw [lsB, er, if_neg (by omega)]
      rw [e] at ih
      exact be_b S m 0 j 0 b _ _ [] [] (decide_eq_true (by omega)) (by omega) (by omega) hc ((wrap_i64 (by omega)).trans (by omega)) ih
theorem bo_all (S : List FT) (m : Nat) (hm : m ≤ S.length) (h20 : m ≤ 1000) (b lo : Int) (hb : 1 ≤ b) : ∀ (d j : Nat), j + d = m → LOK cfg none (lb 33 2) ((.sl 11 (some (0, 0)) m) :: u_ :: u_ :: u_ :: u_ :: (i6 b) :: u_ :: (i6 lo) :: u_ :: u_ :: (.sl 1 (some (1, 0)) (behL S b lo j).length) :: (i6 ((j : Nat) : Int)) :: us 57) [fb S, .cells true (((behL S b lo j)).map (V.int .i64))] (.exit 4) (u_ :: u_ :: u_ :: u_ :: u_ :: u_ :: u_ :: u_ :: u_ :: u_ :: (.sl 1 (some (2, 0)) (behL S b lo m).length) :: us 58) [fb S, d_, .cells true (((behL S b lo m)).map (V.int .i64))] := by
  intro d
  induction d with
  | zero =>
    intro j hj
    have : j = m := by omega
    subst this
    exact bo_x S j 0 j 0 b lo 0 _ [] (decide_eq_false (by omega))
  | succ d IH =>
    intro j hj
    have ih := IH (j + 1) (by omega)
    have hol := behL_len S b lo j
    rw [behL_succ] at ih
    have ej : ((j : Nat) : Int).toNat = j := rfl
    by_cases hc : cF (gF S j) = 0
    · have hr := rF_b hc
      have er : rR (gF S j) = rF (gF S j) := if_pos hc
      have ew : IntKind.wrap .i64 (Int.tdiv (rF (gF S j)) b) = rF (gF S j) / b := wrap_td hb hr
      cases hd : rF (gF S j) / b == lo with
      | true =>
        rw [if_pos (by unfold behP; rw [ej, er, hd, decide_eq_true hr.1]; rfl)] at ih
        exact bo_y S m 0 j 0 b lo 0 _ _ (decide_eq_true (by omega)) (by omega) (by omega) hc (decide_eq_true hr.1) (by omega) (by rw [ew]; exact hd) (by omega) (by simp) (by simp) ((wrap_i64 (by omega)).trans (by omega)) (by simp) ih
      | false =>
        rw [if_neg (by unfold behP; rw [ej, er, hd]; simp), List.append_nil] at ih
        exact bo_n S m 0 j 0 b lo 0 _ _ (decide_eq_true (by omega)) (by omega) (by omega) hc (decide_eq_true hr.1) (by omega) (by rw [ew]; exact hd) ((wrap_i64 (by omega)).trans (by omega)) ih
    · have er : rR (gF S j) = -1 := if_neg hc
      rw [if_neg (by unfold behP; rw [ej, er]; simp), List.append_nil] at ih
      exact bo_b S m 0 j 0 b lo 0 _ _ (decide_eq_true (by omega)) (by omega) (by omega) hc ((wrap_i64 (by omega)).trans (by omega)) ih

end Go.Proofs.Ytklnecknoadhjaa.arb
