/-
  What becomes of a queue while it is ranged over plays no part: the law.
-/
import Derived.Test.YtklnecknoadhjaaFf8
set_option linter.unusedVariables false
set_option linter.unusedSimpArgs false
set_option maxRecDepth 100000
namespace Go.Proofs.Ytklnecknoadhjaa.fifo
open Go Go.Vm Go.Ring

theorem puts_ok {q : Nat} : ∀ (l : List Int) {s : Q}, s.Ok q → s.n + l.length ≤ q → (puts q s l).Ok q ∧ (puts q s l).n = s.n + l.length ∧ (puts q s l).list = s.list ++ l
  | [], s, h, hl => ⟨h, by simp [puts], by simp [puts]⟩
  | x :: l, s, h, hl => by
    simp only [List.length_cons] at hl
    have hn : (s.put q x).n = s.n + 1 := put_n (by omega) x
    obtain ⟨h1, h2, h3⟩ := puts_ok l (put_ok h x) (by omega)
    have e : puts q s (x :: l) = puts q (s.put q x) l := rfl
    rw [e]
    refine ⟨h1, by rw [h2, hn, List.length_cons]; omega, ?_⟩
    rw [h3, put_list h (by omega)]
    simp
theorem none_ok (q : Nat) : (⟨[], 0, 0, 0⟩ : Q).Ok q := ⟨by simp, .inl ⟨rfl, rfl⟩, by simp, by simp⟩
theorem law_kr (rows : List (List V)) (hr : ∀ r ∈ rows, Typed (leaves Try.prog 2 3) r) (stp : Int) (wx : (Lit.int .u8 stp).wf = true) : ∃ H', OK cfg (.fn 3 []) [.sl 1 (some (0, 0)) rows.length, .int .u8 stp] [.cells false rows.flatten] (.bool true) H' := by
  have e : leaves Try.prog 2 3 = [.int .i64] := by kernel_rfl
  rw [e] at hr
  obtain ⟨S, h1, h2, _⟩ := rows_int hr
  rw [h1, h2]
  have hx := wf_u8 wx
  have ew : IntKind.wrap .i64 stp = stp := wrap_i64 (by omega)
  by_cases h0 : S.length = 0
  · have : S = [] := List.eq_nil_of_length_eq_zero h0
    subst this
    exact ⟨_, kl_e stp (by rw [ew, if_neg (by omega)]; rfl)⟩
  obtain ⟨m, hmin⟩ : ∃ m, m = min S.length 30 := ⟨_, rfl⟩
  have hl : (S.take m).length = m := by simp; omega
  have ed : S.take m = S.getD 0 0 :: (S.take m).drop 1 := by
    have := List.drop_eq_getElem_cons (show 0 < (S.take m).length by omega)
    rw [List.drop_zero] at this
    rw [this]
    simp [List.getD_eq_getElem?_getD, List.getElem?_eq_getElem (show 0 < S.length by omega)]
  have hN := none_ok m
  have ok1 : (Q.put ⟨[], 0, 0, 0⟩ m (S.getD 0 0)).Ok m := put_ok hN _
  have E : Q.put ⟨[], 0, 0, 0⟩ m (S.getD 0 0) = ⟨[S.getD 0 0], 0, 1, 0⟩ := by
    rw [put_not (show (⟨[], 0, 0, 0⟩ : Q).n ≠ m by simp; omega)]
    have hm1 : min 1 m = 1 := by omega
    simp [Q.grow, cp, hm1]
  have hd : ((S.take m).drop 1).length = m - 1 := by simp; omega
  obtain ⟨z1, z2, z3⟩ := puts_ok (q := m) ((S.take m).drop 1) ok1 (by rw [E, hd]; simp; omega)
  have hll : (Q.put ⟨[], 0, 0, 0⟩ m (S.getD 0 0)).list = [S.getD 0 0] := by
    rw [put_list hN (by simp; omega)]
    rfl
  rw [hll] at z3
  have zl : (puts m (Q.put ⟨[], 0, 0, 0⟩ m (S.getD 0 0)) ((S.take m).drop 1)).list = S.take m := by
    rw [z3]
    conv => rhs; rw [ed]
    rfl
  obtain ⟨c2, k⟩ := pu_all S m m (by omega) (by omega) (by omega) (m - 1) 1 _ 1 (by omega) ok1 (by omega) (by rw [E]; simp)
  have zn : (puts m (Q.put ⟨[], 0, 0, 0⟩ m (S.getD 0 0)) ((S.take m).drop 1)).n = m := by rw [z2, E, hd]; simp; omega
  generalize puts m (Q.put ⟨[], 0, 0, 0⟩ m (S.getD 0 0)) ((S.take m).drop 1) = z at *
  have hp := pu_n S z z m m 0 0 0 0 c2 (decide_eq_true (by omega)) (by omega) (by omega) (beq_eq_false_iff_ne.2 (by omega)) (if_neg (by omega)) (by first | (rw [E]; done) | (rw [E]; rfl)) (by first | (rw [E]; done) | (rw [E]; rfl)) (by first | (rw [E]; done) | (rw [E]; rfl)) (by first | (rw [E]; done) | (rw [E]; rfl)) (by first | (rw [E]; done) | (rw [E]; rfl)) (by decide) (by decide) k
  have hX : ∀ j, j < m → (S.take m).getD j 0 = S.getD j 0 := fun j hj => by
    simp [List.getD_eq_getElem?_getD, List.getElem?_take_of_lt hj]
  obtain ⟨k1, k2⟩ := keep_all S (S.take m) m m stp hx (by omega) (by omega) hl hX rfl (by omega) m 0 z (by omega) z1 zn (by omega)
  by_cases h : (m : Int) ≤ stp
  · exact ⟨_, kl_x S (S.take m) z m m m stp c2 hp (k1 h) (by split <;> omega) (by omega) (by rw [if_neg (by omega)]) (by rw [if_neg (by omega)]) rfl z1 (by omega) (by omega) (by rw [zl]) (by rw [zl]) (by rw [zl]) (by rw [ew]; split <;> simp <;> omega)⟩
  · exact ⟨_, kl_r S (S.take m) z m m stp.toNat stp c2 hp (k2 (by omega)) (by split <;> omega) (by omega) (by rw [if_neg (by omega)]) (by rw [if_neg (by omega)]) rfl z1 (by omega) (by omega) (by rw [zl]) (by rw [zl]) (by rw [zl]) (by rw [ew]; split <;> simp <;> omega)⟩
theorem kz (stp : Int) (wx : (Lit.int .u8 stp).wf = true) : ((0 : Int) == (if (IntKind.wrap .i64 stp) < 0 then (IntKind.wrap .i64 stp) else 0)) = true := by
  have hx := wf_u8 wx
  rw [wrap_i64 (n := stp) (by omega), if_neg (by omega)]
  rfl
end Go.Proofs.Ytklnecknoadhjaa.fifo
namespace Go.Proofs.Ytklnecknoadhjaa.fifoKeeps
open Go Go.Vm
noncomputable abbrev cfg : Cfg := fifo.cfg
theorem law_n (a1 : Int) (w1 : (Lit.int .u8 a1).wf = true) : ∃ H', OK cfg (.fn 3 []) [.sl 1 none 0, .int .u8 a1] [] (.bool true) H' := ⟨_, fifo.kl_n a1 (fifo.kz a1 w1)⟩
theorem law_v (a1 : Int) (w1 : (Lit.int .u8 a1).wf = true) : ∃ H', OK cfg (.fn 3 []) [.sl 1 (some (0, 0)) 0, .int .u8 a1] [.void] (.bool true) H' := ⟨_, fifo.kl_v a1 (fifo.kz a1 w1)⟩
theorem law_r (rows : List (List V)) (hr : ∀ r ∈ rows, Typed (leaves Try.prog 2 3) r) (a1 : Int) (w1 : (Lit.int .u8 a1).wf = true) : ∃ H', OK cfg (.fn 3 []) [.sl 1 (some (0, 0)) rows.length, .int .u8 a1] [.cells false rows.flatten] (.bool true) H' := fifo.law_kr rows hr a1 w1

end Go.Proofs.Ytklnecknoadhjaa.fifoKeeps
