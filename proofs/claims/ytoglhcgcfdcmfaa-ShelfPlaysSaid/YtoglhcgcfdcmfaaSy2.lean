/-
  Whatever is put and cut, what is there, in order, is told: parts, backwards, and what is told.
-/
import Derived.Test.YtoglhcgcfdcmfaaSy1
set_option linter.unusedVariables false
set_option linter.unusedSimpArgs false
set_option maxRecDepth 100000
namespace Go.Proofs.Ytoglhcgcfdcmfaa.shelf
open Go Go.Vm Go.Shelf

theorem told_all (L : List R2) (hb : L.length ≤ 1000) : ∀ (m j : Nat), j + m = L.length → LOK cfg none (lb 58 0) (u_ :: (.yld 5) :: u_ :: u_ :: u_ :: u_ :: (.sl 2 (some (0, 0)) L.length) :: (.int .i64 ((L.length : Nat) : Int)) :: (.int .i64 ((j : Nat) : Int)) :: us 11) [.cells true ((L.map encR).flatten), .cells true ((L.map encR).flatten), .cells true [(.sl 2 (some (1, 0)) L.length)], .cells true [(.int .i64 ((j : Nat) : Int))], .cells true [(.bool false)], .loop (recOf Try.prog 20 0 (u_ :: u_ :: u_ :: (.ptr (some (2, 0))) :: (.ptr (some (4, 0))) :: (.ptr (some (3, 0))) :: us 25) .ready none)] (.exit 0) (us 20) [.dead, .cells true ((L.map encR).flatten), .cells true [(.sl 2 (some (1, 0)) L.length)], .cells true [(.int .i64 ((L.length : Nat) : Int))], .cells true [(.bool false)], .loop (recOf Try.prog 20 0 (u_ :: u_ :: u_ :: (.ptr (some (2, 0))) :: (.ptr (some (4, 0))) :: (.ptr (some (3, 0))) :: us 25) .ready none)] := by
  intro m
  induction m with
  | zero =>
    intro j hj
    have : j = L.length := by omega
    subst this
    exact to_x L L L.length 0 (decide_eq_false (by omega))
  | succ m IH =>
    intro j hj
    exact to_s L L j _ (decide_eq_true (by omega)) (by omega) (by omega) (decide_eq_false (by omega)) (by omega) (by omega) (by simp) ((wrap_i64 (by omega)).trans (by simp)) (IH (j + 1) (by omega))
theorem told_go (L M : List R2) (h : M = L) (hb : L.length ≤ 1000) : LOK cfg none (lb 58 0) (u_ :: (.yld 5) :: u_ :: u_ :: u_ :: u_ :: (.sl 2 (some (0, 0)) L.length) :: (.int .i64 ((L.length : Nat) : Int)) :: (.int .i64 0) :: us 11) [.cells true ((L.map encR).flatten), .cells true ((M.map encR).flatten), .cells true [(.sl 2 (some (1, 0)) M.length)], .cells true [(.int .i64 0)], .cells true [(.bool false)], .loop (recOf Try.prog 20 0 (u_ :: u_ :: u_ :: (.ptr (some (2, 0))) :: (.ptr (some (4, 0))) :: (.ptr (some (3, 0))) :: us 25) .ready none)] (.exit 0) (us 20) [.dead, .cells true ((M.map encR).flatten), .cells true [(.sl 2 (some (1, 0)) M.length)], .cells true [(.int .i64 ((L.length : Nat) : Int))], .cells true [(.bool false)], .loop (recOf Try.prog 20 0 (u_ :: u_ :: u_ :: (.ptr (some (2, 0))) :: (.ptr (some (4, 0))) :: (.ptr (some (3, 0))) :: us 25) .ready none)] := by
  subst h
  exact told_all M hb M.length 0 (by omega)
theorem clone_from (L : List R2) (i : Nat) (hi : i ≤ L.length) (hb : L.length ≤ 1000) : OK cfg (.fn 59 []) [.sl 2 (some (0, (0 + (i * 2)))) (L.length - i)] [.cells true ((L.map encR).flatten)] (.sl 2 (some (1, 0)) (L.drop i).length) [.cells true ((L.map encR).flatten), .cells true (((L.drop i).map encR).flatten)] := by
  have el : (L.drop i).length = 0 + (L.length - i) := by simp
  rw [el]
  by_cases h : L.length - i = 0
  · have := cf_e' L i h
    rw [List.drop_eq_nil_of_le (by omega)]
    exact this
  · have e : ((((L.map encR).flatten).drop (0 + (i * 2))).take ((L.length - i) * 2)) = (((L.drop i).map encR).flatten) := by
      rw [Nat.zero_add, encR_drop, List.take_of_length_le (by rw [encR_flat]; simp)]
    have := cf_y' L i (by rw [encR_flat]; omega) (by omega) h (plains_ones (plains_take (plains_drop (encR_plain _) _) _)) (plains_take (plains_drop (encR_plain _) _) _)
    rw [e] at this
    exact this
theorem clone_to (L : List R2) (i : Nat) (hi : i ≤ L.length) (hb : L.length ≤ 1000) : OK cfg (.fn 59 []) [.sl 2 (some (0, 0)) i] [.cells true ((L.map encR).flatten)] (.sl 2 (some (1, 0)) (L.take i).length) [.cells true ((L.map encR).flatten), .cells true (((L.take i).map encR).flatten)] := by
  have el : (L.take i).length = 0 + i := by simp; omega
  rw [el]
  by_cases h : i = 0
  · have := ct_e' L i h
    rw [h, List.take_zero]
    rw [h] at this
    exact this
  · have e : ((((L.map encR).flatten).drop 0).take (i * 2)) = (((L.take i).map encR).flatten) := by
      rw [List.drop_zero, encR_take]
    have := ct_y' L i (by rw [encR_flat]; omega) (by omega) h (plains_ones (plains_take (plains_drop (encR_plain _) _) _)) (plains_take (plains_drop (encR_plain _) _) _)
    rw [e] at this
    exact this

theorem setR_row (L : List R2) (i : Nat) (k v : Int) (hi : i < L.length) : setR ((L.map encR).flatten) (i * 2) [.int .i64 k, .int .i64 v] = (((L.set i (k, v)).map encR).flatten) := by
  induction L generalizing i with
  | nil => simp at hi
  | cons r L ih =>
    cases i with
    | zero => simp [setR, encR]
    | succ i =>
      have := ih i (by simpa using hi)
      simp only [setR] at this ⊢
      rw [show (i + 1) * 2 = (i * 2) + 1 + 1 by omega]
      simp [encR] at this ⊢
      exact this
/-- Rows of which the first and the last ones are turned. -/
def rvI (L : List R2) (i : Nat) : List R2 := (List.range L.length).map fun t => if t < i ∨ L.length - i ≤ t then gR L (L.length - 1 - t) else gR L t
theorem rvI_len (L : List R2) (i : Nat) : (rvI L i).length = L.length := by simp [rvI]
theorem rvI_get (L : List R2) (i t : Nat) (ht : t < L.length) : (rvI L i)[t]? = some (if t < i ∨ L.length - i ≤ t then gR L (L.length - 1 - t) else gR L t) := by
  simp [rvI, ht]
theorem gR_get (L : List R2) {t : Nat} (ht : t < L.length) : L[t]? = some (gR L t) := by
  simp only [gR, List.getD_eq_getElem?_getD, List.getElem?_eq_getElem ht, Option.getD_some]
theorem gR_of {L : List R2} {t : Nat} {x : R2} (h : L[t]? = some x) : gR L t = x := by
  simp only [gR, List.getD_eq_getElem?_getD, h, Option.getD_some]
theorem rvI_zero (L : List R2) : rvI L 0 = L := by
  apply List.ext_getElem?
  intro t
  by_cases ht : t < L.length
  · rw [rvI_get L 0 t ht, if_neg (by omega), gR_get L ht]
  · rw [List.getElem?_eq_none (by rw [rvI_len]; omega), List.getElem?_eq_none (by omega)]
theorem rvI_rev (L : List R2) (i : Nat) (h : L.length ≤ 2 * i + 1) : rvI L i = L.reverse := by
  apply List.ext_getElem?
  intro t
  by_cases ht : t < L.length
  · rw [rvI_get L i t ht, List.getElem?_reverse ht, gR_get L (by omega)]
    by_cases hc : t < i ∨ L.length - i ≤ t
    · rw [if_pos hc]
    · rw [if_neg hc, show L.length - 1 - t = t by omega]
  · rw [List.getElem?_eq_none (by rw [rvI_len]; omega), List.getElem?_eq_none (by simp; omega)]
theorem rvI_step (L : List R2) (i j : Nat) (hj : j + i + 1 = L.length) (hij : i < j) : ((rvI L i).set i (gR (rvI L i) j)).set j (gR (rvI L i) i) = rvI L (i + 1) := by
  have e1 : gR (rvI L i) j = gR L j := gR_of (by rw [rvI_get L i j (by omega), if_neg (by omega)])
  have e2 : gR (rvI L i) i = gR L i := gR_of (by rw [rvI_get L i i (by omega), if_neg (by omega)])
  rw [e1, e2]
  apply List.ext_getElem?
  intro t
  by_cases ht : t < L.length
  · rw [rvI_get L (i + 1) t ht]
    by_cases h1 : t = j
    · subst h1
      rw [List.getElem?_set_self (by simp [rvI_len]; omega), if_pos (by omega), show L.length - 1 - t = i by omega]
    · rw [List.getElem?_set_ne (by omega)]
      by_cases h2 : t = i
      · subst h2
        rw [List.getElem?_set_self (by simp [rvI_len]; omega), if_pos (by omega), show L.length - 1 - t = j by omega]
      · rw [List.getElem?_set_ne (by omega), rvI_get L i t ht]
        by_cases h3 : t < i ∨ L.length - i ≤ t
        · rw [if_pos h3, if_pos (by omega)]
        · rw [if_neg h3, if_neg (by omega)]
  · rw [List.getElem?_eq_none (by simp [rvI_len]; omega), List.getElem?_eq_none (by rw [rvI_len]; omega)]

theorem rv_all (L : List R2) (n : Nat) (hn : n = L.length) (hb : L.length ≤ 1000) : ∀ (d i : Nat) (jj : Int), L.length - 2 * i ≤ d → jj = (L.length : Int) - 1 - i → LOK cfg none (lb 62 0) ((.sl 2 (some (0, 0)) n) :: u_ :: (.int .i64 ((i : Nat) : Int)) :: (.int .i64 jj) :: us 24) [.cells true (((rvI L i).map encR).flatten)] (.exit 0) (us 28) [.cells true ((L.reverse.map encR).flatten)] := by
  have hlen := rvI_len L
  intro d
  induction d with
  | zero =>
    intro i jj hd hj
    rw [← rvI_rev L i (by omega)]
    exact rv_x (rvI L i) n _ jj (decide_eq_false (by omega))
  | succ d IH =>
    intro i jj hd hj
    by_cases hc : (i : Int) < jj
    case neg =>
      rw [← rvI_rev L i (by omega)]
      exact rv_x (rvI L i) n _ jj (decide_eq_false (by omega))
    obtain ⟨j, rfl⟩ : ∃ j : Nat, jj = (j : Int) := ⟨jj.toNat, by omega⟩
    have hl := hlen i
    have k := IH (i + 1) ((j : Int) - 1) (by omega) (by omega)
    rw [← rvI_step L i j (by omega) (by omega)] at k
    exact rv_s (rvI L i) L.reverse n i j (decide_eq_true (by omega)) (by omega) (by omega) (by omega) (by omega) (by rw [encR_flat]; omega) (by rw [setR_len, encR_flat]; omega) ((wrap_i64 (by omega)).trans (by simp)) (by rw [Nat.zero_add, Nat.zero_add, setR_row _ _ _ _ (by omega), setR_row _ _ _ _ (by simp; omega)]) (wrap_i64 (by omega)) k
theorem rev_ok (L : List R2) (hb : L.length ≤ 1000) : OK cfg (.fn 62 []) [.sl 2 (some (0, 0)) L.length] [.cells true ((L.map encR).flatten)] (.tup []) [.cells true ((L.reverse.map encR).flatten)] := by
  have h := rv_all L L.length rfl hb L.length 0 ((L.length : Int) - 1) (by omega) (by omega)
  rw [rvI_zero] at h
  exact rvf' L L.reverse L.length h (wrap_i64 (by omega))
theorem bk_all (R : List R2) (hb : R.length ≤ 1000) : ∀ (m : Nat) (O : List R2) (i : Int), i = (m : Int) - 1 → m ≤ R.length → O.length + m ≤ 1000 → LOK cfg none (lb 25 0) ((.sl 2 (some (0, 0)) R.length) :: u_ :: u_ :: (.sl 2 (some (1, 0)) O.length) :: (.int .i64 i) :: us 16) [.cells true ((R.map encR).flatten), .cells true ((O.map encR).flatten)] (.exit 0) (u_ :: u_ :: u_ :: (.sl 2 (some (2, 0)) (O ++ (R.take m).reverse).length) :: us 17) [.cells true ((R.map encR).flatten), .dead, .cells true (((O ++ (R.take m).reverse).map encR).flatten)] := by
  intro m
  induction m with
  | zero =>
    intro O i hi hm ho
    rw [List.take_zero, List.reverse_nil, List.append_nil]
    exact bk_x R O i (decide_eq_false (by omega))
  | succ m IH =>
    intro O i hi hm ho
    have e : i = (m : Int) := by omega
    subst e
    have k := IH (O ++ [R.getD m (0, 0)]) ((m : Int) - 1) rfl (by omega) (by simp; omega)
    have e2 : O ++ (R.take (m + 1)).reverse = (O ++ [R.getD m (0, 0)]) ++ (R.take m).reverse := by
      rw [List.take_add_one, gR_get R (by omega)]
      simp
    rw [e2]
    exact bk_s R O _ m (decide_eq_true (by omega)) (by omega) (by omega) (by omega) (by rw [encR_flat]) (by simp [encR]) (wrap_i64 (by omega)) (by simp) k
theorem back_ok (R : List R2) (hb : R.length ≤ 1000) : OK cfg (.fn 25 []) [.sl 2 (some (0, 0)) R.length] [.cells true ((R.map encR).flatten)] (.sl 2 (some (1, 0)) R.reverse.length) [.cells true ((R.map encR).flatten), .cells true ((R.reverse.map encR).flatten)] := by
  have h := bk_all R hb R.length [] ((R.length : Int) - 1) rfl (by omega) (by simp; omega)
  rw [List.take_length, List.nil_append] at h
  exact bkf' R R.reverse h rfl (wrap_i64 (by omega)) rfl

end Go.Proofs.Ytoglhcgcfdcmfaa.shelf
