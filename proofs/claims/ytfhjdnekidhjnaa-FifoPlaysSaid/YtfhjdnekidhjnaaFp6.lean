/-
  Whatever is done with a queue: what one deed comes to; printed by ps.py, checked by the kernel.
-/
import Derived.Test.YtfhjdnekidhjnaaFp5
set_option linter.unusedVariables false
set_option linter.unusedSimpArgs false
set_option maxRecDepth 100000
namespace Go.Proofs.Ytfhjdnekidhjnaa.fifo
open Go Go.Vm Go.Ring

theorem sm_all (L X : List Int) (s : Q) (o q : Nat) (lo : Int) (hL : L.length ≤ 100000) (hw : Win X o L.length L) : ∀ (d j : Nat), j + d = L.length → LOK cfg none (lb 52 0) ((.yld 7) :: u_ :: u_ :: u_ :: u_ :: u_ :: (.sl 1 (p_ 0) L.length) :: (i6 ((L.length : Nat) : Int)) :: (n6 j) :: us 10) [cI L, c1 [(.sl 1 (some (2, o)) L.length), (n6 q), (i6 lo)], .cells false ((X).map (V.int .i64)), c1 [(n6 j)], c1 [(.bool false)], c1 [(.sl 1 (p_ 6) s.R.length), (n6 q), (i6 ((s.f : Nat) : Int)), (i6 ((s.n : Nat) : Int)), (i6 s.lost)], cI s.R, .loop (recOf Try.prog 17 0 ((.ptr (p_ 5)) :: u_ :: u_ :: (.ptr (p_ 1)) :: (.ptr (p_ 4)) :: (.ptr (p_ 3)) :: us 85) .ready none)] (.exit 0) (us 19) [d_, c1 [(.sl 1 (some (2, o)) L.length), (n6 q), (i6 lo)], .cells false ((X).map (V.int .i64)), c1 [(i6 ((L.length : Nat) : Int))], c1 [(.bool false)], c1 [(.sl 1 (p_ 6) s.R.length), (n6 q), (i6 ((s.f : Nat) : Int)), (i6 ((s.n : Nat) : Int)), (i6 s.lost)], cI s.R, .loop (recOf Try.prog 17 0 ((.ptr (p_ 5)) :: u_ :: u_ :: (.ptr (p_ 1)) :: (.ptr (p_ 4)) :: (.ptr (p_ 3)) :: us 85) .ready none)] := by
  have hle := hw.le
  intro d
  induction d with
  | zero =>
    intro j hj
    exact sm_x L X s o q j lo (decide_eq_false (by omega)) (by omega)
  | succ d IH =>
    intro j hj
    have hk : (L).getD (0 + (j * 1)) 0 = (X).getD (o + (j * 1)) 0 := by
      rw [show o + (j * 1) = o + j by omega, hw.get (show j < L.length by omega), show 0 + (j * 1) = j by omega]
    exact sm_s L X s o q j lo (decide_eq_true (by omega)) (by omega) (by omega) (bne_self_eq_false _) (decide_eq_false (by omega)) (by omega) (bne_eq_false_iff_eq.2 hk) ((wrap_i64 (by omega)).trans (by simp)) (IH (j + 1) (by omega))
theorem same_R (X : List Int) (s : Q) (o q : Nat) (h : s.Ok q) (hb : q ≤ 65536) (hw : Win X o s.n s.list) : OK cfg (.fn 17 []) [.ptr (p_ 0), (.agg [(.sl 1 (some (2, o)) s.n), (n6 q), (i6 s.lost)])] [c1 [(.sl 1 (p_ 1) s.R.length), (n6 q), (i6 ((s.f : Nat) : Int)), (i6 ((s.n : Nat) : Int)), (i6 s.lost)], cI s.R, .cells false ((X).map (V.int .i64))] (.bool true) [c1 [(.sl 1 (p_ 1) s.R.length), (n6 q), (i6 ((s.f : Nat) : Int)), (i6 ((s.n : Nat) : Int)), (i6 s.lost)], cI s.R, .cells false ((X).map (V.int .i64))] := by
  have h1 := h.n
  have h2 := h.ql
  have h3 := h.r
  have hll := list_len s
  have hle := hw.le
  by_cases hn : 0 < s.n
  · have hf : s.f < s.R.length := by rcases h.f with h | h <;> omega
    have hl := sm_all s.list X s o q s.lost (by omega) (by rw [hll]; exact hw) s.list.length 0 (by omega)
    refine OK.eqv (same_r' X s o q hl (bne_self_eq_false _) (bne_self_eq_false _) (bne_self_eq_false _) h (by omega) (by omega) (by omega) (beq_eq_false_iff_ne.2 (by omega)) (by omega) (by omega) (beq_self_eq_true _) (by rw [decide_eq_true (by omega)]; rfl) (by omega) (by omega)) ?_
    have e1 : (X).getD (o + 0) 0 = s.list.getD 0 0 := hw.get hn
    have e2 : s.list.getD 0 0 = s.at 0 := by rw [take_list h hn]; rfl
    have e3 : (s.R).getD (0 + (s.f * 1)) 0 = s.at 0 := by
      rw [Q.at, Nat.add_zero, Nat.mod_eq_of_lt hf, Nat.zero_add, Nat.mul_one]
    rw [e1, e2, e3, beq_self_eq_true]
  · exact same_e' X s o q (bne_self_eq_false _) (bne_self_eq_false _) (bne_self_eq_false _) (decide_eq_false (by omega)) (beq_iff_eq.2 (by omega)) (beq_iff_eq.2 (by omega))
theorem same_M (X : List Int) (o q : Nat) (lo : Int) : OK cfg (.fn 17 []) [.ptr (p_ 0), (.agg [(.sl 1 (some (1, o)) 0), (n6 q), (i6 lo)])] [c1 [(.sl 1 none 0), (n6 q), (i6 0), (i6 0), (i6 lo)], .cells false ((X).map (V.int .i64))] (.bool true) [c1 [(.sl 1 none 0), (n6 q), (i6 0), (i6 0), (i6 lo)], .cells false ((X).map (V.int .i64))] := same_m' X o q lo (bne_self_eq_false _) (bne_self_eq_false _)
theorem same_N (q : Nat) (lo : Int) : OK cfg (.fn 17 []) [.ptr (p_ 0), (.agg [(.sl 1 none 0), (n6 q), (i6 lo)])] [c1 [(.sl 1 none 0), (n6 q), (i6 0), (i6 0), (i6 lo)]] (.bool true) [c1 [(.sl 1 none 0), (n6 q), (i6 0), (i6 0), (i6 lo)]] := same_n' q lo (bne_self_eq_false _) (bne_self_eq_false _)
theorem puts_k {q : Nat} : ∀ (l : List Int) {s : Q}, s.Ok q → (puts q s l).Ok q ∧ (puts q s l).n = s.n + min l.length (q - s.n) ∧ (puts q s l).list = s.list ++ l.take (min l.length (q - s.n)) ∧ (puts q s l).lost = s.lost + ((l.length - min l.length (q - s.n) : Nat) : Int)
  | [], s, h => ⟨h, by simp [puts], by simp [puts], by simp [puts]⟩
  | x :: l, s, h => by
    have e : puts q s (x :: l) = puts q (s.put q x) l := rfl
    rw [e]
    obtain ⟨h2, h3, h4, h5⟩ := puts_k l (put_ok h x)
    have hql := h.ql
    by_cases hf : s.n = q
    · have E := put_full (x := x) hf
      have en : (s.put q x).n = s.n := by rw [E]
      have el : (s.put q x).list = s.list := by rw [E]; rfl
      have eo : (s.put q x).lost = s.lost + 1 := by rw [E]
      have hk : min (x :: l).length (q - s.n) = 0 := by omega
      have hk2 : min l.length (q - (s.put q x).n) = 0 := by omega
      rw [hk2] at h3 h4 h5
      rw [hk]
      refine ⟨h2, by omega, by rw [h4, el]; simp, by rw [h5, eo]; simp; omega⟩
    · have hq : s.n < q := by omega
      have en := put_n hq x
      have el := put_list h hq x
      have eo : (s.put q x).lost = s.lost := by rw [put_not hf]
      have hk : min (x :: l).length (q - s.n) = min l.length (q - (s.put q x).n) + 1 := by simp only [List.length_cons]; omega
      rw [hk]
      refine ⟨h2, by omega, by rw [h4, el]; simp, by rw [h5, eo]; simp⟩

end Go.Proofs.Ytfhjdnekidhjnaa.fifo
