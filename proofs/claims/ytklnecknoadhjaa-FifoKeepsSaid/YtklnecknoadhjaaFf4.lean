/-
  What is put into queues, and taken: the loops.
-/
import Derived.Test.YtklnecknoadhjaaFf3
set_option linter.unusedVariables false
set_option linter.unusedSimpArgs false
set_option maxRecDepth 100000
namespace Go.Proofs.Ytklnecknoadhjaa.fifo
open Go Go.Vm Go.Ring

theorem grow_n (s : Q) (q : Nat) : (s.grow q).n = s.n := by unfold Q.grow; split <;> rfl
theorem grow_lost (s : Q) (q : Nat) : (s.grow q).lost = s.lost := by unfold Q.grow; split <;> rfl
theorem put_full {s : Q} {q : Nat} {x : Int} (h : s.n = q) : s.put q x = { s with lost := s.lost + 1 } := by unfold Q.put; rw [if_pos h]
theorem put_not {s : Q} {q : Nat} {x : Int} (h : s.n ≠ q) : s.put q x = { R := (s.grow q).R.set (((s.grow q).f + s.n) % (s.grow q).R.length) x, f := (s.grow q).f, n := s.n + 1, lost := s.lost } := by unfold Q.put; rw [if_neg h]
theorem grow_not {s : Q} {q : Nat} (h : s.n < s.R.length) : s.grow q = s := by unfold Q.grow; rw [if_pos h]
/-- Some more things. -/
def puts (q : Nat) (s : Q) (l : List Int) : Q := l.foldl (fun s x => s.put q x) s
theorem put_lost {s : Q} {q : Nat} (x : Int) (h : 0 ≤ s.lost ∧ s.lost ≤ 100000) : 0 ≤ (s.put q x).lost ∧ (s.put q x).lost ≤ s.lost + 1 := by
  unfold Q.put
  split <;> simp <;> omega
theorem pu_all (S : List Int) (q m : Nat) (hm : m ≤ S.length) (h30 : m ≤ 1000) (hq : q ≤ 65536) : ∀ (d i : Nat) (s : Q) (c : Int), i + d = m → s.Ok q → 0 ≤ c ∧ c ≤ i → 0 ≤ s.lost ∧ s.lost ≤ 50000 + i → ∃ c2, LOK cfg none (lb 9 0) ((.ptr (some (1, 0))) :: u_ :: u_ :: u_ :: u_ :: (.int .i64 c) :: u_ :: u_ :: u_ :: u_ :: (.sl 1 (some (0, 0)) m) :: (.int .i64 ((m : Nat) : Int)) :: (.int .i64 ((i : Nat) : Int)) :: us 44) [.cells false ((S).map (V.int .i64)), .cells true [(.sl 1 (some (2, 0)) s.R.length), (.int .i64 ((q : Nat) : Int)), (.int .i64 ((s.f : Nat) : Int)), (.int .i64 ((s.n : Nat) : Int)), (.int .i64 s.lost)], .cells true ((s.R).map (V.int .i64))] (.exit 0) (u_ :: u_ :: u_ :: u_ :: u_ :: (.int .i64 c2) :: us 51) [.cells false ((S).map (V.int .i64)), .cells true [(.sl 1 (some (3, 0)) (puts q s ((S.take m).drop i)).R.length), (.int .i64 ((q : Nat) : Int)), (.int .i64 (((puts q s ((S.take m).drop i)).f : Nat) : Int)), (.int .i64 (((puts q s ((S.take m).drop i)).n : Nat) : Int)), (.int .i64 (puts q s ((S.take m).drop i)).lost)], .dead, .cells true (((puts q s ((S.take m).drop i)).R).map (V.int .i64))] := by
  intro d
  induction d with
  | zero =>
    intro i s c hi h hc hlo
    have : i = m := by omega
    subst this
    refine ⟨c, ?_⟩
    rw [List.drop_eq_nil_of_le (by simp; omega)]
    exact pu_x S s s q i i 0 0 c 0 (decide_eq_false (by omega))
  | succ d IH =>
    intro i s c hi h hc hlo
    have h1 := h.n
    have h2 := h.ql
    have h3 := h.r
    have e2 : 0 + (i * 1) = i := by omega
    have ed : (S.take m).drop i = S.getD i 0 :: (S.take m).drop (i + 1) := by
      rw [List.drop_eq_getElem_cons (show i < (S.take m).length by simp; omega)]
      simp [List.getD_eq_getElem?_getD, List.getElem?_eq_getElem (show i < S.length by omega)]
    have hx := put_lost (s := s) (q := q) (S.getD i 0) (by omega)
    have hf : s.f ≤ 65536 := by rcases h.f with h | h <;> omega
    rw [ed]
    simp only [puts, List.foldl_cons]
    by_cases hfu : s.n = q
    · obtain ⟨c2, k⟩ := IH (i + 1) (s.put q (S.getD i 0)) c (by omega) (put_ok h _) (by omega) (by omega)
      have E := put_full (x := S.getD i 0) hfu
      generalize hz : (List.foldl (fun s x => s.put q x) (s.put q (S.getD i 0)) ((S.take m).drop (i + 1))) = z
      rw [puts, hz] at k
      exact ⟨c2, pu_l S s z q m i 0 0 c c2 (decide_eq_true (by omega)) (by omega) (by omega) (beq_iff_eq.2 (by omega)) (by rw [E]; exact wrap_i64 (by omega)) (by first | (rw [E]; done) | (rw [E]; simp; done) | (rw [E]; rfl)) (by first | (rw [E]; done) | (rw [E]; simp; done) | (rw [E]; rfl)) (by first | (rw [E]; done) | (rw [E]; simp; done) | (rw [E]; rfl)) (by first | (rw [E]; done) | (rw [E]; simp; done) | (rw [E]; rfl)) ((wrap_i64 (by omega)).trans (by simp)) k⟩
    · obtain ⟨c2, k⟩ := IH (i + 1) (s.put q (S.getD i 0)) (c + 1) (by omega) (put_ok h _) (by omega) (by omega)
      have E := put_not (x := S.getD i 0) hfu
      generalize hz : (List.foldl (fun s x => s.put q x) (s.put q (S.getD i 0)) ((S.take m).drop (i + 1))) = z
      rw [puts, hz] at k
      by_cases hg : s.n < s.R.length
      · rw [grow_not hg] at E
        have hf2 : s.f < s.R.length := by rcases h.f with h | h <;> omega
        exact ⟨c2, pu_s S s z q m i 0 0 c c2 (decide_eq_true (by omega)) (by omega) (by omega) (beq_eq_false_iff_ne.2 (by omega)) (decide_eq_true (by omega)) (by omega) (by omega) (by have := Nat.mod_lt (s.f + s.n) (show 0 < s.R.length by omega); omega) (by have := Nat.mod_lt (s.f + s.n) (show 0 < s.R.length by omega); simp only [List.length_map]; omega) ((wrap_i64 (by omega)).trans (by simp)) (by first | (rw [E]; done) | (rw [E]; simp; done) | (rw [E]; rfl)) (by first | (rw [E]; done) | (rw [E]; simp; done) | (rw [E]; rfl)) (by first | (rw [E]; done) | (rw [E]; simp; done) | (rw [E]; rfl)) (by first | (rw [E]; done) | (rw [E]; simp; done) | (rw [E]; rfl)) (by rw [E]; simp only [Nat.zero_add, Nat.mul_one, grow_n]; exact setR_ints _ _ _) ((wrap_i64 (by omega)).trans (by simp)) (wrap_i64 (by omega)) k⟩
      · have g1 := grow_room h (by omega)
        have g2 := grow_f h (by omega)
        have g3 := grow_len h
        exact ⟨c2, pu_g S s z q m i 0 0 c c2 (decide_eq_true (by omega)) (by omega) (by omega) (beq_eq_false_iff_ne.2 (by omega)) h (by omega) hg (by omega) (by omega) (by rw [grow_n]; omega) (by rw [grow_n]; have := Nat.mod_lt ((s.grow q).f + s.n) (show 0 < (s.grow q).R.length by omega); omega) (by rw [grow_n]; have := Nat.mod_lt ((s.grow q).f + s.n) (show 0 < (s.grow q).R.length by omega); simp only [List.length_map]; omega) (by rw [E, grow_lost]) (by rw [E, grow_n]; exact (wrap_i64 (by omega)).trans (by simp)) (by first | (rw [E]; done) | (rw [E]; simp; done) | (rw [E]; rfl)) (by first | (rw [E]; done) | (rw [E]; simp; done) | (rw [E]; rfl)) (by rw [E]; simp only [Nat.zero_add, Nat.mul_one, grow_n]; exact setR_ints _ _ _) ((wrap_i64 (by omega)).trans (by simp)) (wrap_i64 (by omega)) k⟩

theorem take1_ok (s : Q) (q : Nat) (h : s.Ok q) (hn : 0 < s.n) (hb : q ≤ 65536) : OK cfg (.fn 11 []) [.ptr (some (0, 0))] [.cells true [(.sl 1 (some (1, 0)) s.R.length), (.int .i64 ((q : Nat) : Int)), (.int .i64 ((s.f : Nat) : Int)), (.int .i64 ((s.n : Nat) : Int)), (.int .i64 s.lost)], .cells true ((s.R).map (V.int .i64))] (.tup [.int .i64 (s.at 0), .bool true]) [.cells true [(.sl 1 (some (1, 0)) s.take.R.length), (.int .i64 ((q : Nat) : Int)), (.int .i64 ((s.take.f : Nat) : Int)), (.int .i64 ((s.take.n : Nat) : Int)), (.int .i64 s.take.lost)], .cells true ((s.take.R).map (V.int .i64))] := by
  have h1 := h.n
  have h2 := h.ql
  have h3 := h.r
  have hf : s.f < s.R.length := by rcases h.f with h | h <;> omega
  have e1 : setR ((s.R).map (V.int .i64)) (0 + (s.f * 1)) [(.int .i64 0)] = ((s.take.R).map (V.int .i64)) := by
    simp only [Nat.zero_add, Nat.mul_one]; exact setR_ints _ _ _
  have e2 : (Int.tmod (IntKind.wrap .i64 (((s.f : Nat) : Int) + 1)) ((s.R.length : Nat) : Int)) = ((s.take.f : Nat) : Int) := by
    rw [show IntKind.wrap .i64 (((s.f : Nat) : Int) + 1) = ((s.f : Nat) : Int) + 1 from wrap_i64 (by omega), Int.tmod_eq_emod_of_nonneg (by omega)]
    simp [Q.take]
  have e3 : s.R.length = s.take.R.length := by simp [Q.take]
  have e4 : (s.R).getD (0 + (s.f * 1)) 0 = s.at 0 := by
    rw [Q.at, Nat.add_zero, Nat.mod_eq_of_lt hf, Nat.zero_add, Nat.mul_one]
  have := ta' s q (beq_eq_false_iff_ne.2 (by omega)) (by omega) (by omega) (by simp; omega) (by omega) ((wrap_i64 (by omega)).trans (by omega)) (by rw [e1]; exact plains_map _ (fun _ => rfl) _)
  rw [e1, e2, e4] at this
  rw [← e3]
  exact this
theorem put1_ok (s : Q) (q : Nat) (x : Int) (h : s.Ok q) (hn : s.n < q) (hg : s.n < s.R.length) (hb : q ≤ 65536) : OK cfg (.fn 9 []) [.ptr (some (0, 0)), .sl 1 (some (2, 0)) 1] [.cells true [(.sl 1 (some (1, 0)) s.R.length), (.int .i64 ((q : Nat) : Int)), (.int .i64 ((s.f : Nat) : Int)), (.int .i64 ((s.n : Nat) : Int)), (.int .i64 s.lost)], .cells true ((s.R).map (V.int .i64)), .cells true [(.int .i64 x)]] (.int .i64 1) [.cells true [(.sl 1 (some (1, 0)) (s.put q x).R.length), (.int .i64 ((q : Nat) : Int)), (.int .i64 (((s.put q x).f : Nat) : Int)), (.int .i64 (((s.put q x).n : Nat) : Int)), (.int .i64 (s.put q x).lost)], .cells true (((s.put q x).R).map (V.int .i64)), .cells true [(.int .i64 x)]] := by
  have h1 := h.n
  have h2 := h.ql
  have h3 := h.r
  have hf : s.f < s.R.length := by rcases h.f with h | h <;> omega
  have E := put_not (x := x) (show s.n ≠ q by omega)
  rw [grow_not hg] at E
  have e1 : setR ((s.R).map (V.int .i64)) (0 + (((s.f + s.n) % s.R.length) * 1)) [(.int .i64 x)] = (((s.put q x).R).map (V.int .i64)) := by
    rw [E]; simp only [Nat.zero_add, Nat.mul_one]; exact setR_ints _ _ _
  have e3 : s.R.length = (s.put q x).R.length := by rw [E]; simp
  have e4 : s.f = (s.put q x).f := by rw [E]
  have e5 : s.n + 1 = (s.put q x).n := by rw [E]
  have e6 : s.lost = (s.put q x).lost := by rw [E]
  have := p1' s q x (beq_eq_false_iff_ne.2 (by omega)) (decide_eq_true (by omega)) (by omega) (by omega) (by have := Nat.mod_lt (s.f + s.n) (show 0 < s.R.length by omega); omega) (by have := Nat.mod_lt (s.f + s.n) (show 0 < s.R.length by omega); simp only [List.length_map]; omega) ((wrap_i64 (by omega)).trans (by simp)) (by rw [e1]; exact plains_map _ (fun _ => rfl) _)
  rw [e1, e5] at this
  rw [← e3, ← e4, ← e6]
  exact this

end Go.Proofs.Ytklnecknoadhjaa.fifo
