/-
  Things are taken in the order in which they came: what calls come to; ways printed by ps.py, checked by the kernel.
-/
import Derived.Test.YtklnecknoadhjaaFf3
import Derived.Test.YtklnecknoadhjaaVm47
set_option linter.unusedVariables false
set_option linter.unusedSimpArgs false
set_option maxRecDepth 100000
namespace Go.Proofs.Ytklnecknoadhjaa.fifo
open Go Go.Vm Go.Ring

theorem grow_n (s : Q) (q : Nat) : (s.grow q).n = s.n := by unfold Q.grow; split <;> rfl
theorem grow_lost (s : Q) (q : Nat) : (s.grow q).lost = s.lost := by unfold Q.grow; split <;> rfl
theorem put_full {s : Q} {q : Nat} {x : Int} (h : s.n = q) : s.put q x = { s with lost := s.lost + 1 } := by unfold Q.put; rw [if_pos h]
theorem put_not {s : Q} {q : Nat} {x : Int} (h : s.n ≠ q) : s.put q x = { R := (s.grow q).R.set (((s.grow q).f + s.n) % (s.grow q).R.length) x, f := (s.grow q).f, n := s.n + 1, lost := s.lost } := by unfold Q.put; rw [if_neg h]
theorem grow_not {s : Q} {q : Nat} (h : s.n < s.R.length) : s.grow q = s := by unfold Q.grow; rw [if_pos h]
/-- Some more things. -/
def puts (q : Nat) (s : Q) (l : List Int) : Q := l.foldl (fun s x => s.put q x) s
theorem put_lost {s : Q} {q : Nat} (x : Int) (h : 0 ≤ s.lost ∧ s.lost ≤ 100000) : 0 ≤ (s.put q x).lost ∧ (s.put q x).lost ≤ s.lost + 1 := by
  unfold Q.put
  split <;> simp <;> omega
theorem pu_all (S : List Int) (q m : Nat) (hm : m ≤ S.length) (h30 : m ≤ 1000) (hq : q ≤ 65536) : ∀ (d i : Nat) (s : Q) (c : Int), i + d = m → s.Ok q → 0 ≤ c ∧ c ≤ i → 0 ≤ s.lost ∧ s.lost ≤ 50000 + i → ∃ c2, LOK cfg none (lb 9 0) ((.ptr (some (1, 0))) :: u_ :: u_ :: u_ :: u_ :: (.int .i64 c) :: u_ :: u_ :: u_ :: u_ :: (.sl 1 (some (0, 0)) m) :: (.int .i64 ((m : Nat) : Int)) :: (.int .i64 ((i : Nat) : Int)) :: us 44) [.cells false ((S).map (V.int .i64)), .cells true [(.sl 1 (some (2, 0)) s.R.length), (.int .i64 ((q : Nat) : Int)), (.int .i64 ((s.f : Nat) : Int)), (.int .i64 ((s.n : Nat) : Int)), (.int .i64 s.lost)], .cells true ((s.R).map (V.int .i64))] (.exit 0) (u_ :: u_ :: u_ :: u_ :: u_ :: (.int .i64 c2) :: us 51) [.cells false ((S).map (V.int .i64)), .cells true [(.sl 1 (some (3, 0)) (puts q s ((S.take m).drop i)).R.length), (.int .i64 ((q : Nat) : Int)), (.int .i64 (((puts q s ((S.take m).drop i)).f : Nat) : Int)), (.int .i64 (((puts q s ((S.take m).drop i)).n : Nat) : Int)), (.int .i64 (puts q s ((S.take m).drop i)).lost)], .dead, .cells true (((puts q s ((S.take m).drop i)).R).map (V.int .i64))] := by
  intro d
  induction d with
  | zero =>
    intro i s c hi h hc hlo
    have : i = m := by omega
    subst this
    refine ⟨c, ?_⟩
    rw [List.drop_eq_nil_of_le (by simp; omega)]
    exact pu_x S s s q i i 0 0 c 0 (decide_eq_false (by omega))
  | succ d IH =>
    intro i s c hi h hc hlo
    have h1 := h.n
    have h2 := h.ql
    have h3 := h.r
    have e2 : 0 + (i * 1) = i := by omega
    have ed : (S.take m).drop i = S.getD i 0 :: (S.take m).drop (i + 1) := by
      rw [List.drop_eq_getElem_cons (show i < (S.take m).length by simp; omega)]
      simp [List.getD_eq_getElem?_getD, List.getElem?_eq_getElem (show i < S.length by omega)]
    have hx := put_lost (s := s) (q := q) (S.getD i 0) (by omega)
    have hf : s.f ≤ 65536 := by rcases h.f with h | h <;> omega
    rw [ed]
    simp only [puts, List.foldl_cons]
    by_cases hfu : s.n = q
    · obtain ⟨c2, k⟩ := IH (i + 1) (s.put q (S.getD i 0)) c (by omega) (put_ok h _) (by omega) (by omega)
      have E := put_full (x := S.getD i 0) hfu
      generalize hz : (List.foldl (fun s x => s.put q x) (s.put q (S.getD i 0)) ((S.take m).drop (i + 1))) = z
      rw [puts, hz] at k
      exact ⟨c2, pu_l S s z q m i 0 0 c c2 (decide_eq_true (by omega)) (by omega) (by omega) (beq_iff_eq.2 (by omega)) (by rw [E]; exact wrap_i64 (by omega)) (by first | (rw [E]; done) | (rw [E]; simp; done) | (rw [E]; rfl)) (by first | (rw [E]; done) | (rw [E]; simp; done) | (rw [E]; rfl)) (by first | (rw [E]; done) | (rw [E]; simp; done) | (rw [E]; rfl)) (by first | (rw [E]; done) | (rw [E]; simp; done) | (rw [E]; rfl)) ((wrap_i64 (by omega)).trans (by simp)) k⟩
    · obtain ⟨c2, k⟩ := IH (i + 1) (s.put q (S.getD i 0)) (c + 1) (by omega) (put_ok h _) (by omega) (by omega)
      have E := put_not (x := S.getD i 0) hfu
      generalize hz : (List.foldl (fun s x => s.put q x) (s.put q (S.getD i 0)) ((S.take m).drop (i + 1))) = z
      rw [puts, hz] at k
      by_cases hg : s.n < s.R.length
      · rw [grow_not hg] at E
        have hf2 : s.f < s.R.length := by rcases h.f with h | h <;> omega
        exact ⟨c2, pu_s S s z q m i 0 0 c c2 (decide_eq_true (by omega)) (by omega) (by omega) (beq_eq_false_iff_ne.2 (by omega)) (decide_eq_true (by omega)) (by omega) (by omega) (by have := Nat.mod_lt (s.f + s.n) (show 0 < s.R.length by omega); omega) (by have := Nat.mod_lt (s.f + s.n) (show 0 < s.R.length by omega); simp only [List.length_map]; omega) ((wrap_i64 (by omega)).trans (by simp)) (by first | (rw [E]; done) | (rw [E]; simp; done) | (rw [E]; rfl)) (by first | (rw [E]; done) | (rw [E]; simp; done) | (rw [E]; rfl)) (by first | (rw [E]; done) | (rw [E]; simp; done) | (rw [E]; rfl)) (by first | (rw [E]; done) | (rw [E]; simp; done) | (rw [E]; rfl)) (by rw [E]; simp only [Nat.zero_add, Nat.mul_one, grow_n]; exact setR_ints _ _ _) ((wrap_i64 (by omega)).trans (by simp)) (wrap_i64 (by omega)) k⟩
      · have g1 := grow_room h (by omega)
        have g2 := grow_f h (by omega)
        have g3 := grow_len h
        exact ⟨c2, pu_g S s z q m i 0 0 c c2 (decide_eq_true (by omega)) (by omega) (by omega) (beq_eq_false_iff_ne.2 (by omega)) h (by omega) hg (by omega) (by omega) (by rw [grow_n]; omega) (by rw [grow_n]; have := Nat.mod_lt ((s.grow q).f + s.n) (show 0 < (s.grow q).R.length by omega); omega) (by rw [grow_n]; have := Nat.mod_lt ((s.grow q).f + s.n) (show 0 < (s.grow q).R.length by omega); simp only [List.length_map]; omega) (by rw [E, grow_lost]) (by rw [E, grow_n]; exact (wrap_i64 (by omega)).trans (by simp)) (by first | (rw [E]; done) | (rw [E]; simp; done) | (rw [E]; rfl)) (by first | (rw [E]; done) | (rw [E]; simp; done) | (rw [E]; rfl)) (by rw [E]; simp only [Nat.zero_add, Nat.mul_one, grow_n]; exact setR_ints _ _ _) ((wrap_i64 (by omega)).trans (by simp)) (wrap_i64 (by omega)) k⟩

theorem take1_ok (s : Q) (q : Nat) (h : s.Ok q) (hn : 0 < s.n) (hb : q ≤ 65536) : OK cfg (.fn 11 []) [.ptr (some (0, 0))] [.cells true [(.sl 1 (some (1, 0)) s.R.length), (.int .i64 ((q : Nat) : Int)), (.int .i64 ((s.f : Nat) : Int)), (.int .i64 ((s.n : Nat) : Int)), (.int .i64 s.lost)], .cells true ((s.R).map (V.int .i64))] (.tup [.int .i64 (s.at 0), .bool true]) [.cells true [(.sl 1 (some (1, 0)) s.take.R.length), (.int .i64 ((q : Nat) : Int)), (.int .i64 ((s.take.f : Nat) : Int)), (.int .i64 ((s.take.n : Nat) : Int)), (.int .i64 s.take.lost)], .cells true ((s.take.R).map (V.int .i64))] := by
  have h1 := h.n
  have h2 := h.ql
  have h3 := h.r
  have hf : s.f < s.R.length := by rcases h.f with h | h <;> omega
  have e1 : setR ((s.R).map (V.int .i64)) (0 + (s.f * 1)) [(.int .i64 0)] = ((s.take.R).map (V.int .i64)) := by
    simp only [Nat.zero_add, Nat.mul_one]; exact setR_ints _ _ _
  have e2 : (Int.tmod (IntKind.wrap .i64 (((s.f : Nat) : Int) + 1)) ((s.R.length : Nat) : Int)) = ((s.take.f : Nat) : Int) := by
    rw [show IntKind.wrap .i64 (((s.f : Nat) : Int) + 1) = ((s.f : Nat) : Int) + 1 from wrap_i64 (by omega), Int.tmod_eq_emod_of_nonneg (by omega)]
    simp [Q.take]
  have e3 : s.R.length = s.take.R.length := by simp [Q.take]
  have e4 : (s.R).getD (0 + (s.f * 1)) 0 = s.at 0 := by
    rw [Q.at, Nat.add_zero, Nat.mod_eq_of_lt hf, Nat.zero_add, Nat.mul_one]
  have := ta' s q (beq_eq_false_iff_ne.2 (by omega)) (by omega) (by omega) (by simp; omega) (by omega) ((wrap_i64 (by omega)).trans (by omega)) (by rw [e1]; exact plains_map _ (fun _ => rfl) _)
  rw [e1, e2, e4] at this
  rw [← e3]
  exact this
theorem put1_ok (s : Q) (q : Nat) (x : Int) (h : s.Ok q) (hn : s.n < q) (hg : s.n < s.R.length) (hb : q ≤ 65536) : OK cfg (.fn 9 []) [.ptr (some (0, 0)), .sl 1 (some (2, 0)) 1] [.cells true [(.sl 1 (some (1, 0)) s.R.length), (.int .i64 ((q : Nat) : Int)), (.int .i64 ((s.f : Nat) : Int)), (.int .i64 ((s.n : Nat) : Int)), (.int .i64 s.lost)], .cells true ((s.R).map (V.int .i64)), .cells true [(.int .i64 x)]] (.int .i64 1) [.cells true [(.sl 1 (some (1, 0)) (s.put q x).R.length), (.int .i64 ((q : Nat) : Int)), (.int .i64 (((s.put q x).f : Nat) : Int)), (.int .i64 (((s.put q x).n : Nat) : Int)), (.int .i64 (s.put q x).lost)], .cells true (((s.put q x).R).map (V.int .i64)), .cells true [(.int .i64 x)]] := by
  have h1 := h.n
  have h2 := h.ql
  have h3 := h.r
  have hf : s.f < s.R.length := by rcases h.f with h | h <;> omega
  have E := put_not (x := x) (show s.n ≠ q by omega)
  rw [grow_not hg] at E
  have e1 : setR ((s.R).map (V.int .i64)) (0 + (((s.f + s.n) % s.R.length) * 1)) [(.int .i64 x)] = (((s.put q x).R).map (V.int .i64)) := by
    rw [E]; simp only [Nat.zero_add, Nat.mul_one]; exact setR_ints _ _ _
  have e3 : s.R.length = (s.put q x).R.length := by rw [E]; simp
  have e4 : s.f = (s.put q x).f := by rw [E]
  have e5 : s.n + 1 = (s.put q x).n := by rw [E]
  have e6 : s.lost = (s.put q x).lost := by rw [E]
  have := p1' s q x (beq_eq_false_iff_ne.2 (by omega)) (decide_eq_true (by omega)) (by omega) (by omega) (by have := Nat.mod_lt (s.f + s.n) (show 0 < s.R.length by omega); omega) (by have := Nat.mod_lt (s.f + s.n) (show 0 < s.R.length by omega); simp only [List.length_map]; omega) ((wrap_i64 (by omega)).trans (by simp)) (by rw [e1]; exact plains_map _ (fun _ => rfl) _)
  rw [e1, e5] at this
  rw [← e3, ← e4, ← e6]
  exact this

end Go.Proofs.Ytklnecknoadhjaa.fifo

set_option linter.unusedVariables false
set_option linter.unusedSimpArgs false
set_option maxRecDepth 100000
namespace Go.Proofs.Ytklnecknoadhjaa.fifo
open Go Go.Vm Go.Ring

theorem puts_gen {q : Nat} : ∀ (l : List Int) {s : Q}, s.Ok q → ∃ k, k ≤ l.length ∧ (puts q s l).Ok q ∧ (puts q s l).n = s.n + k ∧ (puts q s l).list = s.list ++ l.take k ∧ (puts q s l).lost = s.lost + ((l.length - k : Nat) : Int)
  | [], s, h => ⟨0, Nat.le_refl _, h, rfl, by simp [puts], by simp [puts]⟩
  | x :: l, s, h => by
    have e : puts q s (x :: l) = puts q (s.put q x) l := rfl
    rw [e]
    obtain ⟨k, h1, h2, h3, h4, h5⟩ := puts_gen l (put_ok h x)
    by_cases hf : s.n = q
    · have E := put_full (x := x) hf
      have en : (s.put q x).n = s.n := by rw [E]
      have el : (s.put q x).list = s.list := by rw [E]; rfl
      have eo : (s.put q x).lost = s.lost + 1 := by rw [E]
      have hk : k = 0 := by have := h2.ql; omega
      subst hk
      exact ⟨0, Nat.zero_le _, h2, by omega, by rw [h4, el]; simp, by rw [h5, eo]; simp; omega⟩
    · have hq : s.n < q := by have := h.ql; omega
      have en := put_n hq x
      have el := put_list h hq x
      have eo : (s.put q x).lost = s.lost := by rw [put_not hf]
      exact ⟨k + 1, by simp; omega, h2, by omega, by rw [h4, el]; simp, by rw [h5, eo]; simp⟩
theorem take_list {s : Q} {q : Nat} (h : s.Ok q) (hn : 0 < s.n) : s.list = s.at 0 :: s.take.list := by
  have hl := h.n
  have hf : s.f < s.R.length := by rcases h.f with h | h <;> omega
  obtain ⟨n, e⟩ : ∃ n, s.n = n + 1 := ⟨s.n - 1, by omega⟩
  unfold Q.list
  have e2 : s.take.n = n := by simp [Q.take, e]
  rw [e2, e, List.range_succ_eq_map, List.map_cons, List.map_map]
  congr 1
  apply List.map_congr_left
  intro j hj
  have hj : j < n := List.mem_range.1 hj
  simp only [Function.comp, Q.at, Q.take, List.length_set, List.getD_eq_getElem?_getD]
  have h1 : ((s.f + 1) % s.R.length + j) % s.R.length = (s.f + (j + 1)) % s.R.length := by
    rw [Nat.mod_add_mod]
    congr 1
    omega
  rw [h1, List.getElem?_set_ne]
  intro he
  have a1 := Nat.sub_mod_eq_zero_of_mod_eq (show (s.f + (j + 1)) % s.R.length = s.f % s.R.length by rw [Nat.mod_eq_of_lt hf]; exact he.symm)
  rw [show s.f + (j + 1) - s.f = j + 1 by omega, Nat.mod_eq_of_lt (by omega)] at a1
  omega
/-- So many are taken. -/
def takeK : Nat → Q × List Int → Q × List Int
  | 0, x => x
  | d + 1, x => takeK d (if x.1.n = 0 then x else (x.1.take, x.2 ++ [x.1.at 0]))
theorem takeK_inv {q : Nat} : ∀ (d : Nat) (s : Q) (G : List Int), s.Ok q → (takeK d (s, G)).1.Ok q ∧ (takeK d (s, G)).2 ++ (takeK d (s, G)).1.list = G ++ s.list ∧ (takeK d (s, G)).1.lost = s.lost ∧ (takeK d (s, G)).1.R.length = s.R.length
  | 0, s, G, h => ⟨h, rfl, rfl, rfl⟩
  | d + 1, s, G, h => by
    by_cases hn : s.n = 0
    · have e : takeK (d + 1) (s, G) = takeK d (s, G) := by simp only [takeK]; rw [if_pos hn]
      rw [e]
      exact takeK_inv d s G h
    · have e : takeK (d + 1) (s, G) = takeK d (s.take, G ++ [s.at 0]) := by simp only [takeK]; rw [if_neg hn]
      rw [e]
      obtain ⟨h1, h2, h3, h4⟩ := takeK_inv d s.take (G ++ [s.at 0]) (take_ok h (by omega))
      refine ⟨h1, ?_, by rw [h3]; rfl, by rw [h4]; simp [Q.take]⟩
      rw [h2, take_list h (by omega)]
      simp

theorem pu_all2 (S : List Int) (q m : Nat) (hm : m ≤ S.length) (h30 : m ≤ 1000) (hq : q ≤ 65536) : ∀ (d i : Nat) (s : Q) (c : Int), i + d = m → s.Ok q → 0 ≤ c ∧ c ≤ i → 0 ≤ s.lost ∧ s.lost ≤ 50000 + i → ∃ c2, c2 = c + (((puts q s ((S.take m).drop i)).n : Nat) : Int) - ((s.n : Nat) : Int) ∧ LOK cfg none (lb 9 0) ((.ptr (some (1, 0))) :: u_ :: u_ :: u_ :: u_ :: (.int .i64 c) :: u_ :: u_ :: u_ :: u_ :: (.sl 1 (some (0, 0)) m) :: (.int .i64 ((m : Nat) : Int)) :: (.int .i64 ((i : Nat) : Int)) :: us 44) [.cells false ((S).map (V.int .i64)), .cells true [(.sl 1 (some (2, 0)) s.R.length), (.int .i64 ((q : Nat) : Int)), (.int .i64 ((s.f : Nat) : Int)), (.int .i64 ((s.n : Nat) : Int)), (.int .i64 s.lost)], .cells true ((s.R).map (V.int .i64))] (.exit 0) (u_ :: u_ :: u_ :: u_ :: u_ :: (.int .i64 c2) :: us 51) [.cells false ((S).map (V.int .i64)), .cells true [(.sl 1 (some (3, 0)) (puts q s ((S.take m).drop i)).R.length), (.int .i64 ((q : Nat) : Int)), (.int .i64 (((puts q s ((S.take m).drop i)).f : Nat) : Int)), (.int .i64 (((puts q s ((S.take m).drop i)).n : Nat) : Int)), (.int .i64 (puts q s ((S.take m).drop i)).lost)], .dead, .cells true (((puts q s ((S.take m).drop i)).R).map (V.int .i64))] := by
  intro d
  induction d with
  | zero =>
    intro i s c hi h hc hlo
    have : i = m := by omega
    subst this
    rw [List.drop_eq_nil_of_le (by simp; omega)]
    refine ⟨c, ?_, ?_⟩
    · show c = c + ((s.n : Nat) : Int) - _
      omega
    exact pu_x S s s q i i 0 0 c 0 (decide_eq_false (by omega))
  | succ d IH =>
    intro i s c hi h hc hlo
    have h1 := h.n
    have h2 := h.ql
    have h3 := h.r
    have e2 : 0 + (i * 1) = i := by omega
    have ed : (S.take m).drop i = S.getD i 0 :: (S.take m).drop (i + 1) := by
      rw [List.drop_eq_getElem_cons (show i < (S.take m).length by simp; omega)]
      simp [List.getD_eq_getElem?_getD, List.getElem?_eq_getElem (show i < S.length by omega)]
    have hx := put_lost (s := s) (q := q) (S.getD i 0) (by omega)
    have hf : s.f ≤ 65536 := by rcases h.f with h | h <;> omega
    rw [ed]
    simp only [puts, List.foldl_cons]
    by_cases hfu : s.n = q
    · obtain ⟨c2, hc2, k⟩ := IH (i + 1) (s.put q (S.getD i 0)) c (by omega) (put_ok h _) (by omega) (by omega)
      have E := put_full (x := S.getD i 0) hfu
      have en : (s.put q (S.getD i 0)).n = s.n := by rw [E]
      generalize hz : (List.foldl (fun s x => s.put q x) (s.put q (S.getD i 0)) ((S.take m).drop (i + 1))) = z
      rw [puts, hz] at k hc2
      exact ⟨c2, by rw [hc2, en], pu_l S s z q m i 0 0 c c2 (decide_eq_true (by omega)) (by omega) (by omega) (beq_iff_eq.2 (by omega)) (by rw [E]; exact wrap_i64 (by omega)) (by first | (rw [E]; done) | (rw [E]; simp; done) | (rw [E]; rfl)) (by first | (rw [E]; done) | (rw [E]; simp; done) | (rw [E]; rfl)) (by first | (rw [E]; done) | (rw [E]; simp; done) | (rw [E]; rfl)) (by first | (rw [E]; done) | (rw [E]; simp; done) | (rw [E]; rfl)) ((wrap_i64 (by omega)).trans (by simp)) k⟩
    · obtain ⟨c2, hc2, k⟩ := IH (i + 1) (s.put q (S.getD i 0)) (c + 1) (by omega) (put_ok h _) (by omega) (by omega)
      have E := put_not (x := S.getD i 0) hfu
      have en : (s.put q (S.getD i 0)).n = s.n + 1 := by rw [E]
      generalize hz : (List.foldl (fun s x => s.put q x) (s.put q (S.getD i 0)) ((S.take m).drop (i + 1))) = z
      rw [puts, hz] at k hc2
      have hc3 : c2 = c + ((z.n : Nat) : Int) - ((s.n : Nat) : Int) := by rw [hc2, en]; omega
      by_cases hg : s.n < s.R.length
      · rw [grow_not hg] at E
        have hf2 : s.f < s.R.length := by rcases h.f with h | h <;> omega
        exact ⟨c2, hc3, pu_s S s z q m i 0 0 c c2 (decide_eq_true (by omega)) (by omega) (by omega) (beq_eq_false_iff_ne.2 (by omega)) (decide_eq_true (by omega)) (by omega) (by omega) (by have := Nat.mod_lt (s.f + s.n) (show 0 < s.R.length by omega); omega) (by have := Nat.mod_lt (s.f + s.n) (show 0 < s.R.length by omega); simp only [List.length_map]; omega) ((wrap_i64 (by omega)).trans (by simp)) (by first | (rw [E]; done) | (rw [E]; simp; done) | (rw [E]; rfl)) (by first | (rw [E]; done) | (rw [E]; simp; done) | (rw [E]; rfl)) (by first | (rw [E]; done) | (rw [E]; simp; done) | (rw [E]; rfl)) (by first | (rw [E]; done) | (rw [E]; simp; done) | (rw [E]; rfl)) (by rw [E]; simp only [Nat.zero_add, Nat.mul_one, grow_n]; exact setR_ints _ _ _) ((wrap_i64 (by omega)).trans (by simp)) (wrap_i64 (by omega)) k⟩
      · have g1 := grow_room h (by omega)
        have g2 := grow_f h (by omega)
        have g3 := grow_len h
        exact ⟨c2, hc3, pu_g S s z q m i 0 0 c c2 (decide_eq_true (by omega)) (by omega) (by omega) (beq_eq_false_iff_ne.2 (by omega)) h (by omega) hg (by omega) (by omega) (by rw [grow_n]; omega) (by rw [grow_n]; have := Nat.mod_lt ((s.grow q).f + s.n) (show 0 < (s.grow q).R.length by omega); omega) (by rw [grow_n]; have := Nat.mod_lt ((s.grow q).f + s.n) (show 0 < (s.grow q).R.length by omega); simp only [List.length_map]; omega) (by rw [E, grow_lost]) (by rw [E, grow_n]; exact (wrap_i64 (by omega)).trans (by simp)) (by first | (rw [E]; done) | (rw [E]; simp; done) | (rw [E]; rfl)) (by first | (rw [E]; done) | (rw [E]; simp; done) | (rw [E]; rfl)) (by rw [E]; simp only [Nat.zero_add, Nat.mul_one, grow_n]; exact setR_ints _ _ _) ((wrap_i64 (by omega)).trans (by simp)) (wrap_i64 (by omega)) k⟩


theorem ptf (S : List Int) (s z : Q) (q m : Nat) (c2 : Int) (hl : LOK cfg none (lb 9 0) ((.ptr (some (1, 0))) :: u_ :: u_ :: u_ :: u_ :: (.int .i64 0) :: u_ :: u_ :: u_ :: u_ :: (.sl 1 (some (0, 0)) m) :: (.int .i64 ((m : Nat) : Int)) :: (.int .i64 0) :: us 44) [.cells false ((S).map (V.int .i64)), .cells true [(.sl 1 (some (2, 0)) s.R.length), (.int .i64 ((q : Nat) : Int)), (.int .i64 ((s.f : Nat) : Int)), (.int .i64 ((s.n : Nat) : Int)), (.int .i64 s.lost)], .cells true ((s.R).map (V.int .i64))] (.exit 0) (u_ :: u_ :: u_ :: u_ :: u_ :: (.int .i64 c2) :: us 51) [.cells false ((S).map (V.int .i64)), .cells true [(.sl 1 (some (3, 0)) z.R.length), (.int .i64 ((q : Nat) : Int)), (.int .i64 ((z.f : Nat) : Int)), (.int .i64 ((z.n : Nat) : Int)), (.int .i64 z.lost)], .dead, .cells true ((z.R).map (V.int .i64))])  : OK cfg (.fn 9 []) [(.ptr (some (1, 0))), (.sl 1 (some (0, 0)) m)] [.cells false ((S).map (V.int .i64)), .cells true [(.sl 1 (some (2, 0)) s.R.length), (.int .i64 ((q : Nat) : Int)), (.int .i64 ((s.f : Nat) : Int)), (.int .i64 ((s.n : Nat) : Int)), (.int .i64 s.lost)], .cells true ((s.R).map (V.int .i64))] (.int .i64 c2) [.cells false ((S).map (V.int .i64)), .cells true [(.sl 1 (some (3, 0)) z.R.length), (.int .i64 ((q : Nat) : Int)), (.int .i64 ((z.f : Nat) : Int)), (.int .i64 ((z.n : Nat) : Int)), (.int .i64 z.lost)], .dead, .cells true ((z.R).map (V.int .i64))] :=
  ok_fn' hmix (n := 40) (os := [.c, .c, .c, .c, .c, .c, .c, .c, .l (.exit 0) (u_ :: u_ :: u_ :: u_ :: u_ :: (.int .i64 c2) :: us 51) [.cells false ((S).map (V.int .i64)), .cells true [(.sl 1 (some (3, 0)) z.R.length), (.int .i64 ((q : Nat) : Int)), (.int .i64 ((z.f : Nat) : Int)), (.int .i64 ((z.n : Nat) : Int)), (.int .i64 z.lost)], .dead, .cells true ((z.R).map (V.int .i64))], .c, .c]) (by kernel_rfl) (And.intro (Eq.refl true) (And.intro (Eq.refl true) (And.intro (Eq.refl true) (And.intro (Eq.refl true) (And.intro (LOK.at (rd := none) (rd1 := none) (st1 := ((.ptr (some (1, 0))) :: (.sl 1 (some (0, 0)) m) :: (.tup []) :: (.tup []) :: (.int .i64 0) :: (.int .i64 0) :: (.tup []) :: (.tup []) :: (.ptr (some (1, 0))) :: (.bool false) :: (.sl 1 (some (0, 0)) m) :: (.int .i64 ((m : Nat) : Int)) :: (.int .i64 0) :: (.tup []) :: (.tup []) :: (.tup []) :: (.tup []) :: (.tup []) :: (.tup []) :: (.tup []) :: (.tup []) :: (.tup []) :: (.tup []) :: (.tup []) :: (.tup []) :: (.tup []) :: (.tup []) :: (.tup []) :: (.tup []) :: (.tup []) :: (.tup []) :: (.tup []) :: [(.tup []), (.tup []), (.tup []), (.tup []), (.tup []), (.tup []), (.tup []), (.tup []), (.tup []), (.tup []), (.tup []), (.tup []), (.tup []), (.tup []), (.tup []), (.tup []), (.tup []), (.tup []), (.tup []), (.tup []), (.tup []), (.tup []), (.tup []), (.tup []), (.tup [])])) (st1' := (u_ :: u_ :: u_ :: u_ :: u_ :: (.int .i64 c2) :: us 51)) hl [some (0, 0), some (1, 0), some (2, 0)] [some (0, 0), some (1, 0), none, some (3, 0)] [3] [.cells false ((S).map (V.int .i64)), .cells true [(.sl 1 (some (2, 0)) s.R.length), (.int .i64 ((q : Nat) : Int)), (.int .i64 ((s.f : Nat) : Int)), (.int .i64 ((s.n : Nat) : Int)), (.int .i64 s.lost)], .cells true ((s.R).map (V.int .i64))] [.cells false ((S).map (V.int .i64)), .cells true [(.sl 1 (some (3, 0)) z.R.length), (.int .i64 ((q : Nat) : Int)), (.int .i64 ((z.f : Nat) : Int)), (.int .i64 ((z.n : Nat) : Int)), (.int .i64 z.lost)], .dead, .cells true ((z.R).map (V.int .i64))] True.intro (by kernel_rfl) (by kernel_rfl) ⟨⟨0, 0, false, ((S).map (V.int .i64)), rfl, rfl, VEL.get_ro (VEL.plain (plains_map _ (fun _ => rfl) _))⟩, ⟨⟨1, [(.sl 1 (some (2, 0)) s.R.length), (.int .i64 ((q : Nat) : Int)), (.int .i64 ((s.f : Nat) : Int)), (.int .i64 ((s.n : Nat) : Int)), (.int .i64 s.lost)], rfl, rfl, (VEL.ren (by kernel_rfl))⟩, ⟨⟨2, ((s.R).map (V.int .i64)), rfl, rfl, (VEL.plain (plains_map _ (fun _ => rfl) _))⟩, trivial⟩⟩⟩ ⟨.inr (.inl ⟨rfl, by kernel_rfl⟩), ⟨.inr (.inr ⟨1, .cells true [(.sl 1 (some (3, 0)) z.R.length), (.int .i64 ((q : Nat) : Int)), (.int .i64 ((z.f : Nat) : Int)), (.int .i64 ((z.n : Nat) : Int)), (.int .i64 z.lost)], rfl, rfl, (VEL.ren (by kernel_rfl))⟩), ⟨.inl rfl, ⟨.inr (.inr ⟨3, .cells true ((z.R).map (V.int .i64)), rfl, rfl, (VEL.plain (plains_map _ (fun _ => rfl) _))⟩), trivial⟩⟩⟩⟩ (.c (VE.ren (by kernel_rfl)) (.c .q (.c .q (.c .q (.c .q (.c (VE.ren (by kernel_rfl)) (.c .q (.c .q (.c .q (.c .q (.c (VE.ren (by kernel_rfl)) (.c (VE.ren (by kernel_rfl)) (.c (VE.ren (by kernel_rfl)) (VEL.qs (by kernel_rfl))))))))))))))) (VEL.ren (by kernel_rfl))) (And.intro (Eq.refl true) (Eq.refl (((.int .i64 c2) : V), ([.cells false ((S).map (V.int .i64)), .cells true [(.sl 1 (some (3, 0)) z.R.length), (.int .i64 ((q : Nat) : Int)), (.int .i64 ((z.f : Nat) : Int)), (.int .i64 ((z.n : Nat) : Int)), (.int .i64 z.lost)], .dead, .cells true ((z.R).map (V.int .i64))] : Heap)))))))))

theorem ptf' (S : List Int) (s z : Q) (q m : Nat) (c2 : Int) (hl : LOK cfg none (lb 9 0) ((.ptr (some (1, 0))) :: u_ :: u_ :: u_ :: u_ :: (.int .i64 0) :: u_ :: u_ :: u_ :: u_ :: (.sl 1 (some (0, 0)) m) :: (.int .i64 ((m : Nat) : Int)) :: (.int .i64 0) :: us 44) [.cells false ((S).map (V.int .i64)), .cells true [(.sl 1 (some (2, 0)) s.R.length), (.int .i64 ((q : Nat) : Int)), (.int .i64 ((s.f : Nat) : Int)), (.int .i64 ((s.n : Nat) : Int)), (.int .i64 s.lost)], .cells true ((s.R).map (V.int .i64))] (.exit 0) (u_ :: u_ :: u_ :: u_ :: u_ :: (.int .i64 c2) :: us 51) [.cells false ((S).map (V.int .i64)), .cells true [(.sl 1 (some (3, 0)) z.R.length), (.int .i64 ((q : Nat) : Int)), (.int .i64 ((z.f : Nat) : Int)), (.int .i64 ((z.n : Nat) : Int)), (.int .i64 z.lost)], .dead, .cells true ((z.R).map (V.int .i64))])  : OK cfg (.fn 9 []) [(.ptr (some (1, 0))), (.sl 1 (some (0, 0)) m)] [.cells false ((S).map (V.int .i64)), .cells true [(.sl 1 (some (2, 0)) s.R.length), (.int .i64 ((q : Nat) : Int)), (.int .i64 ((s.f : Nat) : Int)), (.int .i64 ((s.n : Nat) : Int)), (.int .i64 s.lost)], .cells true ((s.R).map (V.int .i64))] (.int .i64 c2) [.cells false ((S).map (V.int .i64)), .cells true [(.sl 1 (some (3, 0)) z.R.length), (.int .i64 ((q : Nat) : Int)), (.int .i64 ((z.f : Nat) : Int)), (.int .i64 ((z.n : Nat) : Int)), (.int .i64 z.lost)], .dead, .cells true ((z.R).map (V.int .i64))] :=
  (OK.at (fv1 := (.fn 9 [])) (args1 := [(.ptr (some (1, 0))), (.sl 1 (some (0, 0)) m)]) (v1 := (.int .i64 c2)) (ptf S s z q m c2 hl) [some (0, 0), some (1, 0), some (2, 0)] [some (0, 0), some (1, 0), none, some (3, 0)] [3] [.cells false ((S).map (V.int .i64)), .cells true [(.sl 1 (some (2, 0)) s.R.length), (.int .i64 ((q : Nat) : Int)), (.int .i64 ((s.f : Nat) : Int)), (.int .i64 ((s.n : Nat) : Int)), (.int .i64 s.lost)], .cells true ((s.R).map (V.int .i64))] [.cells false ((S).map (V.int .i64)), .cells true [(.sl 1 (some (3, 0)) z.R.length), (.int .i64 ((q : Nat) : Int)), (.int .i64 ((z.f : Nat) : Int)), (.int .i64 ((z.n : Nat) : Int)), (.int .i64 z.lost)], .dead, .cells true ((z.R).map (V.int .i64))] (by kernel_rfl) (by kernel_rfl) ⟨⟨0, 0, false, ((S).map (V.int .i64)), rfl, rfl, VEL.get_ro (VEL.plain (plains_map _ (fun _ => rfl) _))⟩, ⟨⟨1, [(.sl 1 (some (2, 0)) s.R.length), (.int .i64 ((q : Nat) : Int)), (.int .i64 ((s.f : Nat) : Int)), (.int .i64 ((s.n : Nat) : Int)), (.int .i64 s.lost)], rfl, rfl, (VEL.ren (by kernel_rfl))⟩, ⟨⟨2, ((s.R).map (V.int .i64)), rfl, rfl, (VEL.plain (plains_map _ (fun _ => rfl) _))⟩, trivial⟩⟩⟩ ⟨.inr (.inl ⟨rfl, by kernel_rfl⟩), ⟨.inr (.inr ⟨1, .cells true [(.sl 1 (some (3, 0)) z.R.length), (.int .i64 ((q : Nat) : Int)), (.int .i64 ((z.f : Nat) : Int)), (.int .i64 ((z.n : Nat) : Int)), (.int .i64 z.lost)], rfl, rfl, (VEL.ren (by kernel_rfl))⟩), ⟨.inl rfl, ⟨.inr (.inr ⟨3, .cells true ((z.R).map (V.int .i64)), rfl, rfl, (VEL.plain (plains_map _ (fun _ => rfl) _))⟩), trivial⟩⟩⟩⟩ (VE.ren (by kernel_rfl)) (VEL.ren (by kernel_rfl)) (VE.ren (by kernel_rfl)))


theorem ptn (S : List Int) (z : Q) (q m : Nat) (lo c2 : Int) (hl : LOK cfg none (lb 9 0) ((.ptr (some (1, 0))) :: u_ :: u_ :: u_ :: u_ :: (.int .i64 0) :: u_ :: u_ :: u_ :: u_ :: (.sl 1 (some (0, 0)) m) :: (.int .i64 ((m : Nat) : Int)) :: (.int .i64 0) :: us 44) [.cells false ((S).map (V.int .i64)), .cells true [(.sl 0 none 0), (.int .i64 ((q : Nat) : Int)), (.int .i64 0), (.int .i64 0), (.int .i64 lo)]] (.exit 0) (u_ :: u_ :: u_ :: u_ :: u_ :: (.int .i64 c2) :: us 51) [.cells false ((S).map (V.int .i64)), .cells true [(.sl 1 (some (2, 0)) z.R.length), (.int .i64 ((q : Nat) : Int)), (.int .i64 ((z.f : Nat) : Int)), (.int .i64 ((z.n : Nat) : Int)), (.int .i64 z.lost)], .cells true ((z.R).map (V.int .i64))])  : OK cfg (.fn 9 []) [(.ptr (some (1, 0))), (.sl 1 (some (0, 0)) m)] [.cells false ((S).map (V.int .i64)), .cells true [(.sl 0 none 0), (.int .i64 ((q : Nat) : Int)), (.int .i64 0), (.int .i64 0), (.int .i64 lo)]] (.int .i64 c2) [.cells false ((S).map (V.int .i64)), .cells true [(.sl 1 (some (2, 0)) z.R.length), (.int .i64 ((q : Nat) : Int)), (.int .i64 ((z.f : Nat) : Int)), (.int .i64 ((z.n : Nat) : Int)), (.int .i64 z.lost)], .cells true ((z.R).map (V.int .i64))] :=
  ok_fn' hmix (n := 40) (os := [.c, .c, .c, .c, .c, .c, .c, .c, .l (.exit 0) (u_ :: u_ :: u_ :: u_ :: u_ :: (.int .i64 c2) :: us 51) [.cells false ((S).map (V.int .i64)), .cells true [(.sl 1 (some (2, 0)) z.R.length), (.int .i64 ((q : Nat) : Int)), (.int .i64 ((z.f : Nat) : Int)), (.int .i64 ((z.n : Nat) : Int)), (.int .i64 z.lost)], .cells true ((z.R).map (V.int .i64))], .c, .c]) (by kernel_rfl) (And.intro (Eq.refl true) (And.intro (Eq.refl true) (And.intro (Eq.refl true) (And.intro (Eq.refl true) (And.intro (LOK.at (rd := none) (rd1 := none) (st1 := ((.ptr (some (1, 0))) :: (.sl 1 (some (0, 0)) m) :: (.tup []) :: (.tup []) :: (.int .i64 0) :: (.int .i64 0) :: (.tup []) :: (.tup []) :: (.ptr (some (1, 0))) :: (.bool false) :: (.sl 1 (some (0, 0)) m) :: (.int .i64 ((m : Nat) : Int)) :: (.int .i64 0) :: (.tup []) :: (.tup []) :: (.tup []) :: (.tup []) :: (.tup []) :: (.tup []) :: (.tup []) :: (.tup []) :: (.tup []) :: (.tup []) :: (.tup []) :: (.tup []) :: (.tup []) :: (.tup []) :: (.tup []) :: (.tup []) :: (.tup []) :: (.tup []) :: (.tup []) :: [(.tup []), (.tup []), (.tup []), (.tup []), (.tup []), (.tup []), (.tup []), (.tup []), (.tup []), (.tup []), (.tup []), (.tup []), (.tup []), (.tup []), (.tup []), (.tup []), (.tup []), (.tup []), (.tup []), (.tup []), (.tup []), (.tup []), (.tup []), (.tup []), (.tup [])])) (st1' := (u_ :: u_ :: u_ :: u_ :: u_ :: (.int .i64 c2) :: us 51)) hl [some (0, 0), some (1, 0)] [some (0, 0), some (1, 0), some (2, 0)] [2] [.cells false ((S).map (V.int .i64)), .cells true [(.sl 0 none 0), (.int .i64 ((q : Nat) : Int)), (.int .i64 0), (.int .i64 0), (.int .i64 lo)]] [.cells false ((S).map (V.int .i64)), .cells true [(.sl 1 (some (2, 0)) z.R.length), (.int .i64 ((q : Nat) : Int)), (.int .i64 ((z.f : Nat) : Int)), (.int .i64 ((z.n : Nat) : Int)), (.int .i64 z.lost)], .cells true ((z.R).map (V.int .i64))] True.intro (by kernel_rfl) (by kernel_rfl) ⟨⟨0, 0, false, ((S).map (V.int .i64)), rfl, rfl, VEL.get_ro (VEL.plain (plains_map _ (fun _ => rfl) _))⟩, ⟨⟨1, [(.sl 0 none 0), (.int .i64 ((q : Nat) : Int)), (.int .i64 0), (.int .i64 0), (.int .i64 lo)], rfl, rfl, (VEL.plain (by kernel_rfl))⟩, trivial⟩⟩ ⟨.inr (.inl ⟨rfl, by kernel_rfl⟩), ⟨.inr (.inr ⟨1, .cells true [(.sl 1 (some (2, 0)) z.R.length), (.int .i64 ((q : Nat) : Int)), (.int .i64 ((z.f : Nat) : Int)), (.int .i64 ((z.n : Nat) : Int)), (.int .i64 z.lost)], rfl, rfl, (VEL.ren (by kernel_rfl))⟩), ⟨.inr (.inr ⟨2, .cells true ((z.R).map (V.int .i64)), rfl, rfl, (VEL.plain (plains_map _ (fun _ => rfl) _))⟩), trivial⟩⟩⟩ (.c (VE.ren (by kernel_rfl)) (.c .q (.c .q (.c .q (.c .q (.c (VE.ren (by kernel_rfl)) (.c .q (.c .q (.c .q (.c .q (.c (VE.ren (by kernel_rfl)) (.c (VE.ren (by kernel_rfl)) (.c (VE.ren (by kernel_rfl)) (VEL.qs (by kernel_rfl))))))))))))))) (VEL.ren (by kernel_rfl))) (And.intro (Eq.refl true) (Eq.refl (((.int .i64 c2) : V), ([.cells false ((S).map (V.int .i64)), .cells true [(.sl 1 (some (2, 0)) z.R.length), (.int .i64 ((q : Nat) : Int)), (.int .i64 ((z.f : Nat) : Int)), (.int .i64 ((z.n : Nat) : Int)), (.int .i64 z.lost)], .cells true ((z.R).map (V.int .i64))] : Heap)))))))))

theorem ptn' (S : List Int) (z : Q) (q m : Nat) (lo c2 : Int) (hl : LOK cfg none (lb 9 0) ((.ptr (some (1, 0))) :: u_ :: u_ :: u_ :: u_ :: (.int .i64 0) :: u_ :: u_ :: u_ :: u_ :: (.sl 1 (some (0, 0)) m) :: (.int .i64 ((m : Nat) : Int)) :: (.int .i64 0) :: us 44) [.cells false ((S).map (V.int .i64)), .cells true [(.sl 0 none 0), (.int .i64 ((q : Nat) : Int)), (.int .i64 0), (.int .i64 0), (.int .i64 lo)]] (.exit 0) (u_ :: u_ :: u_ :: u_ :: u_ :: (.int .i64 c2) :: us 51) [.cells false ((S).map (V.int .i64)), .cells true [(.sl 1 (some (2, 0)) z.R.length), (.int .i64 ((q : Nat) : Int)), (.int .i64 ((z.f : Nat) : Int)), (.int .i64 ((z.n : Nat) : Int)), (.int .i64 z.lost)], .cells true ((z.R).map (V.int .i64))])  : OK cfg (.fn 9 []) [(.ptr (some (1, 0))), (.sl 1 (some (0, 0)) m)] [.cells false ((S).map (V.int .i64)), .cells true [(.sl 0 none 0), (.int .i64 ((q : Nat) : Int)), (.int .i64 0), (.int .i64 0), (.int .i64 lo)]] (.int .i64 c2) [.cells false ((S).map (V.int .i64)), .cells true [(.sl 1 (some (2, 0)) z.R.length), (.int .i64 ((q : Nat) : Int)), (.int .i64 ((z.f : Nat) : Int)), (.int .i64 ((z.n : Nat) : Int)), (.int .i64 z.lost)], .cells true ((z.R).map (V.int .i64))] :=
  (OK.at (fv1 := (.fn 9 [])) (args1 := [(.ptr (some (1, 0))), (.sl 1 (some (0, 0)) m)]) (v1 := (.int .i64 c2)) (ptn S z q m lo c2 hl) [some (0, 0), some (1, 0)] [some (0, 0), some (1, 0), some (2, 0)] [2] [.cells false ((S).map (V.int .i64)), .cells true [(.sl 0 none 0), (.int .i64 ((q : Nat) : Int)), (.int .i64 0), (.int .i64 0), (.int .i64 lo)]] [.cells false ((S).map (V.int .i64)), .cells true [(.sl 1 (some (2, 0)) z.R.length), (.int .i64 ((q : Nat) : Int)), (.int .i64 ((z.f : Nat) : Int)), (.int .i64 ((z.n : Nat) : Int)), (.int .i64 z.lost)], .cells true ((z.R).map (V.int .i64))] (by kernel_rfl) (by kernel_rfl) ⟨⟨0, 0, false, ((S).map (V.int .i64)), rfl, rfl, VEL.get_ro (VEL.plain (plains_map _ (fun _ => rfl) _))⟩, ⟨⟨1, [(.sl 0 none 0), (.int .i64 ((q : Nat) : Int)), (.int .i64 0), (.int .i64 0), (.int .i64 lo)], rfl, rfl, (VEL.plain (by kernel_rfl))⟩, trivial⟩⟩ ⟨.inr (.inl ⟨rfl, by kernel_rfl⟩), ⟨.inr (.inr ⟨1, .cells true [(.sl 1 (some (2, 0)) z.R.length), (.int .i64 ((q : Nat) : Int)), (.int .i64 ((z.f : Nat) : Int)), (.int .i64 ((z.n : Nat) : Int)), (.int .i64 z.lost)], rfl, rfl, (VEL.ren (by kernel_rfl))⟩), ⟨.inr (.inr ⟨2, .cells true ((z.R).map (V.int .i64)), rfl, rfl, (VEL.plain (plains_map _ (fun _ => rfl) _))⟩), trivial⟩⟩⟩ (VE.ren (by kernel_rfl)) (VEL.ren (by kernel_rfl)) (VE.ren (by kernel_rfl)))


theorem pz_s (S : List Int) (m i : Nat) (lo lo2 : Int) (h0 : (decide ((((i : Nat) : Int) : Int) < ((m : Nat) : Int))) = true) (h1 : 0 ≤ (((i : Nat) : Int) : Int) ∧ (((i : Nat) : Int) : Int) < ((m : Nat) : Int)) (h2 : (0 + (i * 1)) < (S).length) (h3 : ((IntKind.wrap .i64 (lo + 1)) : Int) = (lo + 1)) (h4 : ((IntKind.wrap .i64 (((i : Nat) : Int) + 1)) : Int) = (((i + 1) : Nat) : Int)) (ih : LOK cfg none (lb 9 0) ((.ptr (some (1, 0))) :: u_ :: u_ :: u_ :: u_ :: (.int .i64 0) :: u_ :: u_ :: u_ :: u_ :: (.sl 1 (some (0, 0)) m) :: (.int .i64 ((m : Nat) : Int)) :: (.int .i64 (((i + 1) : Nat) : Int)) :: us 44) [.cells false ((S).map (V.int .i64)), .cells true [(.sl 0 none 0), (.int .i64 0), (.int .i64 0), (.int .i64 0), (.int .i64 (lo + 1))]] (.exit 0) (u_ :: u_ :: u_ :: u_ :: u_ :: (.int .i64 0) :: us 51) [.cells false ((S).map (V.int .i64)), .cells true [(.sl 0 none 0), (.int .i64 0), (.int .i64 0), (.int .i64 0), (.int .i64 lo2)]]) : LOK cfg none (lb 9 0) ((.ptr (some (1, 0))) :: u_ :: u_ :: u_ :: u_ :: (.int .i64 0) :: u_ :: u_ :: u_ :: u_ :: (.sl 1 (some (0, 0)) m) :: (.int .i64 ((m : Nat) : Int)) :: (.int .i64 ((i : Nat) : Int)) :: us 44) [.cells false ((S).map (V.int .i64)), .cells true [(.sl 0 none 0), (.int .i64 0), (.int .i64 0), (.int .i64 0), (.int .i64 lo)]] (.exit 0) (u_ :: u_ :: u_ :: u_ :: u_ :: (.int .i64 0) :: us 51) [.cells false ((S).map (V.int .i64)), .cells true [(.sl 0 none 0), (.int .i64 0), (.int .i64 0), (.int .i64 0), (.int .i64 lo2)]] :=
  (LOK.step (cok_of' hmix (n := 40) (rd := none) (code := (lb 9 0)) (st := ((.ptr (some (1, 0))) :: u_ :: u_ :: u_ :: u_ :: (.int .i64 0) :: u_ :: u_ :: u_ :: u_ :: (.sl 1 (some (0, 0)) m) :: (.int .i64 ((m : Nat) : Int)) :: (.int .i64 ((i : Nat) : Int)) :: us 44)) (H := [.cells false ((S).map (V.int .i64)), .cells true [(.sl 0 none 0), (.int .i64 0), (.int .i64 0), (.int .i64 0), (.int .i64 lo)]]) (os := [.c, .t, .a, .v (.int .i64 ((S).getD (0 + (i * 1)) 0)), .c, .c, .c, .c, .c, .c, .c, .c, .c, .c, .c, .c, .c, .c, .c, .v (.int .i64 (lo + 1)), .c, .c, .c, .c, .c]) (e := .normal) (st' := ((.ptr (some (1, 0))) :: u_ :: u_ :: u_ :: u_ :: (.int .i64 0) :: u_ :: (.int .i64 ((S).getD (0 + (i * 1)) 0)) :: u_ :: u_ :: (.sl 1 (some (0, 0)) m) :: (.int .i64 ((m : Nat) : Int)) :: (.int .i64 (IntKind.wrap .i64 (((i : Nat) : Int) + 1))) :: (.bool (decide ((((i : Nat) : Int) : Int) < ((m : Nat) : Int)))) :: (.ptr (some (0, (0 + (i * 1))))) :: (.int .i64 ((S).getD (0 + (i * 1)) 0)) :: (.ptr (some (1, 0))) :: (.ptr (some (1, 0))) :: (.ptr (some (1, 3))) :: (.int .i64 0) :: (.ptr (some (1, 0))) :: (.ptr (some (1, 0))) :: (.ptr (some (1, 1))) :: (.int .i64 0) :: (.bool true) :: (.ptr (some (1, 0))) :: (.ptr (some (1, 0))) :: (.ptr (some (1, 4))) :: (.int .i64 lo) :: (.int .i64 (lo + 1)) :: (.ptr (some (1, 0))) :: (.ptr (some (1, 4))) :: [u_, u_, u_, u_, u_, u_, u_, u_, u_, u_, u_, u_, u_, u_, u_, u_, u_, u_, u_, u_, u_, u_, u_, (.int .i64 (IntKind.wrap .i64 (((i : Nat) : Int) + 1))), u_])) (H' := [.cells false ((S).map (V.int .i64)), .cells true [(.sl 0 none 0), (.int .i64 0), (.int .i64 0), (.int .i64 0), (.int .i64 (lo + 1))]]) (by kernel_rfl) (And.intro (Eq.refl true) (And.intro h0 (And.intro h1 (And.intro (ld_int (k := .i64) h2) (And.intro (Eq.refl true) (And.intro (Eq.refl true) (And.intro (Eq.refl true) (And.intro (fix_int (k := .i64) (H := [.cells false ((S).map (V.int .i64)), .cells true [(.sl 0 none 0), (.int .i64 0), (.int .i64 0), (.int .i64 0), (.int .i64 lo)]]) h3) (And.intro (Eq.refl true) (And.intro (Eq.refl true) (Eq.refl (Ex.normal, (((.ptr (some (1, 0))) :: u_ :: u_ :: u_ :: u_ :: (.int .i64 0) :: u_ :: (.int .i64 ((S).getD (0 + (i * 1)) 0)) :: u_ :: u_ :: (.sl 1 (some (0, 0)) m) :: (.int .i64 ((m : Nat) : Int)) :: (.int .i64 (IntKind.wrap .i64 (((i : Nat) : Int) + 1))) :: (.bool (decide ((((i : Nat) : Int) : Int) < ((m : Nat) : Int)))) :: (.ptr (some (0, (0 + (i * 1))))) :: (.int .i64 ((S).getD (0 + (i * 1)) 0)) :: (.ptr (some (1, 0))) :: (.ptr (some (1, 0))) :: (.ptr (some (1, 3))) :: (.int .i64 0) :: (.ptr (some (1, 0))) :: (.ptr (some (1, 0))) :: (.ptr (some (1, 1))) :: (.int .i64 0) :: (.bool true) :: (.ptr (some (1, 0))) :: (.ptr (some (1, 0))) :: (.ptr (some (1, 4))) :: (.int .i64 lo) :: (.int .i64 (lo + 1)) :: (.ptr (some (1, 0))) :: (.ptr (some (1, 4))) :: [u_, u_, u_, u_, u_, u_, u_, u_, u_, u_, u_, u_, u_, u_, u_, u_, u_, u_, u_, u_, u_, u_, u_, (.int .i64 (IntKind.wrap .i64 (((i : Nat) : Int) + 1))), u_]) : St), ([.cells false ((S).map (V.int .i64)), .cells true [(.sl 0 none 0), (.int .i64 0), (.int .i64 0), (.int .i64 0), (.int .i64 (lo + 1))]] : Heap)))))))))))))) (LOK.at (rd := none) (rd1 := none) (st1 := ((.ptr (some (1, 0))) :: u_ :: u_ :: u_ :: u_ :: (.int .i64 0) :: u_ :: (.int .i64 ((S).getD (0 + (i * 1)) 0)) :: u_ :: u_ :: (.sl 1 (some (0, 0)) m) :: (.int .i64 ((m : Nat) : Int)) :: (.int .i64 (IntKind.wrap .i64 (((i : Nat) : Int) + 1))) :: (.bool (decide ((((i : Nat) : Int) : Int) < ((m : Nat) : Int)))) :: (.ptr (some (0, (0 + (i * 1))))) :: (.int .i64 ((S).getD (0 + (i * 1)) 0)) :: (.ptr (some (1, 0))) :: (.ptr (some (1, 0))) :: (.ptr (some (1, 3))) :: (.int .i64 0) :: (.ptr (some (1, 0))) :: (.ptr (some (1, 0))) :: (.ptr (some (1, 1))) :: (.int .i64 0) :: (.bool true) :: (.ptr (some (1, 0))) :: (.ptr (some (1, 0))) :: (.ptr (some (1, 4))) :: (.int .i64 lo) :: (.int .i64 (lo + 1)) :: (.ptr (some (1, 0))) :: (.ptr (some (1, 4))) :: [u_, u_, u_, u_, u_, u_, u_, u_, u_, u_, u_, u_, u_, u_, u_, u_, u_, u_, u_, u_, u_, u_, u_, (.int .i64 (IntKind.wrap .i64 (((i : Nat) : Int) + 1))), u_])) (st1' := (u_ :: u_ :: u_ :: u_ :: u_ :: (.int .i64 0) :: us 51)) ih [some (0, 0), some (1, 0)] [some (0, 0), some (1, 0)] [] [.cells false ((S).map (V.int .i64)), .cells true [(.sl 0 none 0), (.int .i64 0), (.int .i64 0), (.int .i64 0), (.int .i64 (lo + 1))]] [.cells false ((S).map (V.int .i64)), .cells true [(.sl 0 none 0), (.int .i64 0), (.int .i64 0), (.int .i64 0), (.int .i64 lo2)]] True.intro (by kernel_rfl) (by kernel_rfl) ⟨⟨0, 0, false, ((S).map (V.int .i64)), rfl, rfl, VEL.get_ro (VEL.plain (plains_map _ (fun _ => rfl) _))⟩, ⟨⟨1, [(.sl 0 none 0), (.int .i64 0), (.int .i64 0), (.int .i64 0), (.int .i64 (lo + 1))], rfl, rfl, (VEL.plain (by kernel_rfl))⟩, trivial⟩⟩ ⟨.inr (.inl ⟨rfl, by kernel_rfl⟩), ⟨.inr (.inr ⟨1, .cells true [(.sl 0 none 0), (.int .i64 0), (.int .i64 0), (.int .i64 0), (.int .i64 lo2)], rfl, rfl, (VEL.plain (by kernel_rfl))⟩), trivial⟩⟩ (.c (VE.ren (by kernel_rfl)) (.c .u (.c .u (.c .u (.c .u (.c (VE.ren (by kernel_rfl)) (.c .u (.c .q (.c .u (.c .u (.c (VE.ren (by kernel_rfl)) (.c (VE.ren (by kernel_rfl)) (.c (VE.eqI h4) (VEL.qs (by kernel_rfl))))))))))))))) (VEL.ren (by kernel_rfl))))


theorem pz_x (S : List Int) (m i : Nat) (lo lo2 : Int) (h0 : (decide ((((i : Nat) : Int) : Int) < ((m : Nat) : Int))) = false) : LOK cfg none (lb 9 0) ((.ptr (some (1, 0))) :: u_ :: u_ :: u_ :: u_ :: (.int .i64 0) :: u_ :: u_ :: u_ :: u_ :: (.sl 1 (some (0, 0)) m) :: (.int .i64 ((m : Nat) : Int)) :: (.int .i64 ((i : Nat) : Int)) :: us 44) [.cells false ((S).map (V.int .i64)), .cells true [(.sl 0 none 0), (.int .i64 0), (.int .i64 0), (.int .i64 0), (.int .i64 lo)]] (.exit 0) (u_ :: u_ :: u_ :: u_ :: u_ :: (.int .i64 0) :: us 51) [.cells false ((S).map (V.int .i64)), .cells true [(.sl 0 none 0), (.int .i64 0), (.int .i64 0), (.int .i64 0), (.int .i64 lo)]] :=
  (LOK.re (st1' := (u_ :: u_ :: u_ :: u_ :: u_ :: (.int .i64 0) :: us 51)) (LOK.exit (cok_of' hmix (n := 40) (rd := none) (code := (lb 9 0)) (st := ((.ptr (some (1, 0))) :: u_ :: u_ :: u_ :: u_ :: (.int .i64 0) :: u_ :: u_ :: u_ :: u_ :: (.sl 1 (some (0, 0)) m) :: (.int .i64 ((m : Nat) : Int)) :: (.int .i64 ((i : Nat) : Int)) :: us 44)) (H := [.cells false ((S).map (V.int .i64)), .cells true [(.sl 0 none 0), (.int .i64 0), (.int .i64 0), (.int .i64 0), (.int .i64 lo)]]) (os := [.c, .f]) (e := (.exit 0)) (st' := ((.ptr (some (1, 0))) :: u_ :: u_ :: u_ :: u_ :: (.int .i64 0) :: u_ :: u_ :: u_ :: u_ :: (.sl 1 (some (0, 0)) m) :: (.int .i64 ((m : Nat) : Int)) :: (.int .i64 ((i : Nat) : Int)) :: (.bool (decide ((((i : Nat) : Int) : Int) < ((m : Nat) : Int)))) :: us 43)) (H' := [.cells false ((S).map (V.int .i64)), .cells true [(.sl 0 none 0), (.int .i64 0), (.int .i64 0), (.int .i64 0), (.int .i64 lo)]]) (by kernel_rfl) (And.intro (Eq.refl true) (And.intro h0 (Eq.refl (((.exit 0) : Ex), (((.ptr (some (1, 0))) :: u_ :: u_ :: u_ :: u_ :: (.int .i64 0) :: u_ :: u_ :: u_ :: u_ :: (.sl 1 (some (0, 0)) m) :: (.int .i64 ((m : Nat) : Int)) :: (.int .i64 ((i : Nat) : Int)) :: (.bool (decide ((((i : Nat) : Int) : Int) < ((m : Nat) : Int)))) :: us 43) : St), ([.cells false ((S).map (V.int .i64)), .cells true [(.sl 0 none 0), (.int .i64 0), (.int .i64 0), (.int .i64 0), (.int .i64 lo)]] : Heap)))))) rfl) [some (0, 0), some (1, 0)] [some (0, 0), some (1, 0)] [] [.cells false ((S).map (V.int .i64)), .cells true [(.sl 0 none 0), (.int .i64 0), (.int .i64 0), (.int .i64 0), (.int .i64 lo)]] True.intro (by kernel_rfl) (by kernel_rfl) ⟨⟨0, 0, false, ((S).map (V.int .i64)), rfl, rfl, VEL.get_ro (VEL.plain (plains_map _ (fun _ => rfl) _))⟩, ⟨⟨1, [(.sl 0 none 0), (.int .i64 0), (.int .i64 0), (.int .i64 0), (.int .i64 lo)], rfl, rfl, (VEL.plain (by kernel_rfl))⟩, trivial⟩⟩ ⟨.inr (.inl ⟨rfl, by kernel_rfl⟩), ⟨.inr (.inr ⟨1, .cells true [(.sl 0 none 0), (.int .i64 0), (.int .i64 0), (.int .i64 0), (.int .i64 lo)], rfl, rfl, (VEL.plain (by kernel_rfl))⟩), trivial⟩⟩ (VEL.ren (by kernel_rfl)) (.c .dr (.c .u (.c .u (.c .u (.c .u (.c (VE.ren (by kernel_rfl)) (.c .u (.c .u (.c .u (.c .u (.c .dr (.c .dr (.c .dr (.c .dr (VEL.us' 43))))))))))))))))


theorem ptz (S : List Int) (m : Nat) (lo lo2 : Int) (hl : LOK cfg none (lb 9 0) ((.ptr (some (1, 0))) :: u_ :: u_ :: u_ :: u_ :: (.int .i64 0) :: u_ :: u_ :: u_ :: u_ :: (.sl 1 (some (0, 0)) m) :: (.int .i64 ((m : Nat) : Int)) :: (.int .i64 0) :: us 44) [.cells false ((S).map (V.int .i64)), .cells true [(.sl 0 none 0), (.int .i64 0), (.int .i64 0), (.int .i64 0), (.int .i64 lo)]] (.exit 0) (u_ :: u_ :: u_ :: u_ :: u_ :: (.int .i64 0) :: us 51) [.cells false ((S).map (V.int .i64)), .cells true [(.sl 0 none 0), (.int .i64 0), (.int .i64 0), (.int .i64 0), (.int .i64 lo2)]])  : OK cfg (.fn 9 []) [(.ptr (some (1, 0))), (.sl 1 (some (0, 0)) m)] [.cells false ((S).map (V.int .i64)), .cells true [(.sl 0 none 0), (.int .i64 0), (.int .i64 0), (.int .i64 0), (.int .i64 lo)]] (.int .i64 0) [.cells false ((S).map (V.int .i64)), .cells true [(.sl 0 none 0), (.int .i64 0), (.int .i64 0), (.int .i64 0), (.int .i64 lo2)]] :=
  ok_fn' hmix (n := 40) (os := [.c, .c, .c, .c, .c, .c, .c, .c, .l (.exit 0) (u_ :: u_ :: u_ :: u_ :: u_ :: (.int .i64 0) :: us 51) [.cells false ((S).map (V.int .i64)), .cells true [(.sl 0 none 0), (.int .i64 0), (.int .i64 0), (.int .i64 0), (.int .i64 lo2)]], .c, .c]) (by kernel_rfl) (And.intro (Eq.refl true) (And.intro (Eq.refl true) (And.intro (Eq.refl true) (And.intro (Eq.refl true) (And.intro (LOK.at (rd := none) (rd1 := none) (st1 := ((.ptr (some (1, 0))) :: (.sl 1 (some (0, 0)) m) :: (.tup []) :: (.tup []) :: (.int .i64 0) :: (.int .i64 0) :: (.tup []) :: (.tup []) :: (.ptr (some (1, 0))) :: (.bool false) :: (.sl 1 (some (0, 0)) m) :: (.int .i64 ((m : Nat) : Int)) :: (.int .i64 0) :: (.tup []) :: (.tup []) :: (.tup []) :: (.tup []) :: (.tup []) :: (.tup []) :: (.tup []) :: (.tup []) :: (.tup []) :: (.tup []) :: (.tup []) :: (.tup []) :: (.tup []) :: (.tup []) :: (.tup []) :: (.tup []) :: (.tup []) :: (.tup []) :: (.tup []) :: [(.tup []), (.tup []), (.tup []), (.tup []), (.tup []), (.tup []), (.tup []), (.tup []), (.tup []), (.tup []), (.tup []), (.tup []), (.tup []), (.tup []), (.tup []), (.tup []), (.tup []), (.tup []), (.tup []), (.tup []), (.tup []), (.tup []), (.tup []), (.tup []), (.tup [])])) (st1' := (u_ :: u_ :: u_ :: u_ :: u_ :: (.int .i64 0) :: us 51)) hl [some (0, 0), some (1, 0)] [some (0, 0), some (1, 0)] [] [.cells false ((S).map (V.int .i64)), .cells true [(.sl 0 none 0), (.int .i64 0), (.int .i64 0), (.int .i64 0), (.int .i64 lo)]] [.cells false ((S).map (V.int .i64)), .cells true [(.sl 0 none 0), (.int .i64 0), (.int .i64 0), (.int .i64 0), (.int .i64 lo2)]] True.intro (by kernel_rfl) (by kernel_rfl) ⟨⟨0, 0, false, ((S).map (V.int .i64)), rfl, rfl, VEL.get_ro (VEL.plain (plains_map _ (fun _ => rfl) _))⟩, ⟨⟨1, [(.sl 0 none 0), (.int .i64 0), (.int .i64 0), (.int .i64 0), (.int .i64 lo)], rfl, rfl, (VEL.plain (by kernel_rfl))⟩, trivial⟩⟩ ⟨.inr (.inl ⟨rfl, by kernel_rfl⟩), ⟨.inr (.inr ⟨1, .cells true [(.sl 0 none 0), (.int .i64 0), (.int .i64 0), (.int .i64 0), (.int .i64 lo2)], rfl, rfl, (VEL.plain (by kernel_rfl))⟩), trivial⟩⟩ (.c (VE.ren (by kernel_rfl)) (.c .q (.c .q (.c .q (.c .q (.c (VE.ren (by kernel_rfl)) (.c .q (.c .q (.c .q (.c .q (.c (VE.ren (by kernel_rfl)) (.c (VE.ren (by kernel_rfl)) (.c (VE.ren (by kernel_rfl)) (VEL.qs (by kernel_rfl))))))))))))))) (VEL.ren (by kernel_rfl))) (And.intro (Eq.refl true) (Eq.refl (((.int .i64 0) : V), ([.cells false ((S).map (V.int .i64)), .cells true [(.sl 0 none 0), (.int .i64 0), (.int .i64 0), (.int .i64 0), (.int .i64 lo2)]] : Heap)))))))))

theorem ptz' (S : List Int) (m : Nat) (lo lo2 : Int) (hl : LOK cfg none (lb 9 0) ((.ptr (some (1, 0))) :: u_ :: u_ :: u_ :: u_ :: (.int .i64 0) :: u_ :: u_ :: u_ :: u_ :: (.sl 1 (some (0, 0)) m) :: (.int .i64 ((m : Nat) : Int)) :: (.int .i64 0) :: us 44) [.cells false ((S).map (V.int .i64)), .cells true [(.sl 0 none 0), (.int .i64 0), (.int .i64 0), (.int .i64 0), (.int .i64 lo)]] (.exit 0) (u_ :: u_ :: u_ :: u_ :: u_ :: (.int .i64 0) :: us 51) [.cells false ((S).map (V.int .i64)), .cells true [(.sl 0 none 0), (.int .i64 0), (.int .i64 0), (.int .i64 0), (.int .i64 lo2)]])  : OK cfg (.fn 9 []) [(.ptr (some (1, 0))), (.sl 1 (some (0, 0)) m)] [.cells false ((S).map (V.int .i64)), .cells true [(.sl 0 none 0), (.int .i64 0), (.int .i64 0), (.int .i64 0), (.int .i64 lo)]] (.int .i64 0) [.cells false ((S).map (V.int .i64)), .cells true [(.sl 0 none 0), (.int .i64 0), (.int .i64 0), (.int .i64 0), (.int .i64 lo2)]] :=
  (OK.at (fv1 := (.fn 9 [])) (args1 := [(.ptr (some (1, 0))), (.sl 1 (some (0, 0)) m)]) (v1 := (.int .i64 0)) (ptz S m lo lo2 hl) [some (0, 0), some (1, 0)] [some (0, 0), some (1, 0)] [] [.cells false ((S).map (V.int .i64)), .cells true [(.sl 0 none 0), (.int .i64 0), (.int .i64 0), (.int .i64 0), (.int .i64 lo)]] [.cells false ((S).map (V.int .i64)), .cells true [(.sl 0 none 0), (.int .i64 0), (.int .i64 0), (.int .i64 0), (.int .i64 lo2)]] (by kernel_rfl) (by kernel_rfl) ⟨⟨0, 0, false, ((S).map (V.int .i64)), rfl, rfl, VEL.get_ro (VEL.plain (plains_map _ (fun _ => rfl) _))⟩, ⟨⟨1, [(.sl 0 none 0), (.int .i64 0), (.int .i64 0), (.int .i64 0), (.int .i64 lo)], rfl, rfl, (VEL.plain (by kernel_rfl))⟩, trivial⟩⟩ ⟨.inr (.inl ⟨rfl, by kernel_rfl⟩), ⟨.inr (.inr ⟨1, .cells true [(.sl 0 none 0), (.int .i64 0), (.int .i64 0), (.int .i64 0), (.int .i64 lo2)], rfl, rfl, (VEL.plain (by kernel_rfl))⟩), trivial⟩⟩ (VE.ren (by kernel_rfl)) (VEL.ren (by kernel_rfl)) (VE.ren (by kernel_rfl)))

theorem put_ff (S : List Int) (s z : Q) (q m k : Nat) (h : s.Ok q) (hm : m ≤ S.length) (h30 : m ≤ 1000) (hb : q ≤ 65536) (hlo : 0 ≤ s.lost ∧ s.lost ≤ 50000) (hz : z = puts q s (S.take m)) (hk : z.n = s.n + k) : OK cfg (.fn 9 []) [.ptr (some (1, 0)), .sl 1 (some (0, 0)) m] [.cells false ((S).map (V.int .i64)), .cells true [(.sl 1 (some (2, 0)) s.R.length), (.int .i64 ((q : Nat) : Int)), (.int .i64 ((s.f : Nat) : Int)), (.int .i64 ((s.n : Nat) : Int)), (.int .i64 s.lost)], .cells true ((s.R).map (V.int .i64))] (.int .i64 ((k : Nat) : Int)) [.cells false ((S).map (V.int .i64)), .cells true [(.sl 1 (some (3, 0)) z.R.length), (.int .i64 ((q : Nat) : Int)), (.int .i64 ((z.f : Nat) : Int)), (.int .i64 ((z.n : Nat) : Int)), (.int .i64 z.lost)], .dead, .cells true ((z.R).map (V.int .i64))] := by
  obtain ⟨c2, e, kk⟩ := pu_all2 S q m hm h30 hb m 0 s 0 (by omega) h (by omega) (by omega)
  rw [List.drop_zero, ← hz] at kk e
  have : c2 = ((k : Nat) : Int) := by rw [e]; omega
  subst this
  exact ptf' S s z q m _ kk
theorem put_nf (S : List Int) (z : Q) (q m k : Nat) (lo : Int) (hq : q ≠ 0) (h0 : m ≠ 0) (hm : m ≤ S.length) (h30 : m ≤ 1000) (hb : q ≤ 65536) (hlo : 0 ≤ lo ∧ lo ≤ 50000) (hz : z = puts q ⟨[], 0, 0, lo⟩ (S.take m)) (hk : z.n = k) : OK cfg (.fn 9 []) [.ptr (some (1, 0)), .sl 1 (some (0, 0)) m] [.cells false ((S).map (V.int .i64)), .cells true [(.sl 0 none 0), (.int .i64 ((q : Nat) : Int)), (.int .i64 0), (.int .i64 0), (.int .i64 lo)]] (.int .i64 ((k : Nat) : Int)) [.cells false ((S).map (V.int .i64)), .cells true [(.sl 1 (some (2, 0)) z.R.length), (.int .i64 ((q : Nat) : Int)), (.int .i64 ((z.f : Nat) : Int)), (.int .i64 ((z.n : Nat) : Int)), (.int .i64 z.lost)], .cells true ((z.R).map (V.int .i64))] := by
  have hN : (⟨[], 0, 0, lo⟩ : Q).Ok q := ⟨by simp, .inl ⟨rfl, rfl⟩, by simp, by simp⟩
  have E : Q.put ⟨[], 0, 0, lo⟩ q (S.getD 0 0) = ⟨[S.getD 0 0], 0, 1, lo⟩ := by
    rw [put_not (show (⟨[], 0, 0, lo⟩ : Q).n ≠ q by simp; omega)]
    have hm1 : min 1 q = 1 := by omega
    simp [Q.grow, cp, hm1]
  have ed : S.take m = S.getD 0 0 :: (S.take m).drop 1 := by
    have := List.drop_eq_getElem_cons (show 0 < (S.take m).length by simp; omega)
    rw [List.drop_zero] at this
    rw [this]
    simp [List.getD_eq_getElem?_getD, List.getElem?_eq_getElem (show 0 < S.length by omega)]
  obtain ⟨c2, e, kk⟩ := pu_all2 S q m hm h30 hb (m - 1) 1 (Q.put ⟨[], 0, 0, lo⟩ q (S.getD 0 0)) 1 (by omega) (put_ok hN _) (by omega) (by rw [E]; simp only; omega)
  have ez : puts q (Q.put ⟨[], 0, 0, lo⟩ q (S.getD 0 0)) ((S.take m).drop 1) = z := by
    rw [hz]
    conv => rhs; rw [ed]
    rfl
  rw [ez] at kk e
  have : c2 = ((k : Nat) : Int) := by rw [e, E]; simp only; omega
  subst this
  exact ptn' S z q m lo _ (pu_n S ⟨[], 0, 0, lo⟩ z q m 0 0 lo 0 _ (decide_eq_true (by omega)) (by omega) (by omega) (beq_eq_false_iff_ne.2 (by omega)) (if_neg (by omega)) (by rw [E]) (by rw [E]; rfl) (by rw [E]; rfl) (by rw [E]; rfl) (by rw [E]; rfl) (by decide) (by decide) kk)
theorem pz_all (S : List Int) (m : Nat) (hm : m ≤ S.length) (h30 : m ≤ 1000) : ∀ (d i : Nat) (lo : Int), i + d = m → 0 ≤ lo ∧ lo ≤ 50000 + i → LOK cfg none (lb 9 0) ((.ptr (some (1, 0))) :: u_ :: u_ :: u_ :: u_ :: (.int .i64 0) :: u_ :: u_ :: u_ :: u_ :: (.sl 1 (some (0, 0)) m) :: (.int .i64 ((m : Nat) : Int)) :: (.int .i64 ((i : Nat) : Int)) :: us 44) [.cells false ((S).map (V.int .i64)), .cells true [(.sl 0 none 0), (.int .i64 0), (.int .i64 0), (.int .i64 0), (.int .i64 lo)]] (.exit 0) (u_ :: u_ :: u_ :: u_ :: u_ :: (.int .i64 0) :: us 51) [.cells false ((S).map (V.int .i64)), .cells true [(.sl 0 none 0), (.int .i64 0), (.int .i64 0), (.int .i64 0), (.int .i64 (lo + ((d : Nat) : Int)))]] := by
  intro d
  induction d with
  | zero =>
    intro i lo hi hlo
    have : i = m := by omega
    subst this
    rw [show lo + ((0 : Nat) : Int) = lo by omega]
    exact pz_x S i i lo 0 (decide_eq_false (by omega))
  | succ d IH =>
    intro i lo hi hlo
    have k := IH (i + 1) (lo + 1) (by omega) (by omega)
    rw [show lo + 1 + ((d : Nat) : Int) = lo + ((d + 1 : Nat) : Int) by omega] at k
    exact pz_s S m i lo _ (decide_eq_true (by omega)) (by omega) (by omega) (wrap_i64 (by omega)) ((wrap_i64 (by omega)).trans (by simp)) k
theorem put_zz (S : List Int) (m : Nat) (lo : Int) (hm : m ≤ S.length) (h30 : m ≤ 1000) (hlo : 0 ≤ lo ∧ lo ≤ 50000) : OK cfg (.fn 9 []) [.ptr (some (1, 0)), .sl 1 (some (0, 0)) m] [.cells false ((S).map (V.int .i64)), .cells true [(.sl 0 none 0), (.int .i64 0), (.int .i64 0), (.int .i64 0), (.int .i64 lo)]] (.int .i64 0) [.cells false ((S).map (V.int .i64)), .cells true [(.sl 0 none 0), (.int .i64 0), (.int .i64 0), (.int .i64 0), (.int .i64 (lo + ((m : Nat) : Int)))]] :=
  ptz' S m lo _ (pz_all S m hm h30 m 0 lo (by omega) (by omega))
theorem put_ff0 (S : List Int) (s z : Q) (q m : Nat) (h : s.Ok q) (hm : m ≤ S.length) (h30 : m ≤ 1000) (hb : q ≤ 65536) (hlo : 0 ≤ s.lost ∧ s.lost ≤ 50000) (hz : z = puts q s (S.take m)) (hk : z.n = s.n) : OK cfg (.fn 9 []) [.ptr (some (1, 0)), .sl 1 (some (0, 0)) m] [.cells false ((S).map (V.int .i64)), .cells true [(.sl 1 (some (2, 0)) s.R.length), (.int .i64 ((q : Nat) : Int)), (.int .i64 ((s.f : Nat) : Int)), (.int .i64 ((s.n : Nat) : Int)), (.int .i64 s.lost)], .cells true ((s.R).map (V.int .i64))] (.int .i64 0) [.cells false ((S).map (V.int .i64)), .cells true [(.sl 1 (some (3, 0)) z.R.length), (.int .i64 ((q : Nat) : Int)), (.int .i64 ((z.f : Nat) : Int)), (.int .i64 ((z.n : Nat) : Int)), (.int .i64 z.lost)], .dead, .cells true ((z.R).map (V.int .i64))] := put_ff S s z q m 0 h hm h30 hb hlo hz hk

end Go.Proofs.Ytklnecknoadhjaa.fifo
