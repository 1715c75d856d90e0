/-
  What becomes of a queue while it is ranged over plays no part: the law; ways printed by ps.py, checked by the kernel.
-/
import Derived.Test.YtklnecknoadhjaaFf5
set_option linter.unusedVariables false
set_option linter.unusedSimpArgs false
set_option maxRecDepth 100000
namespace Go.Proofs.Ytklnecknoadhjaa.fifo
open Go Go.Vm Go.Ring

theorem li_all (s : Q) (q : Nat) (h : s.Ok q) (hb : q ≤ 65536) (hr : s.R.length ≠ 0) : ∀ (d j : Nat), j + d = s.n → 1 ≤ j → LOK cfg none (lb 37 0) ((.ptr (some (0, 0))) :: u_ :: u_ :: (.sl 1 (some (2, 0)) ((List.range j).map s.at).length) :: u_ :: u_ :: (i6 ((s.n : Nat) : Int)) :: (i6 ((j : Nat) : Int)) :: us 16) [.cells true [(.sl 1 (some (1, 0)) s.R.length), (i6 ((q : Nat) : Int)), (i6 ((s.f : Nat) : Int)), (i6 ((s.n : Nat) : Int)), (i6 s.lost)], .cells true ((s.R).map (V.int .i64)), .cells true ((((List.range j).map s.at)).map (V.int .i64))] (.exit 0) (u_ :: u_ :: u_ :: (.sl 1 (some (3, 0)) s.list.length) :: us 20) [.cells true [(.sl 1 (some (1, 0)) s.R.length), (i6 ((q : Nat) : Int)), (i6 ((s.f : Nat) : Int)), (i6 ((s.n : Nat) : Int)), (i6 s.lost)], .cells true ((s.R).map (V.int .i64)), .dead, .cells true ((s.list).map (V.int .i64))] := by
  have h1 := h.n
  have h3 := h.r
  have hf : s.f < s.R.length := by rcases h.f with h | h <;> omega
  intro d
  induction d with
  | zero =>
    intro j hj h0
    have : j = s.n := by omega
    subst this
    exact li_x s q _ [] s.n (decide_eq_false (by omega))
  | succ d IH =>
    intro j hj h0
    have k := IH (j + 1) (by omega) (by omega)
    rw [List.range_succ, List.map_append] at k
    have hO : ((List.range j).map s.at).length = j := by simp
    exact li_f s q ((List.range j).map s.at) _ j (decide_eq_true (by omega)) (by omega) (by omega) (by have := Nat.mod_lt (s.f + j) (show 0 < s.R.length by omega); omega) (by have := Nat.mod_lt (s.f + j) (show 0 < s.R.length by omega); omega) (by omega) (by simp) (by simp [Q.at]) ((wrap_i64 (by omega)).trans (by simp)) (by simp) k
theorem li_n0 (s : Q) (q : Nat) (h1 : s.n ≤ s.R.length) (h3 : s.R.length ≤ q) (hf : s.f < s.R.length) (hb : q ≤ 65536) (hn : 0 < s.n) (k : LOK cfg none (lb 37 0) ((.ptr (some (0, 0))) :: u_ :: u_ :: (.sl 1 (some (2, 0)) [s.at 0].length) :: u_ :: u_ :: (i6 ((s.n : Nat) : Int)) :: (i6 (((0 + 1) : Nat) : Int)) :: us 16) [.cells true [(.sl 1 (some (1, 0)) s.R.length), (i6 ((q : Nat) : Int)), (i6 ((s.f : Nat) : Int)), (i6 ((s.n : Nat) : Int)), (i6 s.lost)], .cells true ((s.R).map (V.int .i64)), .cells true (([s.at 0]).map (V.int .i64))] (.exit 0) (u_ :: u_ :: u_ :: (.sl 1 (some (3, 0)) s.list.length) :: us 20) [.cells true [(.sl 1 (some (1, 0)) s.R.length), (i6 ((q : Nat) : Int)), (i6 ((s.f : Nat) : Int)), (i6 ((s.n : Nat) : Int)), (i6 s.lost)], .cells true ((s.R).map (V.int .i64)), .dead, .cells true ((s.list).map (V.int .i64))]) : LOK cfg none (lb 37 0) ((.ptr (some (0, 0))) :: u_ :: u_ :: (.sl 0 none 0) :: u_ :: u_ :: (i6 ((s.n : Nat) : Int)) :: (i6 0) :: us 16) [.cells true [(.sl 1 (some (1, 0)) s.R.length), (i6 ((q : Nat) : Int)), (i6 ((s.f : Nat) : Int)), (i6 ((s.n : Nat) : Int)), (i6 s.lost)], .cells true ((s.R).map (V.int .i64))] (.exit 0) (u_ :: u_ :: u_ :: (.sl 1 (some (2, 0)) s.list.length) :: us 20) [.cells true [(.sl 1 (some (1, 0)) s.R.length), (i6 ((q : Nat) : Int)), (i6 ((s.f : Nat) : Int)), (i6 ((s.n : Nat) : Int)), (i6 s.lost)], .cells true ((s.R).map (V.int .i64)), .cells true ((s.list).map (V.int .i64))] := by
  exact li_n s q [] s.list 0 (decide_eq_true (by omega)) (by omega) (by omega) (by have := Nat.mod_lt (s.f + 0) (show 0 < s.R.length by omega); omega) (by have := Nat.mod_lt (s.f + 0) (show 0 < s.R.length by omega); omega) (by simp [Q.at]) ((wrap_i64 (by omega)).trans (by simp)) (by simp) k
theorem list_ok (s : Q) (q : Nat) (h : s.Ok q) (hb : q ≤ 65536) (hn : 0 < s.n) : OK cfg (.fn 37 []) [.ptr (some (0, 0))] [.cells true [(.sl 1 (some (1, 0)) s.R.length), (i6 ((q : Nat) : Int)), (i6 ((s.f : Nat) : Int)), (i6 ((s.n : Nat) : Int)), (i6 s.lost)], .cells true ((s.R).map (V.int .i64))] (.sl 1 (some (2, 0)) s.list.length) [.cells true [(.sl 1 (some (1, 0)) s.R.length), (i6 ((q : Nat) : Int)), (i6 ((s.f : Nat) : Int)), (i6 ((s.n : Nat) : Int)), (i6 s.lost)], .cells true ((s.R).map (V.int .i64)), .cells true ((s.list).map (V.int .i64))] := by
  have h1 := h.n
  have h3 := h.r
  have hf : s.f < s.R.length := by rcases h.f with h | h <;> omega
  have k := li_all s q h hb (by omega) (s.n - 1) 1 (by omega) (by omega)
  have e : (List.range 1).map s.at = [s.at 0] := rfl
  rw [e] at k
  have j : Nat := 0
  exact lif' s q [] s.list (li_n0 s q h1 h3 hf hb hn k)

theorem keep_all (S X : List Int) (q m : Nat) (stp : Int) (h0 : 0 ≤ stp ∧ stp < 256) (hm : m ≤ S.length) (h30 : m ≤ 30) (hl : X.length = m) (hX : ∀ j, j < m → X.getD j 0 = S.getD j 0) (hq : q = m) (h1 : 0 < m) : ∀ (d j : Nat) (s : Q), j + d = m → s.Ok q → s.n = q → (j : Int) ≤ stp → ((m : Int) ≤ stp → LOK cfg none (lb 36 0) ((.yld 9) :: u_ :: u_ :: u_ :: u_ :: u_ :: (.sl 1 (some (0, 0)) X.length) :: (i6 ((X.length : Nat) : Int)) :: (i6 ((j : Nat) : Int)) :: us 10) [.cells true ((X).map (V.int .i64)), .cells true [(.sl 1 (some (2, 0)) m)], .cells false ((S).map (V.int .i64)), .cells true [(.int .u8 stp)], .cells true [(.ptr (some (5, 0)))], .cells true [(.sl 1 (some (6, 0)) s.R.length), (i6 ((q : Nat) : Int)), (i6 ((s.f : Nat) : Int)), (i6 ((s.n : Nat) : Int)), (i6 s.lost)], .cells true ((s.R).map (V.int .i64)), .cells true [(i6 ((j : Nat) : Int))], .cells true [(.bool false)], .loop (recOf Try.prog 3 0 (u_ :: u_ :: (.ptr (some (1, 0))) :: (.ptr (some (3, 0))) :: (.ptr (some (8, 0))) :: (.ptr (some (4, 0))) :: (.ptr (some (7, 0))) :: us 107) .ready none)] (.exit 0) (us 19) [.dead, .cells true [(.sl 1 (some (2, 0)) m)], .cells false ((S).map (V.int .i64)), .cells true [(.int .u8 stp)], .dead, .dead, .dead, .cells true [(i6 ((m : Nat) : Int))], .cells true [(.bool false)], .loop (recOf Try.prog 3 0 (u_ :: u_ :: (.ptr (some (1, 0))) :: (.ptr (some (3, 0))) :: (.ptr (some (8, 0))) :: u_ :: (.ptr (some (7, 0))) :: us 107) .ready none)]) ∧ (stp < (m : Int) → LOK cfg none (lb 36 0) ((.yld 9) :: u_ :: u_ :: u_ :: u_ :: u_ :: (.sl 1 (some (0, 0)) X.length) :: (i6 ((X.length : Nat) : Int)) :: (i6 ((j : Nat) : Int)) :: us 10) [.cells true ((X).map (V.int .i64)), .cells true [(.sl 1 (some (2, 0)) m)], .cells false ((S).map (V.int .i64)), .cells true [(.int .u8 stp)], .cells true [(.ptr (some (5, 0)))], .cells true [(.sl 1 (some (6, 0)) s.R.length), (i6 ((q : Nat) : Int)), (i6 ((s.f : Nat) : Int)), (i6 ((s.n : Nat) : Int)), (i6 s.lost)], .cells true ((s.R).map (V.int .i64)), .cells true [(i6 ((j : Nat) : Int))], .cells true [(.bool false)], .loop (recOf Try.prog 3 0 (u_ :: u_ :: (.ptr (some (1, 0))) :: (.ptr (some (3, 0))) :: (.ptr (some (8, 0))) :: (.ptr (some (4, 0))) :: (.ptr (some (7, 0))) :: us 107) .ready none)] .ret (us 19) [.dead, .cells true [(.sl 1 (some (2, 0)) m)], .cells false ((S).map (V.int .i64)), .cells true [(.int .u8 stp)], .dead, .dead, .dead, .cells true [(i6 (((stp.toNat) : Nat) : Int))], .cells true [(.bool false)], .loop (recOf Try.prog 3 0 (u_ :: u_ :: (.ptr (some (1, 0))) :: (.ptr (some (3, 0))) :: (.ptr (some (8, 0))) :: u_ :: (.ptr (some (7, 0))) :: us 107) .done (some (.exit 0)))]) := by
  have ew : IntKind.wrap .i64 stp = stp := wrap_i64 (by omega)
  intro d
  induction d with
  | zero =>
    intro j s hj h hn hp
    refine ⟨fun h => ?_, fun h => by omega⟩
    have : j = m := by omega
    subst this
    exact kp_e S X s q j j 0 stp (decide_eq_false (by omega))
  | succ d IH =>
    intro j s hj h hn hp
    have ht := take_ok h (by omega)
    have hln := h.n
    have hlr := h.r
    have hp2 := put_ok ht (-1)
    have hn2 : (s.take.put q (-1)).n = q := by rw [put_n (by have : s.take.n = s.n - 1 := rfl; omega)]; have : s.take.n = s.n - 1 := rfl; omega
    refine ⟨fun hx => ?_, fun hx => ?_⟩
    · obtain ⟨k1, k2⟩ := IH (j + 1) _ (by omega) hp2 hn2 (by omega)
      exact kp_x S X s q m j _ stp (decide_eq_true (by omega)) (by omega) (by omega) (by rw [ew]; exact beq_eq_false_iff_ne.2 (by omega)) (decide_eq_false (by omega)) (by omega) (by omega) (by rw [show 0 + (j * 1) = j by omega, hX j (by omega)]; exact bne_self_eq_false _) h (by omega) (by omega) ht (by have : s.take.n = s.n - 1 := rfl; omega) (by have : s.take.n = s.n - 1 := rfl; have : s.take.R.length = s.R.length := (by simp [Q.take]); omega) ((wrap_i64 (by omega)).trans (by simp)) (k1 hx)
    · by_cases hqs : (j : Int) = stp
      · have e : stp.toNat = j := by omega
        rw [e]
        exact kp_s S X s q m j 0 stp (decide_eq_true (by omega)) (by omega) (by omega) (by rw [ew]; exact beq_iff_eq.2 (by omega))
      · obtain ⟨k1, k2⟩ := IH (j + 1) _ (by omega) hp2 hn2 (by omega)
        exact kp_r S X s q m j _ stp (decide_eq_true (by omega)) (by omega) (by omega) (by rw [ew]; exact beq_eq_false_iff_ne.2 (by omega)) (decide_eq_false (by omega)) (by omega) (by omega) (by rw [show 0 + (j * 1) = j by omega, hX j (by omega)]; exact bne_self_eq_false _) h (by omega) (by omega) ht (by have : s.take.n = s.n - 1 := rfl; omega) (by have : s.take.n = s.n - 1 := rfl; have : s.take.R.length = s.R.length := (by simp [Q.take]); omega) ((wrap_i64 (by omega)).trans (by simp)) (k2 hx)

theorem live_run : ∃ H', OK cfg (.fn 15 []) [] [] (.bool true) H' := ok_run hmix 200 (by kernel_rfl)
theorem live_ok (H : Heap) : OK cfg (.fn 15 []) [] H (.bool true) H := by
  obtain ⟨H', h⟩ := live_run
  exact OK.anyH h rfl (.inl rfl) H

end Go.Proofs.Ytklnecknoadhjaa.fifo
