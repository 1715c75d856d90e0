/-
  Tables and rows in no order: what their functions come to; printed by ps.py, checked by the kernel.
-/
import Derived.Test.YtoglhcgcfdcmfaaSh2
set_option linter.unusedVariables false
set_option linter.unusedSimpArgs false
set_option maxRecDepth 100000
namespace Go.Proofs.Ytoglhcgcfdcmfaa.shelf
open Go Go.Vm Go.Shelf

theorem put_ok (L : List R2) (k v : Int) (hs : Srt L) (hb : L.length ≤ 1000) : OK cfg (.fn 29 []) [.ptr (some (0, 0)), .int .i64 k, .int .i64 v] [.cells true [(.sl 2 (some (1, 0)) L.length)], .cells true ((L.map encR).flatten)] (.bool (hasL L k)) [.cells true [(.sl 2 (some (2, 0)) (putL L k v).length)], .dead, .cells true (((putL L k v).map encR).flatten)] := by
  have hp := pl_le L k
  cases e : hasL L k with
  | true =>
    have h1 : pl L k < L.length ∧ (gR L (pl L k)).1 = k := by have := e; simpa only [hasL, decide_eq_true_eq] using this
    have e1 : setR ((L.map encR).flatten) ((0 + ((pl L k) * 2)) + 1) [(.int .i64 v)] = (((putL L k v).map encR).flatten) := by
      rw [show (0 + ((pl L k) * 2)) + 1 = pl L k * 2 + 1 by omega, encR_set L _ k v h1.1 h1.2, put_set hs v e]
    have hpl : plains (setR ((L.map encR).flatten) ((0 + ((pl L k) * 2)) + 1) [(.int .i64 v)]) = true := by rw [e1]; exact encR_plain _
    have e2 : L.length = (putL L k v).length := by rw [← put_set hs v e]; simp
    have := pu_y' L k v (by simp) hs (by omega) e (by omega) (by rw [encR_flat]; omega) hpl
    rw [e1, e2] at this
    rw [← e2] at this
    rw [← e2]
    exact this
  | false =>
    have e1 : insV ((L.map encR).flatten) ((pl L k) * 2) [(.int .i64 k), (.int .i64 v)] = (((putL L k v).map encR).flatten) := by
      rw [encR_ins, put_ins hs v e]
    have hpl : plains (insV ((L.map encR).flatten) ((pl L k) * 2) [(.int .i64 k), (.int .i64 v)]) = true := by rw [e1]; exact encR_plain _
    have e2 : L.length + 1 = (putL L k v).length := by rw [← put_ins hs v e]; simp; omega
    have := pu_n' L k v (by simp) hs (by omega) e (by rw [encR_flat]) (by omega) (by omega) hpl hpl
    rw [e1, e2] at this
    exact this
theorem cut_ok (L : List R2) (k : Int) (hs : Srt L) (hb : L.length ≤ 1000) : OK cfg (.fn 28 []) [.ptr (some (0, 0)), .int .i64 k] [.cells true [(.sl 2 (some (1, 0)) L.length)], .cells true ((L.map encR).flatten)] (.tup [.int .i64 (valL L k), .bool (hasL L k)]) [.cells true [(.sl 2 (some (2, 0)) (cutL L k).length)], .dead, .cells true (((cutL L k).map encR).flatten)] := by
  have hp := pl_le L k
  cases e : hasL L k with
  | true =>
    have h1 : pl L k < L.length := by have := e; simp only [hasL, decide_eq_true_eq] at this; exact this.1
    have e1 : delV ((L.map encR).flatten) ((pl L k) * 2) 2 = (((cutL L k).map encR).flatten) := by rw [encR_del, cut_del hs e]
    have hpl : plains (delV ((L.map encR).flatten) ((pl L k) * 2) 2) = true := by rw [e1]; exact encR_plain _
    have e2 : L.length - 1 = (cutL L k).length := by rw [← cut_del hs e]; simp; omega
    have := cu_y' L k hs (by omega) e ((wrap_i64 (by omega)).trans (by simp)) (by rw [encR_flat]) (by omega) (by omega) hpl hpl
    rw [e1, e2, e] at this
    exact this
  | false =>
    have := cu_n' L k hs (by omega) e
    rw [e] at this
    rw [cut_same hs e]
    exact this
theorem put0_ok (e0 : Nat) (k v : Int) : OK cfg (.fn 29 []) [.ptr (some (0, 0)), .int .i64 k, .int .i64 v] [.cells true [(.sl e0 none 0)]] (.bool false) [.cells true [(.sl 2 (some (1, 0)) [(k, v)].length)], .cells true (([(k, v)].map encR).flatten)] := pu_0' e0 k v (by simp)

theorem fo_y_q_1 (L : List R2) (h0 : L.length * 2 = (((L.map encR).flatten)).length) (h1 : (0 + L.length) * 16 ≤ 140737488355328 ∧ 0 + L.length ≤ 9223372036854775807) (h2 : L.length ≠ 0) (h3 : ones ((L.map encR).flatten) = true) : OK cfg (.fn 59 []) [(.sl 2 (some (1, 0)) L.length)] [.cells true [(.sl 2 (some (1, 0)) L.length)], .cells true ((L.map encR).flatten)] (.sl 2 (some (3, 0)) (0 + L.length)) [.cells true [(.sl 2 (some (1, 0)) L.length)], .cells true ((L.map encR).flatten), .dead, .cells true ([] ++ (((L.map encR).flatten) : List V))] :=
  ok_fn' hmix (n := 40) (os := [.c, .c, .c, .c, .c, .c, .r (.sl 2 (some (3, 0)) (0 + L.length)) [.cells true [(.sl 2 (some (1, 0)) L.length)], .cells true ((L.map encR).flatten), .dead, .cells true ([] ++ (((L.map encR).flatten) : List V))], .c]) (by kernel_rfl) (And.intro (Eq.refl true) (And.intro (Eq.refl true) (And.intro (app_end (es := 2) (bytes := 16) (n := 0) (m := L.length) (q := (some (1, 0))) (H := [.cells true [(.sl 2 (some (1, 0)) L.length)], .cells true ((L.map encR).flatten), .cells true []]) (b := 2) (cs := []) (xs := ((L.map encR).flatten)) (gs_whole' (rw := true) rfl h0) h2 h1 h3 rfl rfl) (And.intro (Eq.refl true) (Eq.refl (((.sl 2 (some (3, 0)) (0 + L.length)) : V), ([.cells true [(.sl 2 (some (1, 0)) L.length)], .cells true ((L.map encR).flatten), .dead, .cells true ([] ++ (((L.map encR).flatten) : List V))] : Heap)))))))

theorem fo_y (L : List R2) (h0 : L.length * 2 = (((L.map encR).flatten)).length) (h1 : (0 + L.length) * 16 ≤ 140737488355328 ∧ 0 + L.length ≤ 9223372036854775807) (h2 : L.length ≠ 0) (h3 : ones ((L.map encR).flatten) = true) : OK cfg (.fn 30 []) [(.ptr (some (0, 0)))] [.cells true [(.sl 2 (some (1, 0)) L.length)], .cells true ((L.map encR).flatten)] (.ptr (some (5, 0))) [.cells true [(.sl 2 (some (1, 0)) L.length)], .cells true ((L.map encR).flatten), .dead, .cells true ([] ++ (((L.map encR).flatten) : List V)), .dead, .cells true [(.sl 2 (some (3, 0)) (0 + L.length))]] :=
  ok_fn' hmix (n := 40) (os := [.c, .c, .c, .c, .c, .c, .c, .c, .r (.sl 2 (some (3, 0)) (0 + L.length)) [.cells true [(.sl 2 (some (1, 0)) L.length)], .cells true ((L.map encR).flatten), .dead, .cells true ([] ++ (((L.map encR).flatten) : List V)), .dead], .c, .c, .c]) (by kernel_rfl) (And.intro (Eq.refl true) (And.intro (Eq.refl true) (And.intro (OK.pad (fo_y_q_1 L h0 h1 h2 h3)) (And.intro (Eq.refl true) (Eq.refl (((.ptr (some (5, 0))) : V), ([.cells true [(.sl 2 (some (1, 0)) L.length)], .cells true ((L.map encR).flatten), .dead, .cells true ([] ++ (((L.map encR).flatten) : List V)), .dead, .cells true [(.sl 2 (some (3, 0)) (0 + L.length))]] : Heap)))))))

theorem fo_y' (L : List R2) (h0 : L.length * 2 = (((L.map encR).flatten)).length) (h1 : (0 + L.length) * 16 ≤ 140737488355328 ∧ 0 + L.length ≤ 9223372036854775807) (h2 : L.length ≠ 0) (h3 : ones ((L.map encR).flatten) = true) (g0 : plains ([] ++ (((L.map encR).flatten) : List V)) = true) : OK cfg (.fn 30 []) [(.ptr (some (0, 0)))] [.cells true [(.sl 2 (some (1, 0)) L.length)], .cells true ((L.map encR).flatten)] (.ptr (some (3, 0))) [.cells true [(.sl 2 (some (1, 0)) L.length)], .cells true ((L.map encR).flatten), .cells true ([] ++ (((L.map encR).flatten) : List V)), .cells true [(.sl 2 (some (2, 0)) (0 + L.length))]] :=
  (OK.at (fv1 := (.fn 30 [])) (args1 := [(.ptr (some (0, 0)))]) (v1 := (.ptr (some (3, 0)))) (fo_y L h0 h1 h2 h3) [some (0, 0), some (1, 0)] [some (0, 0), some (1, 0), none, some (2, 0), none, some (3, 0)] [3, 5] [.cells true [(.sl 2 (some (1, 0)) L.length)], .cells true ((L.map encR).flatten)] [.cells true [(.sl 2 (some (1, 0)) L.length)], .cells true ((L.map encR).flatten), .cells true ([] ++ (((L.map encR).flatten) : List V)), .cells true [(.sl 2 (some (2, 0)) (0 + L.length))]] (by kernel_rfl) (by kernel_rfl) ⟨⟨0, [(.sl 2 (some (1, 0)) L.length)], rfl, rfl, (VEL.ren (by kernel_rfl))⟩, ⟨⟨1, ((L.map encR).flatten), rfl, rfl, (VEL.plain (plains_flat _ encR_plains _))⟩, trivial⟩⟩ ⟨.inr (.inr ⟨0, .cells true [(.sl 2 (some (1, 0)) L.length)], rfl, rfl, (VEL.ren (by kernel_rfl))⟩), ⟨.inr (.inr ⟨1, .cells true ((L.map encR).flatten), rfl, rfl, (VEL.plain (plains_flat _ encR_plains _))⟩), ⟨.inr (.inr ⟨3, .cells true ([] ++ (((L.map encR).flatten) : List V)), rfl, rfl, (VEL.plain g0)⟩), ⟨.inr (.inr ⟨5, .cells true [(.sl 2 (some (3, 0)) (0 + L.length))], rfl, rfl, (VEL.ren (by kernel_rfl))⟩), trivial⟩⟩⟩⟩ (VE.ren (by kernel_rfl)) (VEL.ren (by kernel_rfl)) (VE.ren (by kernel_rfl)))

theorem fo_e_q_1 (L : List R2) (h0 : L.length = 0) : OK cfg (.fn 59 []) [(.sl 2 (some (1, 0)) L.length)] [.cells true [(.sl 2 (some (1, 0)) L.length)], .cells true ((L.map encR).flatten)] (.sl 2 (some (2, 0)) (0 + L.length)) [.cells true [(.sl 2 (some (1, 0)) L.length)], .cells true ((L.map encR).flatten), .cells true []] :=
  ok_fn' hmix (n := 40) (os := [.c, .c, .c, .c, .c, .c, .r (.sl 2 (some (2, 0)) (0 + L.length)) [.cells true [(.sl 2 (some (1, 0)) L.length)], .cells true ((L.map encR).flatten), .cells true []], .c]) (by kernel_rfl) (And.intro (Eq.refl true) (And.intro (Eq.refl true) (And.intro (app_zero (es := 2) (bytes := 16) (n := 0) (m := L.length) (q := (some (1, 0))) (H := [.cells true [(.sl 2 (some (1, 0)) L.length)], .cells true ((L.map encR).flatten), .cells true []]) (p := (some (2, 0))) h0) (And.intro (Eq.refl true) (Eq.refl (((.sl 2 (some (2, 0)) (0 + L.length)) : V), ([.cells true [(.sl 2 (some (1, 0)) L.length)], .cells true ((L.map encR).flatten), .cells true []] : Heap)))))))

theorem fo_e (L : List R2) (h0 : L.length = 0) : OK cfg (.fn 30 []) [(.ptr (some (0, 0)))] [.cells true [(.sl 2 (some (1, 0)) L.length)], .cells true ((L.map encR).flatten)] (.ptr (some (4, 0))) [.cells true [(.sl 2 (some (1, 0)) L.length)], .cells true ((L.map encR).flatten), .cells true [], .dead, .cells true [(.sl 2 (some (2, 0)) (0 + L.length))]] :=
  ok_fn' hmix (n := 40) (os := [.c, .c, .c, .c, .c, .c, .c, .c, .r (.sl 2 (some (2, 0)) (0 + L.length)) [.cells true [(.sl 2 (some (1, 0)) L.length)], .cells true ((L.map encR).flatten), .cells true [], .dead], .c, .c, .c]) (by kernel_rfl) (And.intro (Eq.refl true) (And.intro (Eq.refl true) (And.intro (OK.pad (fo_e_q_1 L h0)) (And.intro (Eq.refl true) (Eq.refl (((.ptr (some (4, 0))) : V), ([.cells true [(.sl 2 (some (1, 0)) L.length)], .cells true ((L.map encR).flatten), .cells true [], .dead, .cells true [(.sl 2 (some (2, 0)) (0 + L.length))]] : Heap)))))))

theorem fo_e' (L : List R2) (h0 : L.length = 0) : OK cfg (.fn 30 []) [(.ptr (some (0, 0)))] [.cells true [(.sl 2 (some (1, 0)) L.length)], .cells true ((L.map encR).flatten)] (.ptr (some (3, 0))) [.cells true [(.sl 2 (some (1, 0)) L.length)], .cells true ((L.map encR).flatten), .cells true [], .cells true [(.sl 2 (some (2, 0)) (0 + L.length))]] :=
  (OK.at (fv1 := (.fn 30 [])) (args1 := [(.ptr (some (0, 0)))]) (v1 := (.ptr (some (3, 0)))) (fo_e L h0) [some (0, 0), some (1, 0)] [some (0, 0), some (1, 0), some (2, 0), none, some (3, 0)] [2, 4] [.cells true [(.sl 2 (some (1, 0)) L.length)], .cells true ((L.map encR).flatten)] [.cells true [(.sl 2 (some (1, 0)) L.length)], .cells true ((L.map encR).flatten), .cells true [], .cells true [(.sl 2 (some (2, 0)) (0 + L.length))]] (by kernel_rfl) (by kernel_rfl) ⟨⟨0, [(.sl 2 (some (1, 0)) L.length)], rfl, rfl, (VEL.ren (by kernel_rfl))⟩, ⟨⟨1, ((L.map encR).flatten), rfl, rfl, (VEL.plain (plains_flat _ encR_plains _))⟩, trivial⟩⟩ ⟨.inr (.inr ⟨0, .cells true [(.sl 2 (some (1, 0)) L.length)], rfl, rfl, (VEL.ren (by kernel_rfl))⟩), ⟨.inr (.inr ⟨1, .cells true ((L.map encR).flatten), rfl, rfl, (VEL.plain (plains_flat _ encR_plains _))⟩), ⟨.inr (.inr ⟨2, .cells true [], rfl, rfl, (VEL.plain (by kernel_rfl))⟩), ⟨.inr (.inr ⟨4, .cells true [(.sl 2 (some (2, 0)) (0 + L.length))], rfl, rfl, (VEL.ren (by kernel_rfl))⟩), trivial⟩⟩⟩⟩ (VE.ren (by kernel_rfl)) (VEL.ren (by kernel_rfl)) (VE.ren (by kernel_rfl)))

end Go.Proofs.Ytoglhcgcfdcmfaa.shelf
