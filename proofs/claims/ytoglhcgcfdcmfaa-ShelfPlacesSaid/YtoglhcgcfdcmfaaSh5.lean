/-
  Rows in no order: what their functions come to; and a table that is played; printed by ps.py, checked by the kernel.
-/
import Derived.Test.YtoglhcgcfdcmfaaSh4
set_option linter.unusedVariables false
set_option linter.unusedSimpArgs false
set_option maxRecDepth 100000
namespace Go.Proofs.Ytoglhcgcfdcmfaa.shelf
open Go Go.Vm Go.Shelf

theorem look_drop {R : List R2} {k : Int} {i : Nat} (h : i < R.length) : lookL (R.drop i) k = if (R.getD i (0, 0)).1 = k then ((R.getD i (0, 0)).2, true) else lookL (R.drop (i + 1)) k := by
  rw [List.drop_eq_getElem_cons h]
  simp only [lookL, List.getD_eq_getElem?_getD, List.getElem?_eq_getElem h, Option.getD_some]
theorem rget_all (R : List R2) (k : Int) (hb : R.length ≤ 1000) : ∀ (m i : Nat), i + m = R.length → ((lookL (R.drop i) k).2 = true → LOK cfg none (lb 26 0) ((.sl 2 (some (0, 0)) R.length) :: (.int .i64 k) :: u_ :: u_ :: u_ :: u_ :: (.int .i64 ((i : Nat) : Int)) :: us 18) [.cells true ((R.map encR).flatten)] .ret (u_ :: u_ :: u_ :: u_ :: (.int .i64 ((lookL (R.drop i) k).1)) :: (.bool true) :: us 19) [.cells true ((R.map encR).flatten)]) ∧ ((lookL (R.drop i) k).2 = false → LOK cfg none (lb 26 0) ((.sl 2 (some (0, 0)) R.length) :: (.int .i64 k) :: u_ :: u_ :: u_ :: u_ :: (.int .i64 ((i : Nat) : Int)) :: us 18) [.cells true ((R.map encR).flatten)] (.exit 0) (us 25) [.cells true ((R.map encR).flatten)]) := by
  intro m
  induction m with
  | zero =>
    intro i hi
    rw [List.drop_eq_nil_of_le (by omega)]
    exact ⟨fun h => (by cases h), fun _ => rg_x R k 0 i (decide_eq_false (by omega))⟩
  | succ m IH =>
    intro i hi
    have hl : i < R.length := by omega
    have ei : IntKind.wrap .i64 (((i : Nat) : Int) + 1) = (((i + 1) : Nat) : Int) := (wrap_i64 (by omega)).trans (by simp)
    rw [look_drop hl]
    by_cases hk : (R.getD i (0, 0)).1 = k
    · rw [if_pos hk]
      exact ⟨fun _ => rg_f R k 0 i (decide_eq_true (by omega)) (by omega) (by omega) (by simpa using hk), fun h => (by cases h)⟩
    · rw [if_neg hk]
      obtain ⟨i1, i2⟩ := IH (i + 1) (by omega)
      exact ⟨fun h => rg_p R k _ i (decide_eq_true (by omega)) (by omega) (by omega) (by simpa using hk) ei (i1 h), fun h => rg_q R k 0 i (decide_eq_true (by omega)) (by omega) (by omega) (by simpa using hk) ei (i2 h)⟩
theorem rget_ok (R : List R2) (k : Int) (hb : R.length ≤ 1000) : OK cfg (.fn 26 []) [.sl 2 (some (0, 0)) R.length, .int .i64 k] [.cells true ((R.map encR).flatten)] (.tup [.int .i64 (lookL R k).1, .bool (lookL R k).2]) [.cells true ((R.map encR).flatten)] := by
  obtain ⟨h1, h2⟩ := rget_all R k hb R.length 0 (by omega)
  rw [List.drop_zero] at h1 h2
  cases e : (lookL R k).2 with
  | true => exact rgf_y' R k _ (h1 e)
  | false =>
    have e0 : (lookL R k).1 = 0 := by
      have : ∀ (L : List R2), (lookL L k).2 = false → (lookL L k).1 = 0 := by
        intro L
        induction L with
        | nil => intro _; rfl
        | cons r L ih =>
          unfold lookL
          split
          · intro h; cases h
          · exact ih
      exact this R e
    rw [e0]
    exact rgf_n' R k 0 (h2 e)
theorem cut_drop {R : List R2} {k : Int} {i : Nat} (h : i < R.length) : cutL (R.drop i) k = if (R.getD i (0, 0)).1 = k then cutL (R.drop (i + 1)) k else R.getD i (0, 0) :: cutL (R.drop (i + 1)) k := by
  rw [List.drop_eq_getElem_cons h]
  simp only [cutL, List.filter_cons, List.getD_eq_getElem?_getD, List.getElem?_eq_getElem h, Option.getD_some, decide_eq_true_eq]
  by_cases e : (R[i]'h).1 = k <;> simp [e]
theorem rcut_all (R : List R2) (k : Int) (hb : R.length ≤ 1000) : ∀ (m i : Nat) (O : List R2), i + m = R.length → O.length ≤ i → LOK cfg none (lb 56 0) ((.sl 2 (some (0, 0)) R.length) :: (.int .i64 k) :: u_ :: u_ :: u_ :: (.sl 2 (some (1, 0)) O.length) :: (.int .i64 ((i : Nat) : Int)) :: us 22) [.cells true ((R.map encR).flatten), .cells true ((O.map encR).flatten)] (.exit 0) (u_ :: u_ :: u_ :: u_ :: u_ :: (.sl 2 (some (2, 0)) (O ++ cutL (R.drop i) k).length) :: us 23) [.cells true ((R.map encR).flatten), .dead, .cells true (((O ++ cutL (R.drop i) k).map encR).flatten)] := by
  intro m
  induction m with
  | zero =>
    intro i O hi ho
    rw [List.drop_eq_nil_of_le (by omega)]
    rw [show O ++ cutL [] k = O by simp [cutL]]
    exact rc_x R k O [] i (decide_eq_false (by omega))
  | succ m IH =>
    intro i O hi ho
    have hl : i < R.length := by omega
    have ei : IntKind.wrap .i64 (((i : Nat) : Int) + 1) = (((i + 1) : Nat) : Int) := (wrap_i64 (by omega)).trans (by simp)
    rw [cut_drop hl]
    by_cases hk : (R.getD i (0, 0)).1 = k
    · rw [if_pos hk]
      exact rc_s R k O _ i (decide_eq_true (by omega)) (by omega) (by omega) (by simpa using hk) ei (IH (i + 1) O (by omega) (by omega))
    · rw [if_neg hk]
      have j := IH (i + 1) (O ++ [R.getD i (0, 0)]) (by omega) (by simp; omega)
      rw [List.append_assoc] at j
      exact rc_a R k O _ i (decide_eq_true (by omega)) (by omega) (by omega) (by simpa using hk) (by omega) (by rw [encR_flat]) (by simp [encR]) ei (by simp) j


theorem rcf (R : List R2) (k : Int) (Z : List R2) (hl : LOK cfg none (lb 56 0) ((.sl 2 (some (0, 0)) R.length) :: (.int .i64 k) :: u_ :: u_ :: u_ :: (.sl 2 (some (1, 0)) ([] : List R2).length) :: (.int .i64 0) :: us 22) [.cells true ((R.map encR).flatten), .cells true ((([] : List R2).map encR).flatten)] (.exit 0) (u_ :: u_ :: u_ :: u_ :: u_ :: (.sl 2 (some (2, 0)) Z.length) :: us 23) [.cells true ((R.map encR).flatten), .dead, .cells true ((Z.map encR).flatten)]) (h0 : ([] : List V) = ((([] : List R2).map encR).flatten)) (h1 : (0 : Nat) = ([] : List R2).length) : OK cfg (.fn 56 []) [(.sl 2 (some (0, 0)) R.length), (.int .i64 k)] [.cells true ((R.map encR).flatten)] (.sl 2 (some (2, 0)) Z.length) [.cells true ((R.map encR).flatten), .dead, .cells true ((Z.map encR).flatten)] :=
  ok_fn' hmix (n := 40) (os := [.c, .c, .c, .c, .l (.exit 0) (u_ :: u_ :: u_ :: u_ :: u_ :: (.sl 2 (some (2, 0)) Z.length) :: us 23) [.cells true ((R.map encR).flatten), .dead, .cells true ((Z.map encR).flatten)], .c, .c]) (by kernel_rfl) (And.intro (Eq.refl true) (And.intro (Eq.refl true) (And.intro (Eq.refl true) (And.intro (LOK.at (rd := none) (rd1 := none) (st1 := [(.sl 2 (some (0, 0)) R.length), (.int .i64 k), (.tup []), (.tup []), (.sl 0 none 0), (.sl 2 (some (1, 0)) 0), (.int .i64 0), (.sl 2 (some (1, 0)) 0), (.tup []), (.tup []), (.tup []), (.tup []), (.tup []), (.tup []), (.tup []), (.tup []), (.tup []), (.tup []), (.tup []), (.tup []), (.tup []), (.tup []), (.tup []), (.tup []), (.tup []), (.tup []), (.tup []), (.tup []), (.tup [])]) (st1' := (u_ :: u_ :: u_ :: u_ :: u_ :: (.sl 2 (some (2, 0)) Z.length) :: us 23)) hl [some (0, 0), some (1, 0)] [some (0, 0), none, some (2, 0)] [2] [.cells true ((R.map encR).flatten), .cells true []] [.cells true ((R.map encR).flatten), .dead, .cells true ((Z.map encR).flatten)] True.intro (by kernel_rfl) (by kernel_rfl) ⟨⟨0, ((R.map encR).flatten), rfl, rfl, (VEL.plain (plains_flat _ encR_plains _))⟩, ⟨⟨1, [], rfl, rfl, (VEL.eqR h0 (VEL.plain (plains_flat _ encR_plains _)))⟩, trivial⟩⟩ ⟨.inr (.inr ⟨0, .cells true ((R.map encR).flatten), rfl, rfl, (VEL.plain (plains_flat _ encR_plains _))⟩), ⟨.inl rfl, ⟨.inr (.inr ⟨2, .cells true ((Z.map encR).flatten), rfl, rfl, (VEL.plain (plains_flat _ encR_plains _))⟩), trivial⟩⟩⟩ (.c (VE.ren (by kernel_rfl)) (.c (VE.ren (by kernel_rfl)) (.c .q (.c .q (.c .q (.c (VE.eqL (b' := 1) (o' := 0) h1 (by kernel_rfl)) (.c (VE.ren (by kernel_rfl)) (VEL.qs (by kernel_rfl))))))))) (VEL.ren (by kernel_rfl))) (And.intro (Eq.refl true) (Eq.refl (((.sl 2 (some (2, 0)) Z.length) : V), ([.cells true ((R.map encR).flatten), .dead, .cells true ((Z.map encR).flatten)] : Heap))))))))

theorem rcf' (R : List R2) (k : Int) (Z : List R2) (hl : LOK cfg none (lb 56 0) ((.sl 2 (some (0, 0)) R.length) :: (.int .i64 k) :: u_ :: u_ :: u_ :: (.sl 2 (some (1, 0)) ([] : List R2).length) :: (.int .i64 0) :: us 22) [.cells true ((R.map encR).flatten), .cells true ((([] : List R2).map encR).flatten)] (.exit 0) (u_ :: u_ :: u_ :: u_ :: u_ :: (.sl 2 (some (2, 0)) Z.length) :: us 23) [.cells true ((R.map encR).flatten), .dead, .cells true ((Z.map encR).flatten)]) (h0 : ([] : List V) = ((([] : List R2).map encR).flatten)) (h1 : (0 : Nat) = ([] : List R2).length) : OK cfg (.fn 56 []) [(.sl 2 (some (0, 0)) R.length), (.int .i64 k)] [.cells true ((R.map encR).flatten)] (.sl 2 (some (1, 0)) Z.length) [.cells true ((R.map encR).flatten), .cells true ((Z.map encR).flatten)] :=
  (OK.at (fv1 := (.fn 56 [])) (args1 := [(.sl 2 (some (0, 0)) R.length), (.int .i64 k)]) (v1 := (.sl 2 (some (1, 0)) Z.length)) (rcf R k Z hl h0 h1) [some (0, 0)] [some (0, 0), none, some (1, 0)] [2] [.cells true ((R.map encR).flatten)] [.cells true ((R.map encR).flatten), .cells true ((Z.map encR).flatten)] (by kernel_rfl) (by kernel_rfl) ⟨⟨0, ((R.map encR).flatten), rfl, rfl, (VEL.plain (plains_flat _ encR_plains _))⟩, trivial⟩ ⟨.inr (.inr ⟨0, .cells true ((R.map encR).flatten), rfl, rfl, (VEL.plain (plains_flat _ encR_plains _))⟩), ⟨.inr (.inr ⟨2, .cells true ((Z.map encR).flatten), rfl, rfl, (VEL.plain (plains_flat _ encR_plains _))⟩), trivial⟩⟩ (VE.ren (by kernel_rfl)) (VEL.ren (by kernel_rfl)) (VE.ren (by kernel_rfl)))

end Go.Proofs.Ytoglhcgcfdcmfaa.shelf
