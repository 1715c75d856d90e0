/-
  What some filters let pass is the document's.
-/
import Derived.Test.YtgpoojjajnlhjaaFi6
set_option linter.unusedVariables false
set_option linter.unusedSimpArgs false
set_option maxRecDepth 100000
namespace Go.Proofs.Ytgpoojjajnlhjaa.filt
open Go Go.Vm Go.Filt

theorem cn_lt {f : Nat → Bool} {k : Nat} (hp : f k = true) : ∀ (e : Nat), cn f k < cn f (k + 1 + e)
  | 0 => by rw [Nat.add_zero, cn, if_pos hp]; omega
  | e + 1 => by have := cn_lt hp e; rw [← Nat.add_assoc, cn]; omega
theorem psV_nil (x : Int) : psV ([] : List FT) 0 x = false := by
  unfold psV anV
  simp
theorem idl_nil : (idl ([] : List FT) 0 2048).length = 0 := by
  rw [idl_len]
  exact cn_none _ fun i _ => psV_nil _
theorem lr_all (S : List FT) (m : Nat) (hm : m ≤ S.length) (h9 : m ≤ 1000) : ∀ (d k : Nat), k + d = 2048 → LOK cfg none (lb 19 0) ((.yld 6) :: (.ptr (some (5, 0))) :: u_ :: u_ :: (.int .i64 ((k : Nat) : Int)) :: us 12) [.cells false ((S.map encR).flatten), .cells true [u_], .cells true (((idl S m 2048)).map (V.int .i64)), .cells true [(.sl 1 (some (2, 0)) (idl S m 2048).length)], .cells true [(.int .i64 (((cn (fun i => psV S m (i : Int)) k) : Nat) : Int))], .cells true [(.sl 2 (some (0, 0)) m)], .loop (recOf Try.prog 3 0 (u_ :: u_ :: u_ :: u_ :: (.ptr (some (1, 0))) :: u_ :: (.ptr (some (3, 0))) :: (.ptr (some (4, 0))) :: us 51) .ready none)] (.exit 0) (us 17) [.cells false ((S.map encR).flatten), .cells true [u_], .cells true (((idl S m 2048)).map (V.int .i64)), .cells true [(.sl 1 (some (2, 0)) (idl S m 2048).length)], .cells true [(.int .i64 (((cn (fun i => psV S m (i : Int)) 2048) : Nat) : Int))], .dead, .loop (recOf Try.prog 3 0 (u_ :: u_ :: u_ :: u_ :: (.ptr (some (1, 0))) :: u_ :: (.ptr (some (3, 0))) :: (.ptr (some (4, 0))) :: us 51) .ready none)] := by
  have hW := idl_len S m 2048
  intro d
  induction d with
  | zero =>
    intro k hk
    have : k = 2048 := by omega
    subst this
    exact lr_x S _ m _ 2048 0 (decide_eq_false (by omega))
  | succ d IH =>
    intro k hk
    have hn := cn_le (fun i => psV S m (i : Int)) k
    have ih := IH (k + 1) (by omega)
    rw [cn] at ih
    cases hp : psV S m (k : Int) with
    | true =>
      rw [if_pos hp] at ih
      have h1 := cn_lt (f := fun i => psV S m (i : Int)) hp d
      rw [show k + 1 + d = 2048 by omega] at h1
      have hw : (idl S m 2048).getD (0 + ((cn (fun i => psV S m (i : Int)) k) * 1)) 0 = (k : Int) := by
        rw [show 0 + (cn (fun i => psV S m (i : Int)) k) * 1 = (cn (fun i => psV S m (i : Int)) k) by omega]
        exact idl_at S m d k 2048 (by omega) hp
      exact lr_y S _ m _ k _ (decide_eq_true (by omega)) (by omega) (by omega) hp (decide_eq_false (by omega)) (by omega) (by omega) (by rw [hw]; exact bne_self_eq_false _) ((wrap_i64 (by omega)).trans (by omega)) ((wrap_i64 (by omega)).trans (by omega)) ih
    | false =>
      rw [if_neg (by rw [hp]; decide), Nat.add_zero] at ih
      exact lr_n S _ m _ k _ (decide_eq_true (by omega)) (by omega) (by omega) hp ((wrap_i64 (by omega)).trans (by omega)) ih

theorem ln_all (W : List Int) : ∀ (d k : Nat), k + d = 2048 → LOK cfg none (lb 19 0) ((.yld 6) :: (.ptr (some (5, 0))) :: u_ :: u_ :: (.int .i64 ((k : Nat) : Int)) :: us 12) [.dead, .cells true [u_], .cells true ((W).map (V.int .i64)), .cells true [(.sl 1 (some (2, 0)) W.length)], .cells true [(.int .i64 0)], .cells true [(.sl 2 none 0)], .loop (recOf Try.prog 3 0 (u_ :: u_ :: u_ :: u_ :: (.ptr (some (1, 0))) :: u_ :: (.ptr (some (3, 0))) :: (.ptr (some (4, 0))) :: us 51) .ready none)] (.exit 0) (us 17) [.dead, .cells true [u_], .cells true ((W).map (V.int .i64)), .cells true [(.sl 1 (some (2, 0)) W.length)], .cells true [(.int .i64 0)], .dead, .loop (recOf Try.prog 3 0 (u_ :: u_ :: u_ :: u_ :: (.ptr (some (1, 0))) :: u_ :: (.ptr (some (3, 0))) :: (.ptr (some (4, 0))) :: us 51) .ready none)] := by
  intro d
  induction d with
  | zero =>
    intro k hk
    have : k = 2048 := by omega
    subst this
    exact ln_x [] W 0 0 2048 0 (decide_eq_false (by omega))
  | succ d IH =>
    intro k hk
    exact ln_n [] W 0 0 k 0 (decide_eq_true (by omega)) (by unfold isV; rw [decide_eq_true (by omega), decide_eq_true (by omega)]; rfl) ((wrap_i64 (by omega)).trans (by omega)) (IH (k + 1) (by omega))

theorem lv_all (W : List Int) : ∀ (d k : Nat), k + d = 2048 → LOK cfg none (lb 19 0) ((.yld 6) :: (.ptr (some (5, 0))) :: u_ :: u_ :: (.int .i64 ((k : Nat) : Int)) :: us 12) [.void, .cells true [u_], .cells true ((W).map (V.int .i64)), .cells true [(.sl 1 (some (2, 0)) W.length)], .cells true [(.int .i64 0)], .cells true [(.sl 2 (some (0, 0)) 0)], .loop (recOf Try.prog 3 0 (u_ :: u_ :: u_ :: u_ :: (.ptr (some (1, 0))) :: u_ :: (.ptr (some (3, 0))) :: (.ptr (some (4, 0))) :: us 51) .ready none)] (.exit 0) (us 17) [.void, .cells true [u_], .cells true ((W).map (V.int .i64)), .cells true [(.sl 1 (some (2, 0)) W.length)], .cells true [(.int .i64 0)], .dead, .loop (recOf Try.prog 3 0 (u_ :: u_ :: u_ :: u_ :: (.ptr (some (1, 0))) :: u_ :: (.ptr (some (3, 0))) :: (.ptr (some (4, 0))) :: us 51) .ready none)] := by
  intro d
  induction d with
  | zero =>
    intro k hk
    have : k = 2048 := by omega
    subst this
    exact lv_x [] W 0 0 2048 0 (decide_eq_false (by omega))
  | succ d IH =>
    intro k hk
    exact lv_n [] W 0 0 k 0 (decide_eq_true (by omega)) (by unfold isV; rw [decide_eq_true (by omega), decide_eq_true (by omega)]; rfl) ((wrap_i64 (by omega)).trans (by omega)) (IH (k + 1) (by omega))

theorem typed_f {r : List V} (h : Typed [.int .i64, .int .i64] r) : ∃ x, r = encR x ∧ True := by
  match r, h with
  | [.int k i, .int k2 n], h =>
    obtain ⟨⟨rfl, _⟩, ⟨rfl, _⟩, _⟩ := h
    exact ⟨(i, n), rfl, trivial⟩
theorem f_leaves : leaves Try.prog 3 36 = [.int .i64, .int .i64] := by kernel_rfl
theorem law_pr (x : Int) (rows : List (List V)) (hr : ∀ r ∈ rows, Typed (leaves Try.prog 3 36) r) : ∃ H', OK cfg (.fn 3 []) [.int .i64 x, .sl 2 (some (0, 0)) rows.length] [.cells false rows.flatten] (.bool true) H' := by
  rw [f_leaves] at hr
  obtain ⟨S, rfl, hS⟩ := rows_of (f := encR) (p := fun x => True) (fun r hr => typed_f hr) hr
  rw [List.length_map]
  obtain ⟨m, hmin⟩ : ∃ m, m = min S.length 6 := ⟨_, rfl⟩
  have hm : m ≤ S.length := by omega
  have hl : (S.take m).length = m := by rw [List.length_take]; omega
  have eW : idl (S.take m) m 2048 = idl S m 2048 := by
    unfold idl
    congr 1
    exact List.filter_congr fun i _ => psV_take S m hm _
  exact ⟨_, OK.eqv (la_r S m (cn (fun i => psV S m (i : Int)) 2048) x (by rw [eW]; exact lr_all S m hm (by omega) 2048 0 (by omega)) (by split <;> omega) (by omega) (by omega) (by omega) (Nat.le_refl _) (by omega) (by rw [hl, psV_take S m hm]; simp) (by rw [hl]) (by rw [hl]) (by rw [eW, idl_len]; exact beq_iff_eq.2 rfl)) (congrArg V.bool (beq_iff_eq.2 rfl))⟩
theorem law_pn (x : Int) : ∃ H', OK cfg (.fn 3 []) [.int .i64 x, .sl 2 none 0] [] (.bool true) H' := by
  cases hx : isV x with
  | true => exact ⟨_, la_ny [] 0 0 x (ln_all _ 2048 0 (by omega)) hx (by decide) (by decide) (by rw [psV_nil]; rfl) (by rw [idl_nil]; rfl)⟩
  | false => exact ⟨_, la_nn [] 0 0 x (ln_all _ 2048 0 (by omega)) hx (by decide) (by decide) (by rw [psV_nil]; rfl) (by rw [idl_nil]; rfl)⟩
theorem law_pv (x : Int) : ∃ H', OK cfg (.fn 3 []) [.int .i64 x, .sl 2 (some (0, 0)) 0] [.void] (.bool true) H' := by
  cases hx : isV x with
  | true => exact ⟨_, la_vy [] 0 0 x (lv_all _ 2048 0 (by omega)) hx (by decide) (by decide) (by rw [psV_nil]; rfl) (by rw [idl_nil]; rfl)⟩
  | false => exact ⟨_, la_vn [] 0 0 x (lv_all _ 2048 0 (by omega)) hx (by decide) (by decide) (by rw [psV_nil]; rfl) (by rw [idl_nil]; rfl)⟩
end Go.Proofs.Ytgpoojjajnlhjaa.filt
namespace Go.Proofs.Ytgpoojjajnlhjaa.filterPasses
open Go Go.Vm
noncomputable abbrev cfg : Cfg := filt.cfg
theorem law_n (a0 : Int) (w0 : (Lit.int .i64 a0).wf = true) : ∃ H', OK cfg (.fn 3 []) [.int .i64 a0, .sl 2 none 0] [] (.bool true) H' := filt.law_pn a0
theorem law_v (a0 : Int) (w0 : (Lit.int .i64 a0).wf = true) : ∃ H', OK cfg (.fn 3 []) [.int .i64 a0, .sl 2 (some (0, 0)) 0] [.void] (.bool true) H' := filt.law_pv a0
theorem law_r (a0 : Int) (w0 : (Lit.int .i64 a0).wf = true) (rows : List (List V)) (hr : ∀ r ∈ rows, Typed (leaves Try.prog 3 36) r) : ∃ H', OK cfg (.fn 3 []) [.int .i64 a0, .sl 2 (some (0, 0)) rows.length] [.cells false rows.flatten] (.bool true) H' := filt.law_pr a0 rows hr

end Go.Proofs.Ytgpoojjajnlhjaa.filterPasses
