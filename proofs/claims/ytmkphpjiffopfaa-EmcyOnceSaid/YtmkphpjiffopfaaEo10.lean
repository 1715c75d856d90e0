/-
  A fault is told once, however often it is raised, until it is cleared.
-/
import Derived.Test.YtmkphpjiffopfaaEo9
set_option linter.unusedVariables false
set_option linter.unusedSimpArgs false
set_option maxRecDepth 100000
namespace Go.Proofs.Ytmkphpjiffopfaa.emcy
open Go Go.Vm Go.Ring

theorem noF_iff {F : List R2} {k : Int} : NoF F k ↔ ∀ x ∈ F, x.1 ≠ k := by
  constructor
  · intro h x hx
    obtain ⟨j, hj, e⟩ := List.getElem_of_mem hx
    have := h j hj
    rw [show F.getD j (0, 0) = x by rw [← e]; simp [List.getD_eq_getElem?_getD, List.getElem?_eq_getElem hj]] at this
    exact this
  · intro h j hj
    exact h _ (gr_mem F hj)
theorem fnd_last {F : List R2} {k b : Int} (h : NoF F k) : Fnd (F ++ [(k, b)]) k F.length := by
  refine ⟨by simp, by simp [List.getD_eq_getElem?_getD], fun j hj => ?_⟩
  have := h j hj
  rw [show (F ++ [(k, b)]).getD j (0, 0) = F.getD j (0, 0) by simp [List.getD_eq_getElem?_getD, List.getElem?_append_left hj]]
  exact this
theorem fnd_one (k b : Int) : Fnd [(k, b)] k 0 := ⟨by simp, rfl, fun j hj => by omega⟩
theorem push8_facts {s : Q} (h : s.Ok 8) (c : Int) : (push8 s c).Ok 8 ∧ (push8 s c).n = min (s.n + 1) 8 ∧ (push8 s c).lost = s.lost ∧ ∃ X, (push8 s c).list = X ++ [c] := by
  have hq := h.ql
  obtain ⟨u, hu⟩ : ∃ u, u = (if s.n = 8 then s.take else s) := ⟨_, rfl⟩
  have h1 : u.Ok 8 ∧ u.n < 8 ∧ u.n + 1 = min (s.n + 1) 8 ∧ u.lost = s.lost := by
    rw [hu]
    by_cases h8 : s.n = 8
    · rw [if_pos h8]
      have e : s.take.n = s.n - 1 := rfl
      exact ⟨take_ok h (by omega), by omega, by omega, rfl⟩
    · rw [if_neg h8]
      exact ⟨h, by omega, by omega, rfl⟩
  obtain ⟨g1, g2, g3, g4⟩ := h1
  have e : push8 s c = u.put 8 c := by unfold push8; rw [← hu]; rfl
  rw [e]
  exact ⟨put_ok g1 c, by rw [put_n g2]; exact g3, by rw [put_not (by omega)]; exact g4, u.list, put_list g1 g2 c⟩
theorem first_facts (c : Int) : (puts 8 ⟨[], 0, 0, 0⟩ [c]).Ok 8 ∧ (puts 8 ⟨[], 0, 0, 0⟩ [c]).n = 1 ∧ (puts 8 ⟨[], 0, 0, 0⟩ [c]).lost = 0 ∧ (puts 8 ⟨[], 0, 0, 0⟩ [c]).list = [] ++ [c] := by
  have hN : (⟨[], 0, 0, 0⟩ : Q).Ok 8 := ⟨by simp, .inl ⟨rfl, rfl⟩, by simp, by simp⟩
  have e : puts 8 ⟨[], 0, 0, 0⟩ [c] = Q.put ⟨[], 0, 0, 0⟩ 8 c := rfl
  rw [e]
  exact ⟨put_ok hN c, put_n (s := ⟨[], 0, 0, 0⟩) (q := 8) (by decide) c, by rw [put_not (by decide)], put_list hN (by decide) c⟩
/-- What is so ahead of a round. -/
structure In1 (S : List Int) (i : Nat) (F : List R2) (s : Q) (n : Nat) : Prop where
  len : F.length = n
  ni : n ≤ i
  ok : s.Ok 8
  sn : s.n = min n 8
  lost : s.lost = 0
  bits : ∀ x ∈ F, 0 ≤ x.2 ∧ x.2 < 8
  codes : ∀ x ∈ F, (1 ≤ x.1 ∧ x.1 ≤ 65535) ∧ ∃ j, j < i ∧ x.1 = gx S j
  nd : (F.map Prod.fst).Nodup
theorem In1.skip {S : List Int} {i : Nat} {F : List R2} {s : Q} {n : Nat} (h : In1 S i F s n) : In1 S (i + 1) F s n :=
  ⟨h.len, by have := h.ni; omega, h.ok, h.sn, h.lost, h.bits, fun x hx => ⟨(h.codes x hx).1, by obtain ⟨j, h1, h2⟩ := (h.codes x hx).2; exact ⟨j, by omega, h2⟩⟩, h.nd⟩
theorem bt_ok (i : Nat) : 0 ≤ bt i ∧ bt i < 8 := by
  have : bt i = (i : Int) % 8 := Int.tmod_eq_emod_of_nonneg (by omega)
  omega
theorem In1.more {S : List Int} {i : Nat} {F : List R2} {s : Q} {n : Nat} (h : In1 S i F s n) (hc : 1 ≤ gx S i ∧ gx S i ≤ 65535) (hN : NoF F (gx S i)) : In1 S (i + 1) (F ++ [(gx S i, bt i)]) (push8 s (gx S i)) (n + 1) := by
  obtain ⟨f1, f2, f3, _⟩ := push8_facts h.ok (gx S i)
  have hb := bt_ok i
  have hn := h.ni
  refine ⟨by simp [h.len], by omega, f1, by rw [f2, h.sn]; omega, by rw [f3]; exact h.lost, fun x hx => ?_, fun x hx => ?_, ?_⟩
  · rcases List.mem_append.1 hx with hx | hx
    · exact h.bits x hx
    · rw [List.mem_singleton.1 hx]; exact hb
  · rcases List.mem_append.1 hx with hx | hx
    · obtain ⟨h1, j, h2, h3⟩ := h.codes x hx
      exact ⟨h1, j, by omega, h3⟩
    · rw [List.mem_singleton.1 hx]; exact ⟨hc, i, by omega, rfl⟩
  · rw [List.map_append]
    refine List.pairwise_append.2 ⟨h.nd, by simp, fun a ha b hb2 => ?_⟩
    obtain ⟨x, hx, rfl⟩ := List.mem_map.1 ha
    simp only [List.map_cons, List.map_nil, List.mem_singleton] at hb2
    subst hb2
    exact noF_iff.1 hN x hx
theorem In1.first {S : List Int} {i : Nat} (hc : 1 ≤ gx S i ∧ gx S i ≤ 65535) : In1 S (i + 1) [(gx S i, bt i)] (puts 8 ⟨[], 0, 0, 0⟩ [gx S i]) 1 := by
  obtain ⟨f1, f2, f3, _⟩ := first_facts (gx S i)
  have hb := bt_ok i
  refine ⟨rfl, by omega, f1, by rw [f2]; decide, f3, fun x hx => ?_, fun x hx => ?_, by simp⟩
  · rw [List.mem_singleton.1 hx]; exact hb
  · rw [List.mem_singleton.1 hx]; exact ⟨hc, i, by omega, rfl⟩
theorem of_all (S : List Int) (m : Nat) (hm : m ≤ S.length) (h30 : m ≤ 30) : ∀ (d i : Nat) (F : List R2) (s : Q) (n : Nat), i + d = m → In1 S i F s n → ∃ (FZ : List R2) (z : Q) (nz : Nat), In1 S m FZ z nz ∧ (LOK cfg none (lb 3 0) ((.sl 1 (some (0, 0)) m) :: u_ :: u_ :: (.ptr (some (1, 0))) :: u_ :: (i6 ((n : Nat) : Int)) :: (i6 ((i : Nat) : Int)) :: us 154) [(bS S), c1 [(i6 1), (.sl 2 (some (2, 0)) F.length), (.ptr (some (3, 0))), (i6 ((n : Nat) : Int))], .cells true ((F.map encR).flatten), c1 [(.sl 1 (some (4, 0)) s.R.length), (i6 8), (i6 ((s.f : Nat) : Int)), (i6 ((s.n : Nat) : Int)), (i6 s.lost)], .cells true ((s.R).map (V.int .i64))] (.exit 0) ((.sl 1 (some (0, 0)) m) :: u_ :: u_ :: (.ptr (some (1, 0))) :: u_ :: (i6 ((nz : Nat) : Int)) :: us 155) [(bS S), c1 [(i6 1), (.sl 2 (some (5, 0)) FZ.length), (.ptr (some (3, 0))), (i6 ((nz : Nat) : Int))], d_, c1 [(.sl 1 (some (6, 0)) z.R.length), (i6 8), (i6 ((z.f : Nat) : Int)), (i6 ((z.n : Nat) : Int)), (i6 z.lost)], d_, .cells true ((FZ.map encR).flatten), .cells true ((z.R).map (V.int .i64))]) := by
  intro d
  induction d with
  | zero =>
    intro i F s n hi h
    have : i = m := by omega
    subst this
    exact ⟨F, s, n, h, ox_f S F [] s ⟨[], 0, 0, 0⟩ i n 0 i 0 (decide_eq_false (by omega))⟩
  | succ d IH =>
    intro i F s n hi h
    have hb := bt_ok i
    have hlen := h.len
    have hni := h.ni
    by_cases hc : 1 ≤ gx S i ∧ gx S i ≤ 65535
    · by_cases hN : NoF F (gx S i)
      · obtain ⟨po, pn0, pz, XX, pl⟩ := push8_facts h.ok (gx S i)
        have h' := h.more hc hN
        have hb2 := h'.bits
        have pn := h'.sn
        have hodd := regF_odd (F ++ [(gx S i, bt i)]) 1 (by decide) (by decide) hb2
        obtain ⟨FZ, z, nz, g, k⟩ := IH (i + 1) _ _ _ (by omega) h'
        exact ⟨FZ, z, nz, g, on_ff S F _ s _ m n _ i 0 (decide_eq_true (by omega)) (by omega) (by omega) (decide_eq_true (by omega)) (by omega) hN (by omega) (by omega) (by omega) h.ok (by rw [h.lost]; decide) h.bits (by omega) (by rw [show IntKind.wrap .i64 (7 - bt i) = 7 - bt i from wrap_i64 (by omega)]; omega) (by simp; try omega) (fnd_last hN) (decide_eq_true (by omega)) (by rw [decide_eq_true (show gx S i ≤ 65535 by omega)]; rfl) ((wrap_i64 (by omega)).trans (by simp)) po (by omega) (by rw [list_len, pn]; split <;> omega) (bne_self_eq_false _) (by rw [list_len]; omega) (by rw [List.length_reverse, list_len]; omega) (by rw [pl]; simp) hb2 (by simp; try omega) (by rw [Int.tmod_eq_emod_of_nonneg (by omega), hodd.2]; rfl) ((wrap_i64 (by omega)).trans (by simp)) k⟩
      · obtain ⟨ix, hx⟩ := has_of F _ hN
        obtain ⟨FZ, z, nz, g, k⟩ := IH (i + 1) _ _ _ (by omega) h.skip
        exact ⟨FZ, z, nz, g, ow_ff S F _ s _ m n _ i ix (decide_eq_true (by omega)) (by omega) (by omega) (decide_eq_true (by omega)) (by omega) hx (by omega) (by omega) (by rw [show IntKind.wrap .i64 (7 - bt i) = 7 - bt i from wrap_i64 (by omega)]; omega) (decide_eq_true (by omega)) (by rw [decide_eq_true (show gx S i ≤ 65535 by omega)]; rfl) ((wrap_i64 (by omega)).trans (by simp)) k⟩
    · have hN : NoF F (gx S i) := noF_iff.2 fun x hx e => by
        have := (h.codes x hx).1
        rw [e] at this
        exact hc this
      obtain ⟨FZ, z, nz, g, k⟩ := IH (i + 1) _ _ _ (by omega) h.skip
      by_cases hlo : gx S i < 1
      · exact ⟨FZ, z, nz, g, ol_ff S F _ s _ m n _ i 0 (decide_eq_true (by omega)) (by omega) (by omega) (decide_eq_false (by omega)) (by omega) hN (by omega) ((wrap_i64 (by omega)).trans (by simp)) k⟩
      · exact ⟨FZ, z, nz, g, oh_ff S F _ s _ m n _ i 0 (decide_eq_true (by omega)) (by omega) (by omega) (decide_eq_true (by omega)) (by omega) hN (by omega) (decide_eq_false (by omega)) (by rw [decide_eq_false (show ¬ gx S i ≤ 65535 by omega)]; rfl) ((wrap_i64 (by omega)).trans (by simp)) k⟩
theorem on_all (S : List Int) (m : Nat) (hm : m ≤ S.length) (h30 : m ≤ 30) : ∀ (d i : Nat), i + d = m → (LOK cfg none (lb 3 0) ((.sl 1 (some (0, 0)) m) :: u_ :: u_ :: (.ptr (some (1, 0))) :: u_ :: (i6 0) :: (i6 ((i : Nat) : Int)) :: us 154) [(bS S), l_n, q_n] (.exit 0) ((.sl 1 (some (0, 0)) m) :: u_ :: u_ :: (.ptr (some (1, 0))) :: u_ :: (i6 0) :: us 155) [(bS S), l_n, q_n]) ∨ ∃ (FZ : List R2) (z : Q) (nz : Nat), In1 S m FZ z nz ∧ (LOK cfg none (lb 3 0) ((.sl 1 (some (0, 0)) m) :: u_ :: u_ :: (.ptr (some (1, 0))) :: u_ :: (i6 0) :: (i6 ((i : Nat) : Int)) :: us 154) [(bS S), l_n, q_n] (.exit 0) ((.sl 1 (some (0, 0)) m) :: u_ :: u_ :: (.ptr (some (1, 0))) :: u_ :: (i6 ((nz : Nat) : Int)) :: us 155) [(bS S), c1 [(i6 1), (.sl 2 (some (3, 0)) FZ.length), (.ptr (some (2, 0))), (i6 ((nz : Nat) : Int))], c1 [(.sl 1 (some (4, 0)) z.R.length), (i6 8), (i6 ((z.f : Nat) : Int)), (i6 ((z.n : Nat) : Int)), (i6 z.lost)], .cells true ((FZ.map encR).flatten), .cells true ((z.R).map (V.int .i64))]) := by
  intro d
  induction d with
  | zero =>
    intro i hi
    exact .inl (ox_n S [] [] ⟨[], 0, 0, 0⟩ ⟨[], 0, 0, 0⟩ m 0 0 i 0 (decide_eq_false (by omega)))
  | succ d IH =>
    intro i hi
    have hb := bt_ok i
    by_cases hc : 1 ≤ gx S i ∧ gx S i ≤ 65535
    · obtain ⟨po, pn, pz, pl⟩ := first_facts (gx S i)
      have h' := In1.first hc
      have hb2 := h'.bits
      have hodd := regF_odd [(gx S i, bt i)] 1 (by decide) (by decide) hb2
      obtain ⟨FZ, z, nz, g, k⟩ := of_all S m hm h30 d (i + 1) _ _ _ (by omega) h'
      exact .inr ⟨FZ, z, nz, g, on_nf S [] _ ⟨[], 0, 0, 0⟩ _ m 0 _ i 0 (decide_eq_true (by omega)) (by omega) (by omega) (decide_eq_true (by omega)) (by omega) (by omega) (by rw [show IntKind.wrap .i64 (7 - bt i) = 7 - bt i from wrap_i64 (by omega)]; omega) (by simp; try omega) (fnd_one _ _) (decide_eq_true (by omega)) (by rw [decide_eq_true (show gx S i ≤ 65535 by omega)]; rfl) po (by omega) (by rw [list_len, pn]; rfl) (by rw [list_len]; omega) (by rw [List.length_reverse, list_len]; omega) (by rw [pl]; simp) hb2 (by simp; try omega) (by rw [Int.tmod_eq_emod_of_nonneg (by omega), hodd.2]; rfl) ((wrap_i64 (by omega)).trans (by simp)) k⟩
    · by_cases hlo : gx S i < 1
      · rcases IH (i + 1) (by omega) with k | ⟨FZ, z, nz, g, k⟩
        · exact .inl (ol_nn S [] [] ⟨[], 0, 0, 0⟩ ⟨[], 0, 0, 0⟩ m 0 0 i 0 (decide_eq_true (by omega)) (by omega) (by omega) (decide_eq_false (by omega)) (by omega) ((wrap_i64 (by omega)).trans (by simp)) k)
        · exact .inr ⟨FZ, z, nz, g, ol_nf S [] _ ⟨[], 0, 0, 0⟩ _ m 0 _ i 0 (decide_eq_true (by omega)) (by omega) (by omega) (decide_eq_false (by omega)) (by omega) ((wrap_i64 (by omega)).trans (by simp)) k⟩
      · rcases IH (i + 1) (by omega) with k | ⟨FZ, z, nz, g, k⟩
        · exact .inl (oh_nn S [] [] ⟨[], 0, 0, 0⟩ ⟨[], 0, 0, 0⟩ m 0 0 i 0 (decide_eq_true (by omega)) (by omega) (by omega) (decide_eq_true (by omega)) (by omega) (decide_eq_false (by omega)) (by rw [decide_eq_false (show ¬ gx S i ≤ 65535 by omega)]; rfl) ((wrap_i64 (by omega)).trans (by simp)) k)
        · exact .inr ⟨FZ, z, nz, g, oh_nf S [] _ ⟨[], 0, 0, 0⟩ _ m 0 _ i 0 (decide_eq_true (by omega)) (by omega) (by omega) (decide_eq_true (by omega)) (by omega) (decide_eq_false (by omega)) (by rw [decide_eq_false (show ¬ gx S i ≤ 65535 by omega)]; rfl) ((wrap_i64 (by omega)).trans (by simp)) k⟩
theorem p2n_all (S : List Int) (m : Nat) (hm : m ≤ S.length) (h30 : m ≤ 30) : ∀ (d j : Nat), j + d = m → LOK cfg none (lb 3 1) ((.sl 1 (some (0, 0)) m) :: u_ :: u_ :: (.ptr (some (1, 0))) :: u_ :: (i6 0) :: u_ :: u_ :: u_ :: u_ :: u_ :: u_ :: u_ :: u_ :: (i6 ((j : Nat) : Int)) :: us 146) [(bS S), l_n, q_n] (.exit 2) (u_ :: u_ :: u_ :: (.ptr (some (1, 0))) :: u_ :: (i6 0) :: us 155) [(bS S), l_n, q_n] := by
  intro d
  induction d with
  | zero =>
    intro j hj
    exact px_n S [] [] ⟨[], 0, 0, 0⟩ m 0 0 0 j 0 (decide_eq_false (by omega))
  | succ d IH =>
    intro j hj
    exact p2_n S [] [] ⟨[], 0, 0, 0⟩ m 0 0 0 j 0 (decide_eq_true (by omega)) (by omega) (by omega) ((wrap_i64 (by omega)).trans (by simp)) (IH (j + 1) (by omega))
/-- What is so ahead of a round that clears. -/
structure In2 (S : List Int) (m j : Nat) (F : List R2) (n t : Nat) : Prop where
  sum : t + F.length = n + n
  n30 : n ≤ 30
  bits : ∀ x ∈ F, 0 ≤ x.2 ∧ x.2 < 8
  codes : ∀ x ∈ F, ∃ i, j ≤ i ∧ i < m ∧ x.1 = gx S i
  nd : (F.map Prod.fst).Nodup
theorem p2f_all (S : List Int) (s : Q) (m n : Nat) (hm : m ≤ S.length) (h30 : m ≤ 30) : ∀ (d j : Nat) (F : List R2) (t : Nat), j + d = m → In2 S m j F n t → ∃ (tz : Nat), tz = n + n ∧ (LOK cfg none (lb 3 1) ((.sl 1 (some (0, 0)) m) :: u_ :: u_ :: (.ptr (some (1, 0))) :: u_ :: (i6 ((n : Nat) : Int)) :: u_ :: u_ :: u_ :: u_ :: u_ :: u_ :: u_ :: u_ :: (i6 ((j : Nat) : Int)) :: us 146) [(bS S), c1 [(i6 1), (.sl 2 (some (2, 0)) F.length), (.ptr (some (3, 0))), (i6 ((t : Nat) : Int))], .cells true ((F.map encR).flatten), c1 [(.sl 1 (some (4, 0)) s.R.length), (i6 8), (i6 ((s.f : Nat) : Int)), (i6 ((s.n : Nat) : Int)), (i6 s.lost)], .cells true ((s.R).map (V.int .i64))] (.exit 2) (u_ :: u_ :: u_ :: (.ptr (some (1, 0))) :: u_ :: (i6 ((n : Nat) : Int)) :: us 155) [(bS S), c1 [(i6 1), (.sl 2 (some (2, 0)) ([] : List R2).length), (.ptr (some (3, 0))), (i6 ((tz : Nat) : Int))], .cells true ((([] : List R2).map encR).flatten), c1 [(.sl 1 (some (4, 0)) s.R.length), (i6 8), (i6 ((s.f : Nat) : Int)), (i6 ((s.n : Nat) : Int)), (i6 s.lost)], .cells true ((s.R).map (V.int .i64))]) := by
  intro d
  induction d with
  | zero =>
    intro j F t hj h
    have : j = m := by omega
    subst this
    have hF : F = [] := by
      cases F with
      | nil => rfl
      | cons x F =>
        obtain ⟨i, h1, h2, _⟩ := h.codes x (by simp)
        omega
    subst hF
    have := h.sum
    exact ⟨t, by simpa using this, px_f S [] [] s j n t 0 j 0 (decide_eq_false (by omega))⟩
  | succ d IH =>
    intro j F t hj h
    have hsum := h.sum
    have hn30 := h.n30
    by_cases hN : NoF F (gx S j)
    · have h' : In2 S m (j + 1) F n t := ⟨hsum, hn30, h.bits, fun x hx => by
        obtain ⟨i, h1, h2, h3⟩ := h.codes x hx
        have : i ≠ j := fun e => noF_iff.1 hN x hx (by rw [h3, e])
        exact ⟨i, by omega, h2, h3⟩, h.nd⟩
      obtain ⟨tz, e, k⟩ := IH (j + 1) F t (by omega) h'
      exact ⟨tz, e, p2_f S F [] s m n t tz j 0 (decide_eq_true (by omega)) (by omega) (by omega) hN (by omega) ((wrap_i64 (by omega)).trans (by simp)) k⟩
    · obtain ⟨ix, hx⟩ := has_of F _ hN
      have hxx := hx.x
      have eF : F = F.take ix ++ F.getD ix (0, 0) :: F.drop (ix + 1) := by rw [← gr_at F hxx, List.take_append_drop]
      have hnd := h.nd
      rw [eF, List.map_append, List.map_cons, hx.e] at hnd
      obtain ⟨d1, d2, d3⟩ := List.pairwise_append.1 hnd
      obtain ⟨d4, d5⟩ := List.pairwise_cons.1 d2
      have hne : ∀ x ∈ F.take ix ++ F.drop (ix + 1), x.1 ≠ gx S j := by
        intro x hx2
        rcases List.mem_append.1 hx2 with h1 | h1
        · exact d3 _ (List.mem_map_of_mem h1) _ (by simp)
        · exact fun e => d4 _ (List.mem_map_of_mem h1) e.symm
      have hsub : ∀ x ∈ F.take ix ++ F.drop (ix + 1), x ∈ F := by
        intro x hx2
        rcases List.mem_append.1 hx2 with h1 | h1
        · exact List.mem_of_mem_take h1
        · exact List.mem_of_mem_drop h1
      have hN2 : NoF (F.take ix ++ F.drop (ix + 1)) (gx S j) := noF_iff.2 hne
      have h' : In2 S m (j + 1) (F.take ix ++ F.drop (ix + 1)) n (t + 1) := ⟨by simp; omega, hn30, fun x hx2 => h.bits x (hsub x hx2), fun x hx2 => by
        obtain ⟨i, h1, h2, h3⟩ := h.codes x (hsub x hx2)
        have : i ≠ j := fun e => hne x hx2 (by rw [h3, e])
        exact ⟨i, by omega, h2, h3⟩, by
        rw [List.map_append]
        exact List.pairwise_append.2 ⟨d1, d5, fun a ha b hb2 => d3 a ha b (by simp at hb2 ⊢; exact .inr hb2)⟩⟩
      obtain ⟨tz, e, k⟩ := IH (j + 1) _ (t + 1) (by omega) h'
      exact ⟨tz, e, p2_h S F [] s m n t tz j ix (decide_eq_true (by omega)) (by omega) (by omega) hx (by omega) (by omega) h.bits hN2 (by simp; omega) ((wrap_i64 (by omega)).trans (by simp)) k⟩
theorem p_r (S : List Int) : ∃ H', OK cfg (.fn 3 []) [.sl 1 (some (0, 0)) S.length] [(bS S)] (.bool true) H' := by
  obtain ⟨m, hmin⟩ : ∃ m, m = min S.length 30 := ⟨_, rfl⟩
  rcases on_all S m (by omega) (by omega) m 0 (by omega) with k | ⟨FZ, z, nz, g, k⟩
  · exact ⟨_, lw_n S [] [] ⟨[], 0, 0, 0⟩ S.length m 0 0 k (p2n_all S m (by omega) (by omega) m 0 (by omega)) (by split <;> omega) (by omega)⟩
  · have hl := g.len
    have hn := g.ni
    have g2 : In2 S m 0 FZ nz nz := ⟨by omega, by omega, g.bits, fun x hx => by
      obtain ⟨_, j, h1, h2⟩ := g.codes x hx
      exact ⟨j, by omega, h1, h2⟩, g.nd⟩
    obtain ⟨tz, e, k2⟩ := p2f_all S z m nz (by omega) (by omega) m 0 FZ nz (by omega) g2
    exact ⟨_, OK.eqb (lw_f S FZ [] z S.length m nz tz k k2 (by split <;> omega) (by omega) (bne_self_eq_false _) rfl) (by rw [show IntKind.wrap .i64 (((nz : Nat) : Int) + ((nz : Nat) : Int)) = ((nz : Nat) : Int) + ((nz : Nat) : Int) from wrap_i64 (by omega)]; exact beq_iff_eq.2 (by omega))⟩
end Go.Proofs.Ytmkphpjiffopfaa.emcy
namespace Go.Proofs.Ytmkphpjiffopfaa.emcyOnce
open Go Go.Vm
noncomputable abbrev cfg : Cfg := emcy.cfg
theorem law_n : ∃ H', OK cfg (.fn 3 []) [.sl 1 none 0] [] (.bool true) H' := emcy.lw_nil
theorem law_v : ∃ H', OK cfg (.fn 3 []) [.sl 1 (some (0, 0)) 0] [.void] (.bool true) H' := emcy.lw_void
theorem law_r (rows : List (List V)) (hr : ∀ r ∈ rows, Typed (leaves Try.prog 4 3) r) : ∃ H', OK cfg (.fn 3 []) [.sl 1 (some (0, 0)) rows.length] [.cells false rows.flatten] (.bool true) H' := by
  have e : leaves Try.prog 4 3 = [.int .i64] := by kernel_rfl
  rw [e] at hr
  obtain ⟨S, h1, h2, _⟩ := rows_int hr
  rw [h1, h2]
  exact emcy.p_r S

end Go.Proofs.Ytmkphpjiffopfaa.emcyOnce
