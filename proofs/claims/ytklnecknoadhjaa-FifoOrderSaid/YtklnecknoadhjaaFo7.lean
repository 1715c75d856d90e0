/-
  Things are taken in the order in which they came; what came is taken, there, or lost, each once.
-/
import Derived.Test.YtklnecknoadhjaaFo5
set_option linter.unusedVariables false
set_option linter.unusedSimpArgs false
set_option maxRecDepth 100000
namespace Go.Proofs.Ytklnecknoadhjaa.fifo
open Go Go.Vm Go.Ring

theorem RowsIs (S : List WT) (C : Nat → List V) (D : Nat → List Int) (hr : Rows C D S) (i : Nat) (hi : i < S.length) : ((gW S i).1 = none ∧ (gW S i).2 = 0 ∧ D i = []) ∨ ((gW S i).1 = some (i, 0) ∧ (gW S i).2 = (D i).length ∧ C i = (D i).map (V.int .i64)) := by
  by_cases h : (gW S i).1 = none
  · exact .inl ⟨h, (hr.a i hi h).1, (hr.a i hi h).2⟩
  · exact .inr (hr.b i hi h)
/-- How many are taken. -/
def tkv (T : List Int) (i : Nat) : Nat := if i < T.length then (T.getD (0 + (i * 1)) 0 % 8).toNat else 0
theorem tkv_le (T : List Int) (i : Nat) : tkv T i ≤ 8 := by unfold tkv; split <;> omega
theorem tkv_w (T : List Int) (hT : ∀ x ∈ T, 0 ≤ x ∧ x < 256) (i : Nat) : i < T.length → IntKind.wrap .i64 (Int.tmod ((T).getD (0 + (i * 1)) 0) 8) = ((tkv T i : Nat) : Int) := by
  intro h
  have hx : 0 ≤ T.getD (0 + (i * 1)) 0 := by
    have e : T.getD (0 + (i * 1)) 0 = T[i] := by
      rw [show 0 + (i * 1) = i by omega]
      simp [List.getD_eq_getElem?_getD, List.getElem?_eq_getElem h]
    rw [e]
    exact (hT _ (List.getElem_mem h)).1
  rw [Int.tmod_eq_emod_of_nonneg hx, tkv, if_pos h]
  exact (wrap_i64 (by omega)).trans (by omega)
theorem tkv_z (T : List Int) (i : Nat) : ¬ i < T.length → tkv T i = 0 := by intro h; unfold tkv; rw [if_neg h]

theorem of_r (S : List WT) (X : List V) (C : Nat → List V) (D : Nat → List Int) (hC : ∀ k, plains (C k) = true) (hR : HR S X 20) (m q : Nat) (hm : S.length = min m 20) (hq : q ≤ 40) (hr : Rows C D S) (T : List Int) (hT : ∀ x ∈ T, 0 ≤ x ∧ x < 256) : ∀ (d i : Nat) (s : Q) (K G : List Int) (cm : Nat), i + d = S.length → s.Ok q → K = G ++ s.list → ((cm : Nat) : Int) = K.length + s.lost → 0 ≤ s.lost → cm ≤ 20 * i → ∃ (cm2 : Nat) (z : Q) (KZ GZ : List Int), z.Ok q ∧ KZ = GZ ++ z.list ∧ ((cm2 : Nat) : Int) = KZ.length + z.lost ∧ 0 ≤ z.lost ∧ cm2 ≤ 400 ∧ (LOK cfg none (lb 4 0) (u_ :: (.sl 1 (some (20, 0)) m) :: (.sl 1 (some (21, 0)) T.length) :: u_ :: u_ :: u_ :: u_ :: (.ptr (some (22, 0))) :: (i6 ((cm : Nat) : Int)) :: (.sl 1 (some (24, 0)) K.length) :: (.sl 1 (some (25, 0)) G.length) :: (i6 ((i : Nat) : Int)) :: us 122) (hA C S X [.cells false ((T).map (V.int .u8)), c1 [(.sl 1 (some (23, 0)) s.R.length), (i6 ((q : Nat) : Int)), (i6 ((s.f : Nat) : Int)), (i6 ((s.n : Nat) : Int)), (i6 s.lost)], .cells true ((s.R).map (V.int .i64)), .cells true ((K).map (V.int .i64)), .cells true ((G).map (V.int .i64))]) (.exit 0) (u_ :: u_ :: u_ :: u_ :: u_ :: u_ :: u_ :: (.ptr (some (22, 0))) :: (i6 ((cm2 : Nat) : Int)) :: (.sl 1 (some (27, 0)) KZ.length) :: (.sl 1 (some (28, 0)) GZ.length) :: us 123) (hA C S X [.cells false ((T).map (V.int .u8)), c1 [(.sl 1 (some (26, 0)) z.R.length), (i6 ((q : Nat) : Int)), (i6 ((z.f : Nat) : Int)), (i6 ((z.n : Nat) : Int)), (i6 z.lost)], d_, d_, d_, .cells true ((z.R).map (V.int .i64)), .cells true ((KZ).map (V.int .i64)), .cells true ((GZ).map (V.int .i64))])) := by
  intro d
  induction d with
  | zero =>
    intro i s K G cm hi h hK hcm hlo hc
    refine ⟨cm, s, K, G, h, hK, hcm, hlo, by omega, ?_⟩
    by_cases h20 : i < m
    · exact oy_fr S X C D hC hR i m q 0 0 cm 0 0 0 s s s s T K K G G G (decide_eq_true (by omega)) (decide_eq_false (by omega))
    · exact ox_fr S X C D hC hR i m q 0 0 cm 0 0 0 s s s s T K K G G G (decide_eq_false (by omega))
  | succ d IH =>
    intro i s K G cm hii h hK hcm hlo hc
    have hi : i < S.length := by omega
    have hKl : G.length ≤ K.length := by rw [hK]; simp
    rcases RowsIs S C D hr i hi with ⟨hp, hz, hd⟩ | ⟨hp, hl, hC3⟩
    · obtain ⟨j1, j2, j3, j4⟩ := takeK_inv (tkv T i) s G h
      obtain ⟨cm2, z, KZ, GZ, g1, g2, g3, g4, g5, k⟩ := IH (i + 1) (takeK (tkv T i) (s, G)).1 K (takeK (tkv T i) (s, G)).2 cm (by omega) j1 (by rw [j2]; exact hK) (by rw [j3]; exact hcm) (by rw [j3]; exact hlo) (by omega)
      exact ⟨cm2, z, KZ, GZ, g1, g2, g3, g4, g5, ra_ffr S X C D hC hR i (by omega) m q 0 0 cm _ 0 0 s s ((takeK (tkv T i) (s, G)).1) _ T K _ G ((takeK (tkv T i) (s, G)).2) _ (t1f_all T K m q cm i (tkv T i) (by omega) (tkv_le T i) (tkv_w T hT i) (tkv_z T i) (tkv T i) 0 s G (by omega) h (by omega)) hp hi hz (decide_eq_true (by omega)) (decide_eq_true (by omega)) (by omega) ((wrap_i64 (by omega)).trans (by omega)) (Nat.add_zero _) ((wrap_i64 (by omega)).trans (by omega)) k⟩
    · obtain ⟨w, hw⟩ : ∃ w, w = min (D i).length 20 := ⟨_, rfl⟩
      obtain ⟨k, p1, p2, p3, p4, p5⟩ := puts_gen (q := q) ((D i).take w) h
      have hwl : ((D i).take w).length = w := by rw [List.length_take]; omega
      rw [hwl] at p1 p5
      have p6 : ((D i).take w).take k = (D i).take k := by rw [List.take_take]; congr 1; omega
      rw [p6] at p4
      obtain ⟨j1, j2, j3, j4⟩ := takeK_inv (tkv T i) (puts q s ((D i).take w)) G p2
      by_cases hk0 : k = 0
      · subst hk0
        have hk : (puts q s ((D i).take w)).n = s.n := by omega
        obtain ⟨cm2, z, KZ, GZ, g1, g2, g3, g4, g5, kk⟩ := IH (i + 1) (takeK (tkv T i) ((puts q s ((D i).take w)), G)).1 K (takeK (tkv T i) ((puts q s ((D i).take w)), G)).2 (cm + w) (by omega) j1 (by rw [j2, p4, hK]; simp) (by rw [j3, p5]; omega) (by rw [j3, p5]; omega) (by omega)
        exact ⟨cm2, z, KZ, GZ, g1, g2, g3, g4, g5, rc_ffr S X C D hC hR i (by omega) m q w 0 cm _ 0 0 s (puts q s ((D i).take w)) ((takeK (tkv T i) ((puts q s ((D i).take w)), G)).1) _ T K _ G ((takeK (tkv T i) ((puts q s ((D i).take w)), G)).2) _ (t1f_all T K m q (cm + w) i (tkv T i) (by omega) (tkv_le T i) (tkv_w T hT i) (tkv_z T i) (tkv T i) 0 (puts q s ((D i).take w)) G (by omega) p2 (by omega)) hp hi hC3 (decide_eq_true (by omega)) (decide_eq_true (by omega)) (by omega) (by split <;> omega) (by omega) ((wrap_i64 (by omega)).trans (by omega)) (by omega) (by omega) h (by omega) (by omega) rfl hk (decide_eq_false (by omega)) (by omega) (Nat.add_zero _) ((wrap_i64 (by omega)).trans (by omega)) kk⟩
      · have hk := p3
        obtain ⟨cm2, z, KZ, GZ, g1, g2, g3, g4, g5, kk⟩ := IH (i + 1) (takeK (tkv T i) ((puts q s ((D i).take w)), G)).1 (K ++ (D i).take k) (takeK (tkv T i) ((puts q s ((D i).take w)), G)).2 (cm + w) (by omega) j1 (by rw [j2, p4, hK]; simp) (by rw [j3, p5, List.length_append, List.length_take]; omega) (by rw [j3, p5]; omega) (by omega)
        exact ⟨cm2, z, KZ, GZ, g1, g2, g3, g4, g5, rp_ffr S X C D hC hR i (by omega) m q w k cm _ 0 0 s (puts q s ((D i).take w)) ((takeK (tkv T i) ((puts q s ((D i).take w)), G)).1) _ T K _ G ((takeK (tkv T i) ((puts q s ((D i).take w)), G)).2) _ (t1f_all T (K ++ (D i).take k) m q (cm + w) i (tkv T i) (by omega) (tkv_le T i) (tkv_w T hT i) (tkv_z T i) (tkv T i) 0 (puts q s ((D i).take w)) G (by omega) p2 (by omega)) hp hi hC3 (decide_eq_true (by omega)) (decide_eq_true (by omega)) (by omega) (by split <;> omega) (by omega) ((wrap_i64 (by omega)).trans (by omega)) (by omega) (by omega) h (by omega) (by omega) rfl hk (decide_eq_false (by omega)) (by omega) (by simp; try omega) (by omega) (by omega) (by rw [← List.map_drop, ← List.map_take]; exact ones_map _ (fun _ => rfl) _) (by simp; try omega) (by simp [List.map_take]) (by simp; omega) ((wrap_i64 (by omega)).trans (by omega)) kk⟩
theorem on_r (S : List WT) (X : List V) (C : Nat → List V) (D : Nat → List Int) (hC : ∀ k, plains (C k) = true) (hR : HR S X 20) (m q : Nat) (hm : S.length = min m 20) (hq : q ≤ 40 ∧ q ≠ 0) (hr : Rows C D S) (T : List Int) (hT : ∀ x ∈ T, 0 ≤ x ∧ x < 256) : ∀ (d i : Nat) (lo : Int) (cm : Nat), i + d = S.length → ((cm : Nat) : Int) = lo → cm ≤ 20 * i → (∃ (cm2 : Nat) (lo2 : Int), ((cm2 : Nat) : Int) = lo2 ∧ cm2 ≤ 400 ∧ (LOK cfg none (lb 4 0) (u_ :: (.sl 1 (some (20, 0)) m) :: (.sl 1 (some (21, 0)) T.length) :: u_ :: u_ :: u_ :: u_ :: (.ptr (some (22, 0))) :: (i6 ((cm : Nat) : Int)) :: (.sl 1 (some (23, 0)) 0) :: (.sl 1 (some (24, 0)) 0) :: (i6 ((i : Nat) : Int)) :: us 122) (hA C S X [.cells false ((T).map (V.int .u8)), c1 [(.sl 0 none 0), (i6 ((q : Nat) : Int)), (i6 0), (i6 0), (i6 lo)], c1 [], c1 []]) (.exit 0) (u_ :: u_ :: u_ :: u_ :: u_ :: u_ :: u_ :: (.ptr (some (22, 0))) :: (i6 ((cm2 : Nat) : Int)) :: (.sl 1 (some (23, 0)) 0) :: (.sl 1 (some (24, 0)) 0) :: us 123) (hA C S X [.cells false ((T).map (V.int .u8)), c1 [(.sl 0 none 0), (i6 ((q : Nat) : Int)), (i6 0), (i6 0), (i6 lo2)], c1 [], c1 []]))) ∨ ∃ (cm2 : Nat) (z : Q) (KZ GZ : List Int), z.Ok q ∧ KZ = GZ ++ z.list ∧ ((cm2 : Nat) : Int) = KZ.length + z.lost ∧ 0 ≤ z.lost ∧ cm2 ≤ 400 ∧ (LOK cfg none (lb 4 0) (u_ :: (.sl 1 (some (20, 0)) m) :: (.sl 1 (some (21, 0)) T.length) :: u_ :: u_ :: u_ :: u_ :: (.ptr (some (22, 0))) :: (i6 ((cm : Nat) : Int)) :: (.sl 1 (some (23, 0)) 0) :: (.sl 1 (some (24, 0)) 0) :: (i6 ((i : Nat) : Int)) :: us 122) (hA C S X [.cells false ((T).map (V.int .u8)), c1 [(.sl 0 none 0), (i6 ((q : Nat) : Int)), (i6 0), (i6 0), (i6 lo)], c1 [], c1 []]) (.exit 0) (u_ :: u_ :: u_ :: u_ :: u_ :: u_ :: u_ :: (.ptr (some (22, 0))) :: (i6 ((cm2 : Nat) : Int)) :: (.sl 1 (some (26, 0)) KZ.length) :: (.sl 1 (some (27, 0)) GZ.length) :: us 123) (hA C S X [.cells false ((T).map (V.int .u8)), c1 [(.sl 1 (some (25, 0)) z.R.length), (i6 ((q : Nat) : Int)), (i6 ((z.f : Nat) : Int)), (i6 ((z.n : Nat) : Int)), (i6 z.lost)], d_, d_, .cells true ((z.R).map (V.int .i64)), .cells true ((KZ).map (V.int .i64)), .cells true ((GZ).map (V.int .i64))])) := by
  intro d
  induction d with
  | zero =>
    intro i lo cm hi hlo hc
    refine .inl ⟨cm, lo, hlo, by omega, ?_⟩
    by_cases h20 : i < m
    · exact oy_nr S X C D hC hR i m q 0 0 cm 0 lo 0 ⟨[], 0, 0, 0⟩ ⟨[], 0, 0, 0⟩ ⟨[], 0, 0, 0⟩ ⟨[], 0, 0, 0⟩ T [] [] [] [] [] (decide_eq_true (by omega)) (decide_eq_false (by omega))
    · exact ox_nr S X C D hC hR i m q 0 0 cm 0 lo 0 ⟨[], 0, 0, 0⟩ ⟨[], 0, 0, 0⟩ ⟨[], 0, 0, 0⟩ ⟨[], 0, 0, 0⟩ T [] [] [] [] [] (decide_eq_false (by omega))
  | succ d IH =>
    intro i lo cm hii hlo hc
    have hi : i < S.length := by omega
    rcases RowsIs S C D hr i hi with ⟨hp, hz, hd⟩ | ⟨hp, hl, hC3⟩
    · rcases IH (i + 1) lo cm (by omega) hlo (by omega) with ⟨cm2, lo2, g1, g2, k⟩ | ⟨cm2, z, KZ, GZ, g1, g2, g3, g4, g5, k⟩
      · exact .inl ⟨cm2, lo2, g1, g2, ra_nnr S X C D hC hR i (by omega) m q 0 0 cm _ lo _ ⟨[], 0, 0, 0⟩ ⟨[], 0, 0, 0⟩ ⟨[], 0, 0, 0⟩ ⟨[], 0, 0, 0⟩ T [] [] [] [] [] (t1n_all T [] [] m q cm i (tkv T i) lo (tkv_le T i) (tkv_w T hT i) (tkv_z T i) (tkv T i) 0 (by omega)) hp hi hz (decide_eq_true (by omega)) (decide_eq_true (by omega)) (by omega) ((wrap_i64 (by omega)).trans (by omega)) ((wrap_i64 (by omega)).trans (by omega)) k⟩
      · exact .inr ⟨cm2, z, KZ, GZ, g1, g2, g3, g4, g5, ra_nfr S X C D hC hR i (by omega) m q 0 0 cm _ lo 0 ⟨[], 0, 0, 0⟩ ⟨[], 0, 0, 0⟩ ⟨[], 0, 0, 0⟩ _ T [] _ [] [] _ (t1n_all T [] [] m q cm i (tkv T i) lo (tkv_le T i) (tkv_w T hT i) (tkv_z T i) (tkv T i) 0 (by omega)) hp hi hz (decide_eq_true (by omega)) (decide_eq_true (by omega)) (by omega) ((wrap_i64 (by omega)).trans (by omega)) ((wrap_i64 (by omega)).trans (by omega)) k⟩
    · obtain ⟨w, hw⟩ : ∃ w, w = min (D i).length 20 := ⟨_, rfl⟩
      by_cases hw0 : w = 0
      · rcases IH (i + 1) lo cm (by omega) hlo (by omega) with ⟨cm2, lo2, g1, g2, k⟩ | ⟨cm2, z, KZ, GZ, g1, g2, g3, g4, g5, k⟩
        · exact .inl ⟨cm2, lo2, g1, g2, rz_nnr S X C D hC hR i (by omega) m q 0 0 cm _ lo _ ⟨[], 0, 0, 0⟩ ⟨[], 0, 0, 0⟩ ⟨[], 0, 0, 0⟩ ⟨[], 0, 0, 0⟩ T [] [] [] [] [] (t1n_all T [] [] m q cm i (tkv T i) lo (tkv_le T i) (tkv_w T hT i) (tkv_z T i) (tkv T i) 0 (by omega)) hp hi hC3 (decide_eq_true (by omega)) (decide_eq_true (by omega)) (by omega) (by split <;> omega) (by omega) ((wrap_i64 (by omega)).trans (by omega)) ((wrap_i64 (by omega)).trans (by omega)) k⟩
        · exact .inr ⟨cm2, z, KZ, GZ, g1, g2, g3, g4, g5, rz_nfr S X C D hC hR i (by omega) m q 0 0 cm _ lo 0 ⟨[], 0, 0, 0⟩ ⟨[], 0, 0, 0⟩ ⟨[], 0, 0, 0⟩ _ T [] _ [] [] _ (t1n_all T [] [] m q cm i (tkv T i) lo (tkv_le T i) (tkv_w T hT i) (tkv_z T i) (tkv T i) 0 (by omega)) hp hi hC3 (decide_eq_true (by omega)) (decide_eq_true (by omega)) (by omega) (by split <;> omega) (by omega) ((wrap_i64 (by omega)).trans (by omega)) ((wrap_i64 (by omega)).trans (by omega)) k⟩
      · have hN : (⟨[], 0, 0, lo⟩ : Q).Ok q := ⟨by simp, .inl ⟨rfl, rfl⟩, by simp, by simp⟩
        obtain ⟨k, p1, p2, p3, p4, p5⟩ := puts_gen (q := q) ((D i).take w) hN
        have hwl : ((D i).take w).length = w := by rw [List.length_take]; omega
        rw [hwl] at p1 p5
        have p6 : ((D i).take w).take k = (D i).take k := by rw [List.take_take]; congr 1; omega
        rw [p6] at p4
        simp only [Nat.zero_add] at p3 p5
        have p7 : (⟨[], 0, 0, lo⟩ : Q).list = [] := rfl
        rw [p7, List.nil_append] at p4
        have hk := p3
        have hk0 : k ≠ 0 := by
          intro e
          subst e
          have ed : (D i).take w = (D i).getD 0 0 :: ((D i).take w).drop 1 := by
            have := List.drop_eq_getElem_cons (show 0 < ((D i).take w).length by omega)
            rw [List.drop_zero] at this
            rw [this]
            simp [List.getD_eq_getElem?_getD, List.getElem?_eq_getElem (show 0 < (D i).length by omega)]
          have h1 := put_n (s := ⟨[], 0, 0, lo⟩) (q := q) (by simp only; omega) ((D i).getD 0 0)
          obtain ⟨k2, _, _, q3, _, _⟩ := puts_gen (q := q) (((D i).take w).drop 1) (put_ok hN ((D i).getD 0 0))
          rw [ed] at p3
          have : (puts q (Q.put ⟨[], 0, 0, lo⟩ q ((D i).getD 0 0)) (((D i).take w).drop 1)).n = 0 := p3
          omega
        obtain ⟨j1, j2, j3, j4⟩ := takeK_inv (tkv T i) (puts q ⟨[], 0, 0, lo⟩ ((D i).take w)) [] p2
        obtain ⟨cm2, z, KZ, GZ, g1, g2, g3, g4, g5, kk⟩ := of_r S X C D hC hR m q hm (by omega) hr T hT d (i + 1) (takeK (tkv T i) ((puts q ⟨[], 0, 0, lo⟩ ((D i).take w)), [])).1 ((D i).take k) (takeK (tkv T i) ((puts q ⟨[], 0, 0, lo⟩ ((D i).take w)), [])).2 (cm + w) (by omega) j1 (by rw [j2, p4]; simp) (by rw [j3, p5, List.length_take]; omega) (by rw [j3, p5]; omega) (by omega)
        exact .inr ⟨cm2, z, KZ, GZ, g1, g2, g3, g4, g5, rp_nfr S X C D hC hR i (by omega) m q w k cm _ lo 0 ⟨[], 0, 0, 0⟩ (puts q ⟨[], 0, 0, lo⟩ ((D i).take w)) ((takeK (tkv T i) ((puts q ⟨[], 0, 0, lo⟩ ((D i).take w)), [])).1) _ T [] _ [] ((takeK (tkv T i) ((puts q ⟨[], 0, 0, lo⟩ ((D i).take w)), [])).2) _ (t1f_all T ((D i).take k) m q (cm + w) i (tkv T i) (by omega) (tkv_le T i) (tkv_w T hT i) (tkv_z T i) (tkv T i) 0 (puts q ⟨[], 0, 0, lo⟩ ((D i).take w)) [] (by omega) p2 (by simp)) hp hi hC3 (decide_eq_true (by omega)) (decide_eq_true (by omega)) (by omega) (by split <;> omega) (by omega) ((wrap_i64 (by omega)).trans (by omega)) (by omega) (by omega) (by omega) (by omega) (by omega) (by omega) rfl hk (decide_eq_false (by omega)) (by omega) (by simp; try omega) (by omega) (by omega) (by rw [← List.map_drop, ← List.map_take]; exact ones_map _ (fun _ => rfl) _) (by simp [List.map_take]) rfl rfl (by simp; omega) ((wrap_i64 (by omega)).trans (by omega)) kk⟩
theorem oz_r (S : List WT) (X : List V) (C : Nat → List V) (D : Nat → List Int) (hC : ∀ k, plains (C k) = true) (hR : HR S X 20) (m q : Nat) (hm : S.length = min m 20) (hq : q ≤ 40) (hr : Rows C D S) (T : List Int) (hT : ∀ x ∈ T, 0 ≤ x ∧ x < 256) (hq0 : q = 0) : ∀ (d i : Nat) (lo : Int) (cm : Nat), i + d = S.length → ((cm : Nat) : Int) = lo → cm ≤ 20 * i → ∃ (cm2 : Nat) (lo2 : Int), ((cm2 : Nat) : Int) = lo2 ∧ cm2 ≤ 400 ∧ (LOK cfg none (lb 4 0) (u_ :: (.sl 1 (some (20, 0)) m) :: (.sl 1 (some (21, 0)) T.length) :: u_ :: u_ :: u_ :: u_ :: (.ptr (some (22, 0))) :: (i6 ((cm : Nat) : Int)) :: (.sl 1 (some (23, 0)) 0) :: (.sl 1 (some (24, 0)) 0) :: (i6 ((i : Nat) : Int)) :: us 122) (hA C S X [.cells false ((T).map (V.int .u8)), c1 [(.sl 0 none 0), (i6 ((q : Nat) : Int)), (i6 0), (i6 0), (i6 lo)], c1 [], c1 []]) (.exit 0) (u_ :: u_ :: u_ :: u_ :: u_ :: u_ :: u_ :: (.ptr (some (22, 0))) :: (i6 ((cm2 : Nat) : Int)) :: (.sl 1 (some (23, 0)) 0) :: (.sl 1 (some (24, 0)) 0) :: us 123) (hA C S X [.cells false ((T).map (V.int .u8)), c1 [(.sl 0 none 0), (i6 ((q : Nat) : Int)), (i6 0), (i6 0), (i6 lo2)], c1 [], c1 []])) := by
  subst hq0
  intro d
  induction d with
  | zero =>
    intro i lo cm hi hlo hc
    refine ⟨cm, lo, hlo, by omega, ?_⟩
    by_cases h20 : i < m
    · exact oy_nr S X C D hC hR i m 0 0 0 cm 0 lo 0 ⟨[], 0, 0, 0⟩ ⟨[], 0, 0, 0⟩ ⟨[], 0, 0, 0⟩ ⟨[], 0, 0, 0⟩ T [] [] [] [] [] (decide_eq_true (by omega)) (decide_eq_false (by omega))
    · exact ox_nr S X C D hC hR i m 0 0 0 cm 0 lo 0 ⟨[], 0, 0, 0⟩ ⟨[], 0, 0, 0⟩ ⟨[], 0, 0, 0⟩ ⟨[], 0, 0, 0⟩ T [] [] [] [] [] (decide_eq_false (by omega))
  | succ d IH =>
    intro i lo cm hii hlo hc
    have hi : i < S.length := by omega
    rcases RowsIs S C D hr i hi with ⟨hp, hz, hd⟩ | ⟨hp, hl, hC3⟩
    · obtain ⟨cm2, lo2, g1, g2, k⟩ := IH (i + 1) lo cm (by omega) hlo (by omega)
      exact ⟨cm2, lo2, g1, g2, ra_nnr S X C D hC hR i (by omega) m 0 0 0 cm _ lo _ ⟨[], 0, 0, 0⟩ ⟨[], 0, 0, 0⟩ ⟨[], 0, 0, 0⟩ ⟨[], 0, 0, 0⟩ T [] [] [] [] [] (t1n_all T [] [] m 0 cm i (tkv T i) lo (tkv_le T i) (tkv_w T hT i) (tkv_z T i) (tkv T i) 0 (by omega)) hp hi hz (decide_eq_true (by omega)) (decide_eq_true (by omega)) (by omega) ((wrap_i64 (by omega)).trans (by omega)) ((wrap_i64 (by omega)).trans (by omega)) k⟩
    · obtain ⟨w, hw⟩ : ∃ w, w = min (D i).length 20 := ⟨_, rfl⟩
      obtain ⟨cm2, lo2, g1, g2, k⟩ := IH (i + 1) (lo + ((w : Nat) : Int)) (cm + w) (by omega) (by omega) (by omega)
      exact ⟨cm2, lo2, g1, g2, rc_nnr S X C D hC hR i (by omega) m 0 w 0 cm _ lo _ ⟨[], 0, 0, 0⟩ ⟨[], 0, 0, 0⟩ ⟨[], 0, 0, 0⟩ ⟨[], 0, 0, 0⟩ T [] [] [] [] [] (t1n_all T [] [] m 0 (cm + w) i (tkv T i) (lo + ((w : Nat) : Int)) (tkv_le T i) (tkv_w T hT i) (tkv_z T i) (tkv T i) 0 (by omega)) hp hi hC3 (decide_eq_true (by omega)) (decide_eq_true (by omega)) (by omega) (by split <;> omega) (by omega) ((wrap_i64 (by omega)).trans (by omega)) (by omega) (by omega) (by omega) (decide_eq_false (by omega)) (by omega) ((wrap_i64 (by omega)).trans (by omega)) k⟩

theorem of_n (S : List WT) (X : List V) (C : Nat → List V) (D : Nat → List Int) (hC : ∀ k, plains (C k) = true) (hR : HR S X 20) (m q : Nat) (hm : S.length = min m 20) (hq : q ≤ 40) (hr : Rows C D S) (T : List Int) : ∀ (d i : Nat) (s : Q) (K G : List Int) (cm : Nat), i + d = S.length → s.Ok q → K = G ++ s.list → ((cm : Nat) : Int) = K.length + s.lost → 0 ≤ s.lost → cm ≤ 20 * i → ∃ (cm2 : Nat) (z : Q) (KZ GZ : List Int), z.Ok q ∧ KZ = GZ ++ z.list ∧ ((cm2 : Nat) : Int) = KZ.length + z.lost ∧ 0 ≤ z.lost ∧ cm2 ≤ 400 ∧ (LOK cfg none (lb 4 0) (u_ :: (.sl 1 (some (20, 0)) m) :: (.sl 1 none 0) :: u_ :: u_ :: u_ :: u_ :: (.ptr (some (22, 0))) :: (i6 ((cm : Nat) : Int)) :: (.sl 1 (some (24, 0)) K.length) :: (.sl 1 (some (25, 0)) G.length) :: (i6 ((i : Nat) : Int)) :: us 122) (hA C S X [d_, c1 [(.sl 1 (some (23, 0)) s.R.length), (i6 ((q : Nat) : Int)), (i6 ((s.f : Nat) : Int)), (i6 ((s.n : Nat) : Int)), (i6 s.lost)], .cells true ((s.R).map (V.int .i64)), .cells true ((K).map (V.int .i64)), .cells true ((G).map (V.int .i64))]) (.exit 0) (u_ :: u_ :: u_ :: u_ :: u_ :: u_ :: u_ :: (.ptr (some (22, 0))) :: (i6 ((cm2 : Nat) : Int)) :: (.sl 1 (some (27, 0)) KZ.length) :: (.sl 1 (some (28, 0)) GZ.length) :: us 123) (hA C S X [d_, c1 [(.sl 1 (some (26, 0)) z.R.length), (i6 ((q : Nat) : Int)), (i6 ((z.f : Nat) : Int)), (i6 ((z.n : Nat) : Int)), (i6 z.lost)], d_, d_, d_, .cells true ((z.R).map (V.int .i64)), .cells true ((KZ).map (V.int .i64)), .cells true ((GZ).map (V.int .i64))])) := by
  intro d
  induction d with
  | zero =>
    intro i s K G cm hi h hK hcm hlo hc
    refine ⟨cm, s, K, G, h, hK, hcm, hlo, by omega, ?_⟩
    by_cases h20 : i < m
    · exact oy_fn S X C D hC hR i m q 0 0 cm 0 0 0 s s s s T K K G G G (decide_eq_true (by omega)) (decide_eq_false (by omega))
    · exact ox_fn S X C D hC hR i m q 0 0 cm 0 0 0 s s s s T K K G G G (decide_eq_false (by omega))
  | succ d IH =>
    intro i s K G cm hii h hK hcm hlo hc
    have hi : i < S.length := by omega
    have hKl : G.length ≤ K.length := by rw [hK]; simp
    rcases RowsIs S C D hr i hi with ⟨hp, hz, hd⟩ | ⟨hp, hl, hC3⟩
    · obtain ⟨j1, j2, j3, j4⟩ : s.Ok q ∧ G ++ s.list = G ++ s.list ∧ s.lost = s.lost ∧ True := ⟨h, rfl, rfl, trivial⟩
      obtain ⟨cm2, z, KZ, GZ, g1, g2, g3, g4, g5, k⟩ := IH (i + 1) s K G cm (by omega) j1 (by rw [j2]; exact hK) (by rw [j3]; exact hcm) (by rw [j3]; exact hlo) (by omega)
      exact ⟨cm2, z, KZ, GZ, g1, g2, g3, g4, g5, ra_ffn S X C D hC hR i (by omega) m q 0 0 cm _ 0 0 s s s _ T K _ G G _ hp hi hz (decide_eq_true (by omega)) (decide_eq_true (by omega)) (by omega) ((wrap_i64 (by omega)).trans (by omega)) (decide_eq_false (by omega)) ((wrap_i64 (by omega)).trans (by omega)) (Nat.add_zero _) k⟩
    · obtain ⟨w, hw⟩ : ∃ w, w = min (D i).length 20 := ⟨_, rfl⟩
      obtain ⟨k, p1, p2, p3, p4, p5⟩ := puts_gen (q := q) ((D i).take w) h
      have hwl : ((D i).take w).length = w := by rw [List.length_take]; omega
      rw [hwl] at p1 p5
      have p6 : ((D i).take w).take k = (D i).take k := by rw [List.take_take]; congr 1; omega
      rw [p6] at p4
      obtain ⟨j1, j2, j3, j4⟩ : (puts q s ((D i).take w)).Ok q ∧ G ++ (puts q s ((D i).take w)).list = G ++ (puts q s ((D i).take w)).list ∧ (puts q s ((D i).take w)).lost = (puts q s ((D i).take w)).lost ∧ True := ⟨p2, rfl, rfl, trivial⟩
      by_cases hk0 : k = 0
      · subst hk0
        have hk : (puts q s ((D i).take w)).n = s.n := by omega
        obtain ⟨cm2, z, KZ, GZ, g1, g2, g3, g4, g5, kk⟩ := IH (i + 1) (puts q s ((D i).take w)) K G (cm + w) (by omega) j1 (by rw [j2, p4, hK]; simp) (by rw [j3, p5]; omega) (by rw [j3, p5]; omega) (by omega)
        exact ⟨cm2, z, KZ, GZ, g1, g2, g3, g4, g5, rc_ffn S X C D hC hR i (by omega) m q w 0 cm _ 0 0 s (puts q s ((D i).take w)) (puts q s ((D i).take w)) _ T K _ G G _ hp hi hC3 (decide_eq_true (by omega)) (decide_eq_true (by omega)) (by omega) (by split <;> omega) (by omega) ((wrap_i64 (by omega)).trans (by omega)) (by omega) (by omega) h (by omega) (by omega) rfl hk (decide_eq_false (by omega)) (by omega) (decide_eq_false (by omega)) ((wrap_i64 (by omega)).trans (by omega)) (Nat.add_zero _) kk⟩
      · have hk := p3
        obtain ⟨cm2, z, KZ, GZ, g1, g2, g3, g4, g5, kk⟩ := IH (i + 1) (puts q s ((D i).take w)) (K ++ (D i).take k) G (cm + w) (by omega) j1 (by rw [j2, p4, hK]; simp) (by rw [j3, p5, List.length_append, List.length_take]; omega) (by rw [j3, p5]; omega) (by omega)
        exact ⟨cm2, z, KZ, GZ, g1, g2, g3, g4, g5, rp_ffn S X C D hC hR i (by omega) m q w k cm _ 0 0 s (puts q s ((D i).take w)) (puts q s ((D i).take w)) _ T K _ G G _ hp hi hC3 (decide_eq_true (by omega)) (decide_eq_true (by omega)) (by omega) (by split <;> omega) (by omega) ((wrap_i64 (by omega)).trans (by omega)) (by omega) (by omega) h (by omega) (by omega) rfl hk (decide_eq_false (by omega)) (by omega) (by simp; try omega) (by omega) (by omega) (by rw [← List.map_drop, ← List.map_take]; exact ones_map _ (fun _ => rfl) _) (by simp; try omega) (decide_eq_false (by omega)) (by rw [← List.map_drop, ← List.map_take, ← List.map_append]; exact plains_map _ (fun _ => rfl) _) (by simp [List.map_take]) ((wrap_i64 (by omega)).trans (by omega)) (by simp; omega) kk⟩
theorem on_n (S : List WT) (X : List V) (C : Nat → List V) (D : Nat → List Int) (hC : ∀ k, plains (C k) = true) (hR : HR S X 20) (m q : Nat) (hm : S.length = min m 20) (hq : q ≤ 40 ∧ q ≠ 0) (hr : Rows C D S) (T : List Int) : ∀ (d i : Nat) (lo : Int) (cm : Nat), i + d = S.length → ((cm : Nat) : Int) = lo → cm ≤ 20 * i → (∃ (cm2 : Nat) (lo2 : Int), ((cm2 : Nat) : Int) = lo2 ∧ cm2 ≤ 400 ∧ (LOK cfg none (lb 4 0) (u_ :: (.sl 1 (some (20, 0)) m) :: (.sl 1 none 0) :: u_ :: u_ :: u_ :: u_ :: (.ptr (some (22, 0))) :: (i6 ((cm : Nat) : Int)) :: (.sl 1 (some (23, 0)) 0) :: (.sl 1 (some (24, 0)) 0) :: (i6 ((i : Nat) : Int)) :: us 122) (hA C S X [d_, c1 [(.sl 0 none 0), (i6 ((q : Nat) : Int)), (i6 0), (i6 0), (i6 lo)], c1 [], c1 []]) (.exit 0) (u_ :: u_ :: u_ :: u_ :: u_ :: u_ :: u_ :: (.ptr (some (22, 0))) :: (i6 ((cm2 : Nat) : Int)) :: (.sl 1 (some (23, 0)) 0) :: (.sl 1 (some (24, 0)) 0) :: us 123) (hA C S X [d_, c1 [(.sl 0 none 0), (i6 ((q : Nat) : Int)), (i6 0), (i6 0), (i6 lo2)], c1 [], c1 []]))) ∨ ∃ (cm2 : Nat) (z : Q) (KZ GZ : List Int), z.Ok q ∧ KZ = GZ ++ z.list ∧ ((cm2 : Nat) : Int) = KZ.length + z.lost ∧ 0 ≤ z.lost ∧ cm2 ≤ 400 ∧ (LOK cfg none (lb 4 0) (u_ :: (.sl 1 (some (20, 0)) m) :: (.sl 1 none 0) :: u_ :: u_ :: u_ :: u_ :: (.ptr (some (22, 0))) :: (i6 ((cm : Nat) : Int)) :: (.sl 1 (some (23, 0)) 0) :: (.sl 1 (some (24, 0)) 0) :: (i6 ((i : Nat) : Int)) :: us 122) (hA C S X [d_, c1 [(.sl 0 none 0), (i6 ((q : Nat) : Int)), (i6 0), (i6 0), (i6 lo)], c1 [], c1 []]) (.exit 0) (u_ :: u_ :: u_ :: u_ :: u_ :: u_ :: u_ :: (.ptr (some (22, 0))) :: (i6 ((cm2 : Nat) : Int)) :: (.sl 1 (some (26, 0)) KZ.length) :: (.sl 1 (some (27, 0)) GZ.length) :: us 123) (hA C S X [d_, c1 [(.sl 1 (some (25, 0)) z.R.length), (i6 ((q : Nat) : Int)), (i6 ((z.f : Nat) : Int)), (i6 ((z.n : Nat) : Int)), (i6 z.lost)], d_, d_, .cells true ((z.R).map (V.int .i64)), .cells true ((KZ).map (V.int .i64)), .cells true ((GZ).map (V.int .i64))])) := by
  intro d
  induction d with
  | zero =>
    intro i lo cm hi hlo hc
    refine .inl ⟨cm, lo, hlo, by omega, ?_⟩
    by_cases h20 : i < m
    · exact oy_nn S X C D hC hR i m q 0 0 cm 0 lo 0 ⟨[], 0, 0, 0⟩ ⟨[], 0, 0, 0⟩ ⟨[], 0, 0, 0⟩ ⟨[], 0, 0, 0⟩ T [] [] [] [] [] (decide_eq_true (by omega)) (decide_eq_false (by omega))
    · exact ox_nn S X C D hC hR i m q 0 0 cm 0 lo 0 ⟨[], 0, 0, 0⟩ ⟨[], 0, 0, 0⟩ ⟨[], 0, 0, 0⟩ ⟨[], 0, 0, 0⟩ T [] [] [] [] [] (decide_eq_false (by omega))
  | succ d IH =>
    intro i lo cm hii hlo hc
    have hi : i < S.length := by omega
    rcases RowsIs S C D hr i hi with ⟨hp, hz, hd⟩ | ⟨hp, hl, hC3⟩
    · rcases IH (i + 1) lo cm (by omega) hlo (by omega) with ⟨cm2, lo2, g1, g2, k⟩ | ⟨cm2, z, KZ, GZ, g1, g2, g3, g4, g5, k⟩
      · exact .inl ⟨cm2, lo2, g1, g2, ra_nnn S X C D hC hR i (by omega) m q 0 0 cm _ lo _ ⟨[], 0, 0, 0⟩ ⟨[], 0, 0, 0⟩ ⟨[], 0, 0, 0⟩ ⟨[], 0, 0, 0⟩ T [] [] [] [] [] hp hi hz (decide_eq_true (by omega)) (decide_eq_true (by omega)) (by omega) ((wrap_i64 (by omega)).trans (by omega)) (decide_eq_false (by omega)) ((wrap_i64 (by omega)).trans (by omega)) k⟩
      · exact .inr ⟨cm2, z, KZ, GZ, g1, g2, g3, g4, g5, ra_nfn S X C D hC hR i (by omega) m q 0 0 cm _ lo 0 ⟨[], 0, 0, 0⟩ ⟨[], 0, 0, 0⟩ ⟨[], 0, 0, 0⟩ _ T [] _ [] [] _ hp hi hz (decide_eq_true (by omega)) (decide_eq_true (by omega)) (by omega) ((wrap_i64 (by omega)).trans (by omega)) (decide_eq_false (by omega)) ((wrap_i64 (by omega)).trans (by omega)) k⟩
    · obtain ⟨w, hw⟩ : ∃ w, w = min (D i).length 20 := ⟨_, rfl⟩
      by_cases hw0 : w = 0
      · rcases IH (i + 1) lo cm (by omega) hlo (by omega) with ⟨cm2, lo2, g1, g2, k⟩ | ⟨cm2, z, KZ, GZ, g1, g2, g3, g4, g5, k⟩
        · exact .inl ⟨cm2, lo2, g1, g2, rz_nnn S X C D hC hR i (by omega) m q 0 0 cm _ lo _ ⟨[], 0, 0, 0⟩ ⟨[], 0, 0, 0⟩ ⟨[], 0, 0, 0⟩ ⟨[], 0, 0, 0⟩ T [] [] [] [] [] hp hi hC3 (decide_eq_true (by omega)) (decide_eq_true (by omega)) (by omega) (by split <;> omega) (by omega) ((wrap_i64 (by omega)).trans (by omega)) (decide_eq_false (by omega)) ((wrap_i64 (by omega)).trans (by omega)) k⟩
        · exact .inr ⟨cm2, z, KZ, GZ, g1, g2, g3, g4, g5, rz_nfn S X C D hC hR i (by omega) m q 0 0 cm _ lo 0 ⟨[], 0, 0, 0⟩ ⟨[], 0, 0, 0⟩ ⟨[], 0, 0, 0⟩ _ T [] _ [] [] _ hp hi hC3 (decide_eq_true (by omega)) (decide_eq_true (by omega)) (by omega) (by split <;> omega) (by omega) ((wrap_i64 (by omega)).trans (by omega)) (decide_eq_false (by omega)) ((wrap_i64 (by omega)).trans (by omega)) k⟩
      · have hN : (⟨[], 0, 0, lo⟩ : Q).Ok q := ⟨by simp, .inl ⟨rfl, rfl⟩, by simp, by simp⟩
        obtain ⟨k, p1, p2, p3, p4, p5⟩ := puts_gen (q := q) ((D i).take w) hN
        have hwl : ((D i).take w).length = w := by rw [List.length_take]; omega
        rw [hwl] at p1 p5
        have p6 : ((D i).take w).take k = (D i).take k := by rw [List.take_take]; congr 1; omega
        rw [p6] at p4
        simp only [Nat.zero_add] at p3 p5
        have p7 : (⟨[], 0, 0, lo⟩ : Q).list = [] := rfl
        rw [p7, List.nil_append] at p4
        have hk := p3
        have hk0 : k ≠ 0 := by
          intro e
          subst e
          have ed : (D i).take w = (D i).getD 0 0 :: ((D i).take w).drop 1 := by
            have := List.drop_eq_getElem_cons (show 0 < ((D i).take w).length by omega)
            rw [List.drop_zero] at this
            rw [this]
            simp [List.getD_eq_getElem?_getD, List.getElem?_eq_getElem (show 0 < (D i).length by omega)]
          have h1 := put_n (s := ⟨[], 0, 0, lo⟩) (q := q) (by simp only; omega) ((D i).getD 0 0)
          obtain ⟨k2, _, _, q3, _, _⟩ := puts_gen (q := q) (((D i).take w).drop 1) (put_ok hN ((D i).getD 0 0))
          rw [ed] at p3
          have : (puts q (Q.put ⟨[], 0, 0, lo⟩ q ((D i).getD 0 0)) (((D i).take w).drop 1)).n = 0 := p3
          omega
        obtain ⟨j1, j2, j3, j4⟩ : (puts q ⟨[], 0, 0, lo⟩ ((D i).take w)).Ok q ∧ [] ++ (puts q ⟨[], 0, 0, lo⟩ ((D i).take w)).list = [] ++ (puts q ⟨[], 0, 0, lo⟩ ((D i).take w)).list ∧ (puts q ⟨[], 0, 0, lo⟩ ((D i).take w)).lost = (puts q ⟨[], 0, 0, lo⟩ ((D i).take w)).lost ∧ True := ⟨p2, rfl, rfl, trivial⟩
        obtain ⟨cm2, z, KZ, GZ, g1, g2, g3, g4, g5, kk⟩ := of_n S X C D hC hR m q hm (by omega) hr T d (i + 1) (puts q ⟨[], 0, 0, lo⟩ ((D i).take w)) ((D i).take k) [] (cm + w) (by omega) j1 (by rw [j2, p4]; simp) (by rw [j3, p5, List.length_take]; omega) (by rw [j3, p5]; omega) (by omega)
        exact .inr ⟨cm2, z, KZ, GZ, g1, g2, g3, g4, g5, rp_nfn S X C D hC hR i (by omega) m q w k cm _ lo 0 ⟨[], 0, 0, 0⟩ (puts q ⟨[], 0, 0, lo⟩ ((D i).take w)) (puts q ⟨[], 0, 0, lo⟩ ((D i).take w)) _ T [] _ [] [] _ hp hi hC3 (decide_eq_true (by omega)) (decide_eq_true (by omega)) (by omega) (by split <;> omega) (by omega) ((wrap_i64 (by omega)).trans (by omega)) (by omega) (by omega) (by omega) (by omega) (by omega) (by omega) rfl hk (decide_eq_false (by omega)) (by omega) (by simp; try omega) (by omega) (by omega) (by rw [← List.map_drop, ← List.map_take]; exact ones_map _ (fun _ => rfl) _) (decide_eq_false (by omega)) (by rw [List.nil_append, ← List.map_drop, ← List.map_take]; exact plains_map _ (fun _ => rfl) _) (by simp [List.map_take]) rfl ((wrap_i64 (by omega)).trans (by omega)) rfl (by simp; omega) kk⟩
theorem oz_n (S : List WT) (X : List V) (C : Nat → List V) (D : Nat → List Int) (hC : ∀ k, plains (C k) = true) (hR : HR S X 20) (m q : Nat) (hm : S.length = min m 20) (hq : q ≤ 40) (hr : Rows C D S) (T : List Int) (hq0 : q = 0) : ∀ (d i : Nat) (lo : Int) (cm : Nat), i + d = S.length → ((cm : Nat) : Int) = lo → cm ≤ 20 * i → ∃ (cm2 : Nat) (lo2 : Int), ((cm2 : Nat) : Int) = lo2 ∧ cm2 ≤ 400 ∧ (LOK cfg none (lb 4 0) (u_ :: (.sl 1 (some (20, 0)) m) :: (.sl 1 none 0) :: u_ :: u_ :: u_ :: u_ :: (.ptr (some (22, 0))) :: (i6 ((cm : Nat) : Int)) :: (.sl 1 (some (23, 0)) 0) :: (.sl 1 (some (24, 0)) 0) :: (i6 ((i : Nat) : Int)) :: us 122) (hA C S X [d_, c1 [(.sl 0 none 0), (i6 ((q : Nat) : Int)), (i6 0), (i6 0), (i6 lo)], c1 [], c1 []]) (.exit 0) (u_ :: u_ :: u_ :: u_ :: u_ :: u_ :: u_ :: (.ptr (some (22, 0))) :: (i6 ((cm2 : Nat) : Int)) :: (.sl 1 (some (23, 0)) 0) :: (.sl 1 (some (24, 0)) 0) :: us 123) (hA C S X [d_, c1 [(.sl 0 none 0), (i6 ((q : Nat) : Int)), (i6 0), (i6 0), (i6 lo2)], c1 [], c1 []])) := by
  subst hq0
  intro d
  induction d with
  | zero =>
    intro i lo cm hi hlo hc
    refine ⟨cm, lo, hlo, by omega, ?_⟩
    by_cases h20 : i < m
    · exact oy_nn S X C D hC hR i m 0 0 0 cm 0 lo 0 ⟨[], 0, 0, 0⟩ ⟨[], 0, 0, 0⟩ ⟨[], 0, 0, 0⟩ ⟨[], 0, 0, 0⟩ T [] [] [] [] [] (decide_eq_true (by omega)) (decide_eq_false (by omega))
    · exact ox_nn S X C D hC hR i m 0 0 0 cm 0 lo 0 ⟨[], 0, 0, 0⟩ ⟨[], 0, 0, 0⟩ ⟨[], 0, 0, 0⟩ ⟨[], 0, 0, 0⟩ T [] [] [] [] [] (decide_eq_false (by omega))
  | succ d IH =>
    intro i lo cm hii hlo hc
    have hi : i < S.length := by omega
    rcases RowsIs S C D hr i hi with ⟨hp, hz, hd⟩ | ⟨hp, hl, hC3⟩
    · obtain ⟨cm2, lo2, g1, g2, k⟩ := IH (i + 1) lo cm (by omega) hlo (by omega)
      exact ⟨cm2, lo2, g1, g2, ra_nnn S X C D hC hR i (by omega) m 0 0 0 cm _ lo _ ⟨[], 0, 0, 0⟩ ⟨[], 0, 0, 0⟩ ⟨[], 0, 0, 0⟩ ⟨[], 0, 0, 0⟩ T [] [] [] [] [] hp hi hz (decide_eq_true (by omega)) (decide_eq_true (by omega)) (by omega) ((wrap_i64 (by omega)).trans (by omega)) (decide_eq_false (by omega)) ((wrap_i64 (by omega)).trans (by omega)) k⟩
    · obtain ⟨w, hw⟩ : ∃ w, w = min (D i).length 20 := ⟨_, rfl⟩
      obtain ⟨cm2, lo2, g1, g2, k⟩ := IH (i + 1) (lo + ((w : Nat) : Int)) (cm + w) (by omega) (by omega) (by omega)
      exact ⟨cm2, lo2, g1, g2, rc_nnn S X C D hC hR i (by omega) m 0 w 0 cm _ lo _ ⟨[], 0, 0, 0⟩ ⟨[], 0, 0, 0⟩ ⟨[], 0, 0, 0⟩ ⟨[], 0, 0, 0⟩ T [] [] [] [] [] hp hi hC3 (decide_eq_true (by omega)) (decide_eq_true (by omega)) (by omega) (by split <;> omega) (by omega) ((wrap_i64 (by omega)).trans (by omega)) (by omega) (by omega) (by omega) (decide_eq_false (by omega)) (by omega) (decide_eq_false (by omega)) ((wrap_i64 (by omega)).trans (by omega)) k⟩

end Go.Proofs.Ytklnecknoadhjaa.fifo

set_option linter.unusedVariables false
set_option linter.unusedSimpArgs false
set_option maxRecDepth 100000
namespace Go.Proofs.Ytklnecknoadhjaa.fifo
open Go Go.Vm Go.Ring

theorem lim_ok (a : Int) (wx : (Lit.int .u8 a).wf = true) : ∃ q : Nat, q ≤ 40 ∧ (Int.tmod (IntKind.wrap .i64 a) 41) = ((q : Nat) : Int) := by
  have hx := wf_u8 wx
  have ew : IntKind.wrap .i64 a = a := wrap_i64 (by omega)
  rw [ew, Int.tmod_eq_emod_of_nonneg hx.1]
  exact ⟨(a % 41).toNat, by omega, by omega⟩
theorem row_of2 {G : Heap} {b : Nat} {r : List V} (h : TypedF G b [.sl [.int .i64] 1] r) : ∃ x : WT, r = encW x ∧ ((x.1 = none ∧ x.2 = 0) ∨ ∃ l : List Int, x.1 = some (b, 0) ∧ x.2 = l.length ∧ G[b]? = some (.cells false (l.map (V.int .i64)))) := by
  match r, h with
  | [v], h =>
    obtain ⟨hv, _⟩ := h
    rcases hv with rfl | ⟨rows, rfl, h1, hl, h2⟩
    · exact ⟨(none, 0), rfl, .inl ⟨rfl, rfl⟩⟩
    · obtain ⟨l, e1, e2, e3⟩ := rows_int h2
      refine ⟨(some (b, 0), rows.length), rfl, .inr ⟨l, rfl, e2, ?_⟩⟩
      rw [← e1]
      exact h1
theorem rows_split2 (P : Nat → WT → Prop) : ∀ (rows : List (List V)) (M base : Nat), (∀ i r, i < M → rows[i]? = some r → ∃ x : WT, r = encW x ∧ P (base + i) x) → (∀ i r, M ≤ i → rows[i]? = some r → r = List.replicate 1 V.undef) →
    ∃ (S : List WT) (k : Nat), rows.flatten = RW S (List.replicate k V.undef) ∧ S.length = min rows.length M ∧ ∀ i x, S[i]? = some x → P (base + i) x
  | [], M, base, _, _ => ⟨[], 0, rfl, by simp, fun i x h => by simp at h⟩
  | r :: rows, 0, base, h1, h2 => by
    obtain ⟨S, k, e1, e2, e3⟩ := rows_split2 P rows 0 base (fun i r hi => by omega) (fun i r hi hr => h2 (i + 1) r (by omega) (by simpa using hr))
    have hS : S = [] := List.eq_nil_of_length_eq_zero (by omega)
    subst hS
    refine ⟨[], 1 + k, ?_, by simp, e3⟩
    rw [List.flatten_cons, e1, h2 0 r (by omega) rfl]
    simp only [RW, List.map_nil, List.flatten_nil, List.nil_append]
    rw [List.replicate_append_replicate]
  | r :: rows, M + 1, base, h1, h2 => by
    obtain ⟨x, hx, hp⟩ := h1 0 r (by omega) rfl
    obtain ⟨S, k, e1, e2, e3⟩ := rows_split2 P rows M (base + 1) (fun i r hi hr => by
      have := h1 (i + 1) r (by omega) (by simpa using hr)
      rw [show base + (i + 1) = base + 1 + i by omega] at this
      exact this) (fun i r hi hr => h2 (i + 1) r (by omega) (by simpa using hr))
    refine ⟨x :: S, k, ?_, by simp; omega, fun i y hy => ?_⟩
    · rw [List.flatten_cons, e1, hx]
      simp [RW]
    · cases i with
      | zero => simp at hy; subst hy; exact hp
      | succ i =>
        have := e3 i y (by simpa using hy)
        rw [show base + (i + 1) = base + 1 + i by omega]
        exact this
theorem ve_rows2 {σ : Sig} : ∀ (S : List WT) (base : Nat), (∀ i x, S[i]? = some x → x.1 = none ∨ x.1 = some (base + i, 0)) → (∀ b, b < base + S.length → σ b = some (b, 0)) → VEL true σ ((S.map encW).flatten) ((S.map encW).flatten)
  | [], _, _, _ => .nil
  | (p, n) :: S, base, h, hσ => by
    rw [List.map_cons, List.flatten_cons]
    refine VEL.append ?_ (ve_rows2 S (base + 1) (fun i y hy => by
      have := h (i + 1) y (by simpa using hy)
      rw [show base + (i + 1) = base + 1 + i by omega] at this
      exact this) (fun b hb => hσ b (by simp at hb ⊢; omega)))
    refine .c ?_ .nil
    rcases h 0 (p, n) rfl with e | e
    · simp only at e; subst e; exact .slN 1 _
    · simp only at e; subst e; exact .sl 1 _ 0 _ _ 0 (hσ _ (by simp))
theorem ve_und {σ : Sig} : ∀ (k : Nat), VEL true σ (List.replicate k V.undef) (List.replicate k V.undef)
  | 0 => .nil
  | k + 1 => .c .q (ve_und k)
theorem nls_eq : leavesN Try.prog 4 22 = [.sl [.int .i64] 1] := by kernel_rfl
theorem es_eq : esOf Try.prog 22 = 1 := by kernel_rfl
theorem aa_len : 20 * nsl (leavesN Try.prog 4 22) = 20 := by rw [nls_eq]; rfl
theorem aa_get (C : Nat → List V) (R : List V) (i : Nat) (hi : i < 20) : (([] : Heap) ++ AA C 20 R)[i]? = some (.cells false (C i)) := by
  rw [List.nil_append, AA, List.getElem?_append_left (by simp; omega), List.getElem?_map, List.getElem?_range hi]
  rfl
theorem rows_of2 (C : Nat → List V) (rows : List (List V)) (hu : ∀ i r, 20 ≤ i → rows[i]? = some r → r = List.replicate (esOf Try.prog 22) V.undef) (ht : ∀ i r, i < 20 → rows[i]? = some r → TypedF (([] : Heap) ++ AA C 20 rows.flatten) (0 + i * nsl (leavesN Try.prog 4 22)) (leavesN Try.prog 4 22) r) :
    ∃ (S : List WT) (X : List V) (D : Nat → List Int), rows.flatten = RW S X ∧ S.length = min rows.length 20 ∧ HR S X 20 ∧ Rows C D S := by
  rw [es_eq] at hu
  rw [nls_eq] at ht
  obtain ⟨S, k, e1, e2, e3⟩ := rows_split2 (fun i x => (x.1 = none ∧ x.2 = 0) ∨ ∃ l : List Int, x.1 = some (i, 0) ∧ x.2 = l.length ∧ (([] : Heap) ++ AA C 20 rows.flatten)[i]? = some (.cells false (l.map (V.int .i64)))) rows 20 0 (fun i r hi hr => by
    have h := ht i r hi hr
    rw [show i * nsl [.sl [.int .i64] 1] = i by simp [nsl]] at h
    exact row_of2 h) hu
  have at_ : ∀ i, i < S.length → S[i]? = some (gW S i) := fun i hi => by
    rw [List.getElem?_eq_getElem hi]
    simp [gW, List.getD_eq_getElem?_getD, List.getElem?_eq_getElem hi]
  have ch : ∀ i, ∃ l : List Int, (i < S.length → ((gW S i).1 = none ∧ (gW S i).2 = 0 ∧ l = []) ∨ ((gW S i).1 = some (i, 0) ∧ (gW S i).2 = l.length ∧ C i = l.map (V.int .i64))) := by
    intro i
    by_cases hi : i < S.length
    · have h := e3 i _ (at_ i hi)
      rw [Nat.zero_add] at h
      rcases h with ⟨h1, h2⟩ | ⟨l, h1, h2, h3⟩
      · exact ⟨[], fun _ => .inl ⟨h1, h2, rfl⟩⟩
      · refine ⟨l, fun _ => .inr ⟨h1, h2, ?_⟩⟩
        rw [aa_get C _ i (by omega)] at h3
        injection h3 with h3
        injection h3 with _ h3
    · exact ⟨[], fun h => absurd h hi⟩
  refine ⟨S, _, fun i => Classical.choose (ch i), e1, e2, ?_, ⟨fun i hi hp => ?_, fun i hi hp => ?_⟩⟩
  · intro σ hσ
    refine VEL.append (ve_rows2 S 0 (fun i x hx => ?_) (fun b hb => hσ b (by omega))) (ve_und k)
    rcases e3 i x hx with ⟨h1, _⟩ | ⟨_, h1, _⟩
    · exact .inl h1
    · exact .inr h1
  · rcases (Classical.choose_spec (ch i)) hi with ⟨_, h2, h3⟩ | ⟨h1, _⟩
    · exact ⟨h2, h3⟩
    · rw [hp] at h1; cases h1
  · rcases (Classical.choose_spec (ch i)) hi with ⟨h1, _⟩ | h
    · exact absurd h1 hp
    · exact h
theorem fin_r (S : List WT) (X : List V) (C : Nat → List V) (D : Nat → List Int) (hC : ∀ k, plains (C k) = true) (hR : HR S X 20) (m : Nat) (hm : S.length = min m 20) (hr : Rows C D S) (T : List Int) (hT : ∀ x ∈ T, 0 ≤ x ∧ x < 256) (a : Int) (wx : (Lit.int .u8 a).wf = true) : ∃ H', OK cfg (.fn 4 []) [.int .u8 a, .sl 1 (some (20, 0)) m, (.sl 1 (some (21, 0)) T.length)] (hA C S X [.cells  false ((T).map (V.int .u8))]) (.bool true) H' := by
  obtain ⟨q, hq, he⟩ := lim_ok a wx
  by_cases hq0 : q = 0
  · obtain ⟨cm2, lo2, g1, g2, k⟩ := oz_r S X C D hC hR m q hm hq hr T hT hq0 S.length 0 0 0 (by omega) rfl (by omega)
    exact ⟨_, lf_nr S X C D hC hR a m q cm2 lo2 ⟨[], 0, 0, 0⟩ ⟨[], 0, 0, 0⟩ T [] [] k (by rw [he]; split <;> omega) (by split <;> omega) (by rw [show IntKind.wrap .i64 (0 + lo2) = 0 + lo2 from wrap_i64 (by omega)]; simp; omega)⟩
  · rcases on_r S X C D hC hR m q hm ⟨hq, hq0⟩ hr T hT S.length 0 0 0 (by omega) rfl (by omega) with ⟨cm2, lo2, g1, g2, k⟩ | ⟨cm2, z, KZ, GZ, g1, g2, g3, g4, g5, k⟩
    · exact ⟨_, lf_nr S X C D hC hR a m q cm2 lo2 ⟨[], 0, 0, 0⟩ ⟨[], 0, 0, 0⟩ T [] [] k (by rw [he]; split <;> omega) (by split <;> omega) (by rw [show IntKind.wrap .i64 (0 + lo2) = 0 + lo2 from wrap_i64 (by omega)]; simp; omega)⟩
    · have hgl : GZ.length ≤ KZ.length := by rw [g2]; simp
      have hnl : (GZ ++ z.list).length = KZ.length := by rw [g2]
      obtain ⟨y, hy, k2⟩ := t2_all KZ q cm2 z.n (by omega) (by have := g1.ql; omega) z.n 0 z GZ (by omega) g1 rfl (by omega)
      have k3 := t3_all KZ (by omega) KZ.length 0 (by omega)
      exact ⟨_, lf_fr S X C D hC hR a m q cm2 0 z y T KZ GZ k k2 k3 (by rw [he]; split <;> omega) (by split <;> omega) (by rw [← g2]; exact bne_self_eq_false _) (by rw [show IntKind.wrap .i64 ((((GZ ++ z.list).length : Nat) : Int) + y.lost) = (((GZ ++ z.list).length : Nat) : Int) + y.lost from wrap_i64 (by omega)]; simp only [bne_eq_false_iff_eq]; omega) (by rw [g2]) (by rw [← g2])⟩
theorem fin_n (S : List WT) (X : List V) (C : Nat → List V) (D : Nat → List Int) (hC : ∀ k, plains (C k) = true) (hR : HR S X 20) (m : Nat) (hm : S.length = min m 20) (hr : Rows C D S) (T : List Int) (a : Int) (wx : (Lit.int .u8 a).wf = true) : ∃ H', OK cfg (.fn 4 []) [.int .u8 a, .sl 1 (some (20, 0)) m, (.sl 1 none 0)] (hA C S X [.cells  false ((T).map (V.int .u8))]) (.bool true) H' := by
  obtain ⟨q, hq, he⟩ := lim_ok a wx
  by_cases hq0 : q = 0
  · obtain ⟨cm2, lo2, g1, g2, k⟩ := oz_n S X C D hC hR m q hm hq hr T hq0 S.length 0 0 0 (by omega) rfl (by omega)
    exact ⟨_, lf_nn S X C D hC hR a m q cm2 lo2 ⟨[], 0, 0, 0⟩ ⟨[], 0, 0, 0⟩ T [] [] k (by rw [he]; split <;> omega) (by split <;> omega) (by rw [show IntKind.wrap .i64 (0 + lo2) = 0 + lo2 from wrap_i64 (by omega)]; simp; omega)⟩
  · rcases on_n S X C D hC hR m q hm ⟨hq, hq0⟩ hr T S.length 0 0 0 (by omega) rfl (by omega) with ⟨cm2, lo2, g1, g2, k⟩ | ⟨cm2, z, KZ, GZ, g1, g2, g3, g4, g5, k⟩
    · exact ⟨_, lf_nn S X C D hC hR a m q cm2 lo2 ⟨[], 0, 0, 0⟩ ⟨[], 0, 0, 0⟩ T [] [] k (by rw [he]; split <;> omega) (by split <;> omega) (by rw [show IntKind.wrap .i64 (0 + lo2) = 0 + lo2 from wrap_i64 (by omega)]; simp; omega)⟩
    · have hgl : GZ.length ≤ KZ.length := by rw [g2]; simp
      have hnl : (GZ ++ z.list).length = KZ.length := by rw [g2]
      obtain ⟨y, hy, k2⟩ := t2_all KZ q cm2 z.n (by omega) (by have := g1.ql; omega) z.n 0 z GZ (by omega) g1 rfl (by omega)
      have k3 := t3_all KZ (by omega) KZ.length 0 (by omega)
      exact ⟨_, lf_fn S X C D hC hR a m q cm2 0 z y T KZ GZ k k2 k3 (by rw [he]; split <;> omega) (by split <;> omega) (by rw [← g2]; exact bne_self_eq_false _) (by rw [show IntKind.wrap .i64 ((((GZ ++ z.list).length : Nat) : Int) + y.lost) = (((GZ ++ z.list).length : Nat) : Int) + y.lost from wrap_i64 (by omega)]; simp only [bne_eq_false_iff_eq]; omega) (by rw [g2]) (by rw [← g2])⟩
theorem p_d (C : Nat → List V) (rows : List (List V)) (hC : ∀ k, plains (C k) = true) (hu : ∀ i r, 20 ≤ i → rows[i]? = some r → r = List.replicate (esOf Try.prog 22) V.undef) (ht : ∀ i r, i < 20 → rows[i]? = some r → TypedF (([] : Heap) ++ AA C 20 rows.flatten) (0 + i * nsl (leavesN Try.prog 4 22)) (leavesN Try.prog 4 22) r) (a : Int) (wx : (Lit.int .u8 a).wf = true) (rs : List (List V)) (v : V) (hs : ∀ r ∈ rs, Typed (leaves Try.prog 4 5) r) (hv : (v = .sl 1 none 0 ∧ rs = []) ∨ v = .sl 1 (some (21, 0)) rs.length) :
    ∃ H', OK cfg (.fn 4 []) [.int .u8 a, .sl 1 (some (20, 0)) rows.length, v] (AA C 20 rows.flatten ++ [.cells false rs.flatten]) (.bool true) H' := by
  obtain ⟨S, X, D, e1, e2, hR, hr⟩ := rows_of2 C rows hu ht
  have e : leaves Try.prog 4 5 = [.int .u8] := by kernel_rfl
  rw [e] at hs
  obtain ⟨T, h1, h2, h3⟩ := rows_int hs
  rw [e1, h1]
  have hT : ∀ x ∈ T, 0 ≤ x ∧ x < 256 := fun x hx => wf_u8 (h3 x hx)
  rcases hv with ⟨rfl, e4⟩ | rfl
  · exact fin_n S X C D hC hR rows.length e2 hr T a wx
  · rw [h2]
    exact fin_r S X C D hC hR rows.length e2 hr T hT a wx
theorem x_nn (a : Int) (wx : (Lit.int .u8 a).wf = true) : ∃ H', OK cfg (.fn 4 []) [.int .u8 a, .sl 1 none 0, .sl 1 none 0] [] (.bool true) H' := by
  obtain ⟨q, hq, he⟩ := lim_ok a wx
  exact ⟨_, no_nn a q (by rw [he]; split <;> omega) (by split <;> omega)⟩
theorem x_nv (a : Int) (wx : (Lit.int .u8 a).wf = true) : ∃ H', OK cfg (.fn 4 []) [.int .u8 a, .sl 1 none 0, .sl 1 (some (0, 0)) 0] [.void] (.bool true) H' := by
  obtain ⟨q, hq, he⟩ := lim_ok a wx
  exact ⟨_, no_nv a q (by rw [he]; split <;> omega) (by split <;> omega)⟩
theorem x_nr (a : Int) (wx : (Lit.int .u8 a).wf = true) (rs : List (List V)) (hs : ∀ r ∈ rs, Typed (leaves Try.prog 4 5) r) : ∃ H', OK cfg (.fn 4 []) [.int .u8 a, .sl 1 none 0, .sl 1 (some (0, 0)) rs.length] [.cells false rs.flatten] (.bool true) H' := by
  obtain ⟨q, hq, he⟩ := lim_ok a wx
  have e : leaves Try.prog 4 5 = [.int .u8] := by kernel_rfl
  rw [e] at hs
  obtain ⟨T, h1, h2, h3⟩ := rows_int hs
  rw [h1, h2]
  exact ⟨_, no_nr a q T (by rw [he]; split <;> omega) (by split <;> omega)⟩
theorem x_vn (a : Int) (wx : (Lit.int .u8 a).wf = true) : ∃ H', OK cfg (.fn 4 []) [.int .u8 a, .sl 1 (some (0, 0)) 0, .sl 1 none 0] [.void] (.bool true) H' := by
  obtain ⟨q, hq, he⟩ := lim_ok a wx
  exact ⟨_, no_vn a q (by rw [he]; split <;> omega) (by split <;> omega)⟩
theorem x_vv (a : Int) (wx : (Lit.int .u8 a).wf = true) : ∃ H', OK cfg (.fn 4 []) [.int .u8 a, .sl 1 (some (0, 0)) 0, .sl 1 (some (1, 0)) 0] [.void, .void] (.bool true) H' := by
  obtain ⟨q, hq, he⟩ := lim_ok a wx
  exact ⟨_, no_vv a q (by rw [he]; split <;> omega) (by split <;> omega)⟩
theorem x_vr (a : Int) (wx : (Lit.int .u8 a).wf = true) (rs : List (List V)) (hs : ∀ r ∈ rs, Typed (leaves Try.prog 4 5) r) : ∃ H', OK cfg (.fn 4 []) [.int .u8 a, .sl 1 (some (0, 0)) 0, .sl 1 (some (1, 0)) rs.length] [.void, .cells false rs.flatten] (.bool true) H' := by
  obtain ⟨q, hq, he⟩ := lim_ok a wx
  have e : leaves Try.prog 4 5 = [.int .u8] := by kernel_rfl
  rw [e] at hs
  obtain ⟨T, h1, h2, h3⟩ := rows_int hs
  rw [h1, h2]
  exact ⟨_, no_vr a q T (by rw [he]; split <;> omega) (by split <;> omega)⟩
end Go.Proofs.Ytklnecknoadhjaa.fifo
namespace Go.Proofs.Ytklnecknoadhjaa.fifoOrder
open Go Go.Vm
noncomputable abbrev cfg : Cfg := fifo.cfg
theorem law_nn (a : Int) (wx : (Lit.int .u8 a).wf = true) : ∃ H', OK cfg (.fn 4 []) [.int .u8 a, .sl 1 none 0, .sl 1 none 0] [] (.bool true) H' := fifo.x_nn a wx
theorem law_nv (a : Int) (wx : (Lit.int .u8 a).wf = true) : ∃ H', OK cfg (.fn 4 []) [.int .u8 a, .sl 1 none 0, .sl 1 (some (0, 0)) 0] [.void] (.bool true) H' := fifo.x_nv a wx
theorem law_nr (a : Int) (wx : (Lit.int .u8 a).wf = true) (rs : List (List V)) (hs : ∀ r ∈ rs, Typed (leaves Try.prog 4 5) r) : ∃ H', OK cfg (.fn 4 []) [.int .u8 a, .sl 1 none 0, .sl 1 (some (0, 0)) rs.length] [.cells false rs.flatten] (.bool true) H' := fifo.x_nr a wx rs hs
theorem law_vn (a : Int) (wx : (Lit.int .u8 a).wf = true) : ∃ H', OK cfg (.fn 4 []) [.int .u8 a, .sl 1 (some (0, 0)) 0, .sl 1 none 0] [.void] (.bool true) H' := fifo.x_vn a wx
theorem law_vv (a : Int) (wx : (Lit.int .u8 a).wf = true) : ∃ H', OK cfg (.fn 4 []) [.int .u8 a, .sl 1 (some (0, 0)) 0, .sl 1 (some (1, 0)) 0] [.void, .void] (.bool true) H' := fifo.x_vv a wx
theorem law_vr (a : Int) (wx : (Lit.int .u8 a).wf = true) (rs : List (List V)) (hs : ∀ r ∈ rs, Typed (leaves Try.prog 4 5) r) : ∃ H', OK cfg (.fn 4 []) [.int .u8 a, .sl 1 (some (0, 0)) 0, .sl 1 (some (1, 0)) rs.length] [.void, .cells false rs.flatten] (.bool true) H' := fifo.x_vr a wx rs hs
theorem law_dx (a : Int) (wx : (Lit.int .u8 a).wf = true) (C : Nat → List V) (rows : List (List V)) (hC : ∀ k, plains (C k) = true) (hl : ∀ r ∈ rows, r.length = esOf Try.prog 22) (hu : ∀ i r, 20 ≤ i → rows[i]? = some r → r = List.replicate (esOf Try.prog 22) V.undef) (ht : ∀ i r, i < 20 → rows[i]? = some r → TypedF ([] ++ AA C (20 * nsl (leavesN Try.prog 4 22)) rows.flatten) (([] : Heap).length + i * nsl (leavesN Try.prog 4 22)) (leavesN Try.prog 4 22) r)
    (rs : List (List V)) (v : V) (hs : ∀ r ∈ rs, Typed (leaves Try.prog 4 5) r) (hv : (v = .sl (esOf Try.prog 5) none 0 ∧ rs = []) ∨ v = .sl (esOf Try.prog 5) (some (([] ++ AA C (20 * nsl (leavesN Try.prog 4 22)) rows.flatten).length, 0)) rs.length) :
    ∃ H', OK cfg (.fn 4 []) [.int .u8 a, .sl 1 (some (([] : Heap).length + 20 * nsl (leavesN Try.prog 4 22), 0)) rows.length, v] ([] ++ AA C (20 * nsl (leavesN Try.prog 4 22)) rows.flatten ++ [.cells false rs.flatten]) (.bool true) H' := by
  have e5 : esOf Try.prog 5 = 1 := by kernel_rfl
  have e6 : ([] ++ AA C 20 rows.flatten).length = 21 := by simp [AA]
  rw [fifo.aa_len, e5, e6] at hv
  have := fifo.p_d C rows hC hu (fun i r hi hr => by
    have h := ht i r hi hr
    rw [fifo.aa_len] at h
    exact h) a wx rs v hs hv
  rw [fifo.aa_len]
  exact this

end Go.Proofs.Ytklnecknoadhjaa.fifoOrder
