/-
  Which pulses are heard: what the functions come to; ways printed by ps.py, checked by the kernel.
-/
import Derived.Test.YtincidgoekbdpaaPh1
set_option linter.unusedVariables false
set_option linter.unusedSimpArgs false
set_option maxRecDepth 100000
namespace Go.Proofs.Ytincidgoekbdpaa.pulses
open Go Go.Vm

theorem chk_zero (i : Int) (r : Bool) (n d0 d1 d2 d3 d4 d5 d6 d7 : Int) : chk i r n d0 d1 d2 d3 d4 d5 d6 d7 = 0 ↔ 0 ≤ i ∧ i ≤ 2047 ∧ 0 ≤ n ∧ n ≤ 8 ∧ dataOk r n d0 d1 d2 d3 d4 d5 d6 d7 := by
  unfold chk
  split
  · constructor
    · intro h; cases h
    · intro h; omega
  · split
    · constructor
      · intro h; cases h
      · intro h; omega
    · split
      · rename_i h; exact ⟨fun _ => ⟨by omega, by omega, by omega, by omega, h⟩, fun _ => rfl⟩
      · rename_i h; exact ⟨fun h => (by cases h), fun k => absurd k.2.2.2.2 h⟩
/-- What is wrong with a frame that should be a pulse. -/
def hE (ov : Int) (i : Int) (r : Bool) (n d0 d1 d2 d3 d4 d5 d6 d7 : Int) : Int := if chk i r n d0 d1 d2 d3 d4 d5 d6 d7 ≠ 0 ∨ i ≠ 128 ∨ r = true then 4 else if (ov = 0 ∧ n ≠ 0) ∨ (0 < ov ∧ n ≠ 1) then 11 else if 0 < ov ∧ (d0 < 1 ∨ ov < d0) then 3 else 0
/-- Is one behind another one a gap? -/
def gp (ov N c x : Int) : Int := if 0 < N ∧ 0 < ov ∧ x ≠ aft c ov then 1 else 0
theorem min1 {ov : Int} (ho : ov = 0 ∨ 2 ≤ ov ∧ ov ≤ 240) : (if 1 < ov then 1 else ov) = if ov = 0 then 0 else 1 := by
  rcases ho with h | h
  · simp [h]
  · rw [if_pos (by omega), if_neg (by omega)]
theorem hE_ok {ov : Int} {i : Int} {r : Bool} {n d0 d1 d2 d3 d4 d5 d6 d7 : Int} (ho : ov = 0 ∨ 2 ≤ ov ∧ ov ≤ 240) (h : hE ov i r n d0 d1 d2 d3 d4 d5 d6 d7 = 0) : chk i r n d0 d1 d2 d3 d4 d5 d6 d7 = 0 ∧ i = 128 ∧ r = false ∧ (ov = 0 ∧ n = 0 ∧ d0 = 0 ∨ 2 ≤ ov ∧ n = 1 ∧ 1 ≤ d0 ∧ d0 ≤ ov) := by
  unfold hE at h
  split at h
  · cases h
  rename_i h1
  split at h
  · cases h
  rename_i h2
  split at h
  · cases h
  rename_i h3
  have hc : chk i r n d0 d1 d2 d3 d4 d5 d6 d7 = 0 := by omega
  have hr : r = false := by
    cases r
    · rfl
    · exact absurd (Or.inr (Or.inr rfl)) h1
  refine ⟨hc, by omega, hr, ?_⟩
  rcases ho with ho | ho
  · left
    have hn : n = 0 := by omega
    obtain ⟨_, _, _, _, hd⟩ := (chk_zero i r n d0 d1 d2 d3 d4 d5 d6 d7).1 hc
    refine ⟨ho, hn, ?_⟩
    obtain ⟨hd, _⟩ := hd
    rcases hd with ⟨_, hd⟩ | hd
    · omega
    · exact hd
  · right
    omega
theorem hear_bad (ov N g c : Int) (i : Int) (r : Bool) (n d0 d1 d2 d3 d4 d5 d6 d7 : Int) (ho : ov = 0 ∨ 2 ≤ ov ∧ ov ≤ 240) (hd : 0 ≤ d0 ∧ d0 < 256) (h : hE ov i r n d0 d1 d2 d3 d4 d5 d6 d7 ≠ 0) : OK cfg (.fn 16 []) [.ptr (some (0, 0)), .agg [.int .i64 i, .bool r, .int .i64 n, .int .u8 d0, .int .u8 d1, .int .u8 d2, .int .u8 d3, .int .u8 d4, .int .u8 d5, .int .u8 d6, .int .u8 d7]] [.cells true [.int .i64 ov, .int .i64 N, .int .i64 g, .int .i64 c]] (.int .i64 (hE ov i r n d0 d1 d2 d3 d4 d5 d6 d7)) [.cells true [.int .i64 ov, .int .i64 N, .int .i64 g, .int .i64 c]] := by
  have w0 : IntKind.wrap .i64 d0 = d0 := wrap_i64 (by omega)
  by_cases hc : chk i r n d0 d1 d2 d3 d4 d5 d6 d7 = 0
  case neg =>
    rw [hE, if_pos (.inl hc)]
    exact he_c' ov N g c i r n d0 d1 d2 d3 d4 d5 d6 d7 (by simpa using hc)
  have hc' : ((chk i r n d0 d1 d2 d3 d4 d5 d6 d7 : Int) != 0) = false := by simpa using hc
  have hc2 : ((chk i r n d0 d1 d2 d3 d4 d5 d6 d7 : Int) == 0) = true := by simpa using hc
  by_cases hi : i = 128
  case neg =>
    rw [hE, if_pos (.inr (.inl hi))]
    exact he_i' ov N g c i r n d0 d1 d2 d3 d4 d5 d6 d7 hc' (by simpa using hi)
  have hi' : ((i : Int) != 128) = false := by simpa using hi
  cases r
  case true =>
    rw [hE, if_pos (.inr (.inr rfl))]
    exact he_r' ov N g c i true n d0 d1 d2 d3 d4 d5 d6 d7 hc' hi'
  obtain ⟨z1, z2, z3, z4, _⟩ := (chk_zero i false n d0 d1 d2 d3 d4 d5 d6 d7).1 hc
  have e1 : hE ov i false n d0 d1 d2 d3 d4 d5 d6 d7 = if (ov = 0 ∧ n ≠ 0) ∨ (0 < ov ∧ n ≠ 1) then 11 else if 0 < ov ∧ (d0 < 1 ∨ ov < d0) then 3 else 0 := by
    rw [hE, if_neg]
    rintro (h | h | h)
    · exact h hc
    · exact h hi
    · cases h
  rw [e1] at h ⊢
  have em := min1 ho
  by_cases hl : (ov = 0 ∧ n ≠ 0) ∨ (0 < ov ∧ n ≠ 1)
  · rw [if_pos hl]
    have hm : ((n : Int) != (if 1 < ov then 1 else ov)) = true := by
      rw [em]
      split
      · simp; omega
      · simp; omega
    have hn' : n = 0 ∨ n = 1 ∨ n = 2 ∨ n = 3 ∨ n = 4 ∨ n = 5 ∨ n = 6 ∨ n = 7 ∨ n = 8 := by omega
    rcases hn' with rfl | rfl | rfl | rfl | rfl | rfl | rfl | rfl | rfl
    · exact he_0' ov N g c i false 0 d0 d1 d2 d3 d4 d5 d6 d7 hc' hi' hc2 hm
    · exact he_1' ov N g c i false 1 d0 d1 d2 d3 d4 d5 d6 d7 hc' hi' hc2 hm
    · exact he_2' ov N g c i false 2 d0 d1 d2 d3 d4 d5 d6 d7 hc' hi' hc2 hm
    · exact he_3' ov N g c i false 3 d0 d1 d2 d3 d4 d5 d6 d7 hc' hi' hc2 hm
    · exact he_4' ov N g c i false 4 d0 d1 d2 d3 d4 d5 d6 d7 hc' hi' hc2 hm
    · exact he_5' ov N g c i false 5 d0 d1 d2 d3 d4 d5 d6 d7 hc' hi' hc2 hm
    · exact he_6' ov N g c i false 6 d0 d1 d2 d3 d4 d5 d6 d7 hc' hi' hc2 hm
    · exact he_7' ov N g c i false 7 d0 d1 d2 d3 d4 d5 d6 d7 hc' hi' hc2 hm
    · exact he_8' ov N g c i false 8 d0 d1 d2 d3 d4 d5 d6 d7 hc' hi' hc2 hm
  · rw [if_neg hl] at h ⊢
    by_cases h3 : 0 < ov ∧ (d0 < 1 ∨ ov < d0)
    · rw [if_pos h3]
      have hn : n = 1 := by omega
      subst hn
      have hm : ((1 : Int) != (if 1 < ov then 1 else ov)) = false := by rw [em, if_neg (by omega)]; rfl
      by_cases h4 : d0 < 1
      · exact he_g1' ov N g c i false 1 d0 d1 d2 d3 d4 d5 d6 d7 hc' hi' hc2 hm (decide_eq_true (by omega)) (by rw [w0]; exact decide_eq_true h4)
      · exact he_g2' ov N g c i false 1 d0 d1 d2 d3 d4 d5 d6 d7 hc' hi' hc2 hm (decide_eq_true (by omega)) (by rw [w0]; exact decide_eq_false h4) (by rw [w0]; exact decide_eq_true (by omega))
    · rw [if_neg h3] at h
      exact absurd rfl h
theorem hear_ok (ov N g c : Int) (i : Int) (r : Bool) (n d0 d1 d2 d3 d4 d5 d6 d7 : Int) (ho : ov = 0 ∨ 2 ≤ ov ∧ ov ≤ 240) (hd : 0 ≤ d0 ∧ d0 < 256) (hN : 0 ≤ N ∧ N ≤ 1000) (hg : 0 ≤ g ∧ g ≤ 1000) (hcc : 0 ≤ c ∧ c ≤ 240) (h : hE ov i r n d0 d1 d2 d3 d4 d5 d6 d7 = 0) : OK cfg (.fn 16 []) [.ptr (some (0, 0)), .agg [.int .i64 i, .bool r, .int .i64 n, .int .u8 d0, .int .u8 d1, .int .u8 d2, .int .u8 d3, .int .u8 d4, .int .u8 d5, .int .u8 d6, .int .u8 d7]] [.cells true [.int .i64 ov, .int .i64 N, .int .i64 g, .int .i64 c]] (.int .i64 0) [.cells true [.int .i64 ov, .int .i64 (N + 1), .int .i64 (g + gp ov N c d0), .int .i64 d0]] := by
  have w0 : IntKind.wrap .i64 d0 = d0 := wrap_i64 (by omega)
  have wN : IntKind.wrap .i64 (N + 1) = N + 1 := wrap_i64 (by omega)
  have wg : IntKind.wrap .i64 (g + 1) = g + 1 := wrap_i64 (by omega)
  obtain ⟨hc, hi, rfl, hx⟩ := hE_ok ho h
  have hc' : ((chk i false n d0 d1 d2 d3 d4 d5 d6 d7 : Int) != 0) = false := by simpa using hc
  have hc2 : ((chk i false n d0 d1 d2 d3 d4 d5 d6 d7 : Int) == 0) = true := by simpa using hc
  have hi' : ((i : Int) != 128) = false := by simpa using hi
  rcases hx with ⟨h1, rfl, h3⟩ | ⟨h1, rfl, h3⟩
  · have hm : ((0 : Int) != (if 1 < ov then 1 else ov)) = false := by rw [min1 ho, if_pos h1]; rfl
    have eg : g + gp ov N c d0 = g := by rw [gp, if_neg (by omega)]; omega
    rw [eg]
    by_cases hn : N > 0
    · have := he_zn' ov N g c i false 0 d0 d1 d2 d3 d4 d5 d6 d7 hc' hi' hc2 hm (decide_eq_false (by omega)) (decide_eq_true hn) (by omega) (by omega) (by simp [aft, h1])
      rw [wN] at this
      rw [h3] at this ⊢
      exact this
    · have := he_zz' ov N g c i false 0 d0 d1 d2 d3 d4 d5 d6 d7 hc' hi' hc2 hm (decide_eq_false (by omega)) (decide_eq_false hn)
      rw [wN] at this
      rw [h3] at this ⊢
      exact this
  · have hm : ((1 : Int) != (if 1 < ov then 1 else ov)) = false := by rw [min1 ho, if_neg (by omega)]; rfl
    by_cases hn : N > 0
    · by_cases hq : d0 = aft c ov
      · have eg : g + gp ov N c d0 = g := by rw [gp, if_neg (by intro h; exact h.2.2 hq)]; omega
        rw [eg]
        have := he_pe' ov N g c i false 1 d0 d1 d2 d3 d4 d5 d6 d7 hc' hi' hc2 hm (decide_eq_true (by omega)) (by rw [w0]; exact decide_eq_false (by omega)) (by rw [w0]; exact decide_eq_false (by omega)) (decide_eq_true hn) (by omega) (by omega) (by rw [w0]; simpa using hq)
        rw [wN, w0] at this
        exact this
      · have eg : g + gp ov N c d0 = g + 1 := by rw [gp, if_pos ⟨by omega, by omega, hq⟩]
        rw [eg]
        have := he_pn' ov N g c i false 1 d0 d1 d2 d3 d4 d5 d6 d7 hc' hi' hc2 hm (decide_eq_true (by omega)) (by rw [w0]; exact decide_eq_false (by omega)) (by rw [w0]; exact decide_eq_false (by omega)) (decide_eq_true hn) (by omega) (by omega) (by rw [w0]; simpa using hq)
        rw [wN, w0, wg] at this
        exact this
    · have eg : g + gp ov N c d0 = g := by rw [gp, if_neg (by omega)]; omega
      rw [eg]
      have := he_pz' ov N g c i false 1 d0 d1 d2 d3 d4 d5 d6 d7 hc' hi' hc2 hm (decide_eq_true (by omega)) (by rw [w0]; exact decide_eq_false (by omega)) (by rw [w0]; exact decide_eq_false (by omega)) (decide_eq_false hn)
      rw [wN, w0] at this
      exact this
theorem rh_ok (ov : Int) (i : Int) (r : Bool) (n d0 d1 d2 d3 d4 d5 d6 d7 : Int) (ho : ov = 0 ∨ 2 ≤ ov ∧ ov ≤ 240) (hd : 0 ≤ d0 ∧ d0 < 256) (H : Heap) : OK cfg (.fn 20 []) [.int .i64 ov, .agg [.int .i64 i, .bool r, .int .i64 n, .int .u8 d0, .int .u8 d1, .int .u8 d2, .int .u8 d3, .int .u8 d4, .int .u8 d5, .int .u8 d6, .int .u8 d7]] H (.tup [.int .i64 (if hE ov i r n d0 d1 d2 d3 d4 d5 d6 d7 = 0 then d0 else 0), .int .i64 (hE ov i r n d0 d1 d2 d3 d4 d5 d6 d7)]) H := by
  suffices hs : ∃ H', OK cfg (.fn 20 []) [.int .i64 ov, .agg [.int .i64 i, .bool r, .int .i64 n, .int .u8 d0, .int .u8 d1, .int .u8 d2, .int .u8 d3, .int .u8 d4, .int .u8 d5, .int .u8 d6, .int .u8 d7]] [] (.tup [.int .i64 (if hE ov i r n d0 d1 d2 d3 d4 d5 d6 d7 = 0 then d0 else 0), .int .i64 (hE ov i r n d0 d1 d2 d3 d4 d5 d6 d7)]) H' by
    obtain ⟨H', h⟩ := hs
    exact OK.any h H rfl rfl
  have w0 : IntKind.wrap .i64 d0 = d0 := wrap_i64 (by omega)
  by_cases hc : chk i r n d0 d1 d2 d3 d4 d5 d6 d7 = 0
  case neg =>
    have e : hE ov i r n d0 d1 d2 d3 d4 d5 d6 d7 = 4 := by rw [hE, if_pos (.inl hc)]
    rw [e]
    exact ⟨_, rh_c ov i r n d0 d1 d2 d3 d4 d5 d6 d7 (by simpa using hc)⟩
  have hc' : ((chk i r n d0 d1 d2 d3 d4 d5 d6 d7 : Int) != 0) = false := by simpa using hc
  by_cases hi : i = 128
  case neg =>
    have e : hE ov i r n d0 d1 d2 d3 d4 d5 d6 d7 = 4 := by rw [hE, if_pos (.inr (.inl hi))]
    rw [e]
    exact ⟨_, rh_i ov i r n d0 d1 d2 d3 d4 d5 d6 d7 hc' (by simpa using hi)⟩
  have hi' : ((i : Int) != 128) = false := by simpa using hi
  by_cases hr : r = true
  · have e : hE ov i r n d0 d1 d2 d3 d4 d5 d6 d7 = 4 := by rw [hE, if_pos (.inr (.inr hr))]
    rw [e]
    exact ⟨_, rh_r ov i r n d0 d1 d2 d3 d4 d5 d6 d7 hc' hi' hr⟩
  have hr' : r = false := by simpa using hr
  have e1 : hE ov i r n d0 d1 d2 d3 d4 d5 d6 d7 = if (ov = 0 ∧ n ≠ 0) ∨ (0 < ov ∧ n ≠ 1) then 11 else if 0 < ov ∧ (d0 < 1 ∨ ov < d0) then 3 else 0 := by
    rw [hE, if_neg]
    rintro (h | h | h)
    · exact h hc
    · exact h hi
    · exact hr h
  by_cases ho0 : ov = 0
  · by_cases hn : n = 0
    · have e : hE ov i r n d0 d1 d2 d3 d4 d5 d6 d7 = 0 := by rw [e1, if_neg (by omega), if_neg (by omega)]
      rw [e, if_pos rfl]
      exact ⟨_, OK.eqv (rh_z ov i r n d0 d1 d2 d3 d4 d5 d6 d7 hc' hi' hr' (by simp [ho0]) (by simp [hn]) (decide_eq_false (by omega))) (by rw [w0])⟩
    · have e : hE ov i r n d0 d1 d2 d3 d4 d5 d6 d7 = 11 := by rw [e1, if_pos (by omega)]
      rw [e]
      exact ⟨_, rh_lz ov i r n d0 d1 d2 d3 d4 d5 d6 d7 hc' hi' hr' (by simp [ho0]) (by simp [hn])⟩
  · have hp : ((ov : Int) == 0) = false := by simp [ho0]
    by_cases hn : n = 1
    case neg =>
      have e : hE ov i r n d0 d1 d2 d3 d4 d5 d6 d7 = 11 := by rw [e1, if_pos (by omega)]
      rw [e]
      exact ⟨_, rh_lp ov i r n d0 d1 d2 d3 d4 d5 d6 d7 hc' hi' hr' hp (decide_eq_true (by omega)) (by simp [hn])⟩
    have hn' : ((n : Int) != 1) = false := by simp [hn]
    by_cases h4 : d0 < 1
    · have e : hE ov i r n d0 d1 d2 d3 d4 d5 d6 d7 = 3 := by rw [e1, if_neg (by omega), if_pos (by omega)]
      rw [e]
      exact ⟨_, rh_g1 ov i r n d0 d1 d2 d3 d4 d5 d6 d7 hc' hi' hr' hp (decide_eq_true (by omega)) hn' (by rw [w0]; exact decide_eq_true h4)⟩
    by_cases h5 : d0 > ov
    · have e : hE ov i r n d0 d1 d2 d3 d4 d5 d6 d7 = 3 := by rw [e1, if_neg (by omega), if_pos (by omega)]
      rw [e]
      exact ⟨_, rh_g2 ov i r n d0 d1 d2 d3 d4 d5 d6 d7 hc' hi' hr' hp (decide_eq_true (by omega)) hn' (by rw [w0]; exact decide_eq_false h4) (by rw [w0]; exact decide_eq_true h5)⟩
    have e : hE ov i r n d0 d1 d2 d3 d4 d5 d6 d7 = 0 := by rw [e1, if_neg (by omega), if_neg (by omega)]
    rw [e, if_pos rfl]
    exact ⟨_, OK.eqv (rh_p ov i r n d0 d1 d2 d3 d4 d5 d6 d7 hc' hi' hr' hp (decide_eq_true (by omega)) hn' (by rw [w0]; exact decide_eq_false h4) (by rw [w0]; exact decide_eq_false h5)) (by rw [w0])⟩
theorem rh_good (ov : Int) (i : Int) (r : Bool) (n d0 d1 d2 d3 d4 d5 d6 d7 : Int) (ho : ov = 0 ∨ 2 ≤ ov ∧ ov ≤ 240) (hd : 0 ≤ d0 ∧ d0 < 256) (h : hE ov i r n d0 d1 d2 d3 d4 d5 d6 d7 = 0) (H : Heap) : OK cfg (.fn 20 []) [.int .i64 ov, .agg [.int .i64 i, .bool r, .int .i64 n, .int .u8 d0, .int .u8 d1, .int .u8 d2, .int .u8 d3, .int .u8 d4, .int .u8 d5, .int .u8 d6, .int .u8 d7]] H (.tup [.int .i64 d0, .int .i64 0]) H := by
  have := rh_ok ov i r n d0 d1 d2 d3 d4 d5 d6 d7 ho hd H
  rw [h, if_pos rfl] at this
  exact this
theorem rh_bad (ov : Int) (i : Int) (r : Bool) (n d0 d1 d2 d3 d4 d5 d6 d7 : Int) (ho : ov = 0 ∨ 2 ≤ ov ∧ ov ≤ 240) (hd : 0 ≤ d0 ∧ d0 < 256) (h : hE ov i r n d0 d1 d2 d3 d4 d5 d6 d7 ≠ 0) (H : Heap) : OK cfg (.fn 20 []) [.int .i64 ov, .agg [.int .i64 i, .bool r, .int .i64 n, .int .u8 d0, .int .u8 d1, .int .u8 d2, .int .u8 d3, .int .u8 d4, .int .u8 d5, .int .u8 d6, .int .u8 d7]] H (.tup [.int .i64 0, .int .i64 (hE ov i r n d0 d1 d2 d3 d4 d5 d6 d7)]) H := by
  have := rh_ok ov i r n d0 d1 d2 d3 d4 d5 d6 d7 ho hd H
  rw [if_neg h] at this
  exact this
/-- Is the last pulse one of a rate's? -/
def onV (ov N c rate : Int) : Bool := if N = 0 ∨ rate < 1 ∨ 240 < rate then false else if 0 < ov then (Int.tmod c rate == 0) else (Int.tmod N rate == 0)
theorem on_ok (ov N g c rate : Int) : OK cfg (.fn 19 []) [.ptr (some (0, 0)), .int .i64 rate] [.cells true [.int .i64 ov, .int .i64 N, .int .i64 g, .int .i64 c]] (.bool (onV ov N c rate)) [.cells true [.int .i64 ov, .int .i64 N, .int .i64 g, .int .i64 c]] := by
  unfold onV
  by_cases h1 : N = 0
  · rw [if_pos (.inl h1)]
    exact on_0 ov N g c rate (by simp [h1])
  have h1' : ((N : Int) == 0) = false := by simp [h1]
  by_cases h2 : rate < 1
  · rw [if_pos (by omega)]
    exact on_l ov N g c rate h1' (decide_eq_true h2)
  by_cases h3 : rate > 240
  · rw [if_pos (by omega)]
    exact on_h ov N g c rate h1' (decide_eq_false h2) (decide_eq_true h3)
  rw [if_neg (by omega)]
  by_cases h4 : 0 < ov
  · rw [if_pos h4]
    exact on_p ov N g c rate h1' (decide_eq_false h2) (decide_eq_false h3) (decide_eq_true h4) (by omega)
  · rw [if_neg h4]
    exact on_z ov N g c rate h1' (decide_eq_false h2) (decide_eq_false h3) (decide_eq_false (by omega)) (by omega)
theorem back_mul {x rate : Int} (hx : 0 ≤ x ∧ x ≤ 1000) (hr : 1 ≤ rate ∧ rate ≤ 240) : ((IntKind.wrap .i64 ((IntKind.wrap .i64 (Int.tdiv x rate)) * rate) : Int) == x) = ((Int.tmod x rate : Int) == 0) := by
  have h1 := Int.emod_add_mul_ediv x rate
  have h2 := Int.emod_nonneg x (show rate ≠ 0 by omega)
  have h3 := Int.emod_lt_of_pos x (show 0 < rate by omega)
  have h4 : 0 ≤ x / rate := Int.ediv_nonneg hx.1 (by omega)
  have h5 : x / rate ≤ x := Int.ediv_le_self _ hx.1
  rw [Int.tdiv_eq_ediv_of_nonneg hx.1, Int.tmod_eq_emod_of_nonneg hx.1, wrap_i64 (n := x / rate) (by omega)]
  rw [Int.mul_comm] at h1
  have h6 : 0 ≤ x / rate * rate := Int.mul_nonneg h4 (by omega)
  rw [wrap_i64 (n := x / rate * rate) (by omega), Bool.eq_iff_iff]
  simp only [beq_iff_eq]
  omega
/-- The last of some counts. -/
def lastC (C : List Int) : Int := C.getD (C.length - 1) 0
theorem ron_ok (ov : Int) (C : List Int) (rate : Int) (hC : ∀ x ∈ C, 0 ≤ x ∧ x ≤ 240) (hl : C.length ≤ 100) : OK cfg (.fn 22 []) [.int .i64 ov, .sl 1 (some (0, 0)) C.length, .int .i64 rate] [.cells true ((C).map (V.int .i64))] (.bool (onV ov C.length (lastC C) rate)) [.cells true ((C).map (V.int .i64))] := by
  unfold onV
  by_cases h1 : (C.length : Int) = 0
  · rw [if_pos (.inl h1)]
    exact ro_0 ov C rate (by simpa using h1)
  have h1' : ((((C.length : Nat) : Int) : Int) == 0) = false := by simpa using h1
  by_cases h2 : rate < 1
  · rw [if_pos (by omega)]
    exact ro_l ov C rate h1' (decide_eq_true h2)
  by_cases h3 : rate > 240
  · rw [if_pos (by omega)]
    exact ro_h ov C rate h1' (decide_eq_false h2) (decide_eq_true h3)
  rw [if_neg (by omega)]
  have ew : IntKind.wrap .i64 (((C.length : Nat) : Int) - 1) = ((C.length : Nat) : Int) - 1 := wrap_i64 (by omega)
  have en : (0 + ((Int.toNat (IntKind.wrap .i64 (((C.length : Nat) : Int) - 1))) * 1)) = C.length - 1 := by rw [ew]; omega
  by_cases h4 : 0 < ov
  · rw [if_pos h4]
    have hx := hC (lastC C) (getD_mem (by omega))
    exact OK.eqv (ro_p ov C rate h1' (decide_eq_false h2) (decide_eq_false h3) (decide_eq_true h4) (by rw [ew]; omega) (by rw [en]; omega) (by omega)) (congrArg V.bool (by rw [en]; exact back_mul (by unfold lastC at hx; omega) (by omega)))
  · rw [if_neg h4]
    exact OK.eqv (ro_z ov C rate h1' (decide_eq_false h2) (decide_eq_false h3) (decide_eq_false (by omega)) (by omega)) (congrArg V.bool (back_mul (by omega) (by omega)))
/-- How many of the first counts are not the next one. -/
def gapsI (ov : Int) (C : List Int) : Nat → Int
  | 0 => 0
  | k + 1 => gapsI ov C k + (if 0 < k ∧ 0 < ov ∧ C.getD k 0 ≠ aft (C.getD (k - 1) 0) ov then 1 else 0)
def gapsR (ov : Int) (C : List Int) : Int := gapsI ov C C.length
theorem gapsI_bnd (ov : Int) (C : List Int) (k : Nat) : 0 ≤ gapsI ov C k ∧ gapsI ov C k ≤ k := by
  induction k with
  | zero => simp [gapsI]
  | succ k ih =>
    unfold gapsI
    split <;> omega
theorem gapsI_app (ov : Int) (C : List Int) (x : Int) (k : Nat) (hk : k ≤ C.length) : gapsI ov (C ++ [x]) k = gapsI ov C k := by
  induction k with
  | zero => rfl
  | succ k ih =>
    have e1 : (C ++ [x]).getD k 0 = C.getD k 0 := by simp [List.getD, List.getElem?_append_left (show k < C.length by omega)]
    have e2 : (C ++ [x]).getD (k - 1) 0 = C.getD (k - 1) 0 := by simp [List.getD, List.getElem?_append_left (show k - 1 < C.length by omega)]
    simp only [gapsI, e1, e2, ih (by omega)]
theorem gapsR_app (ov : Int) (C : List Int) (x : Int) : gapsR ov (C ++ [x]) = gapsR ov C + gp ov C.length (lastC C) x := by
  have e0 : (C ++ [x]).length = C.length + 1 := by simp
  unfold gapsR
  rw [e0]
  simp only [gapsI]
  rw [gapsI_app ov C x C.length (by omega)]
  congr 1
  have e1 : (C ++ [x]).getD C.length 0 = x := by simp [List.getD]
  by_cases h : 0 < C.length
  · have e2 : (C ++ [x]).getD (C.length - 1) 0 = lastC C := by simp [List.getD, lastC, List.getElem?_append_left (show C.length - 1 < C.length by omega)]
    rw [e1, e2, gp]
    simp only [show ((0 : Int) < (C.length : Int)) = (0 < C.length) from by simp]
  · rw [if_neg (by omega), gp, if_neg (by omega)]
theorem lastC_app (C : List Int) (x : Int) : lastC (C ++ [x]) = x := by simp [lastC, List.getD]
theorem gaps_all (ov : Int) (C : List Int) (ho : ov = 0 ∨ 2 ≤ ov ∧ ov ≤ 240) (hC : ∀ x ∈ C, (ov = 0 ∧ x = 0) ∨ (1 ≤ x ∧ x ≤ ov)) (hl : C.length ≤ 100) : ∀ (m i : Nat), i + m = C.length → 1 ≤ i → LOK cfg none (lb 21 0) ((.int .i64 ov) :: (.sl 1 (some (0, 0)) C.length) :: u_ :: u_ :: u_ :: (.int .i64 (gapsI ov C i)) :: (.int .i64 ((i : Nat) : Int)) :: us 29) [.cells true ((C).map (V.int .i64))] (.exit 0) (u_ :: u_ :: u_ :: u_ :: u_ :: (.int .i64 (gapsR ov C)) :: us 30) [.cells true ((C).map (V.int .i64))] := by
  intro m
  induction m with
  | zero =>
    intro i hi h1
    have hi : i = C.length := by omega
    subst hi
    exact ga_x ov C (gapsI ov C C.length) 0 C.length (decide_eq_false (by omega))
  | succ m IH =>
    intro i hi h1
    have k := IH (i + 1) (by omega) (by omega)
    have ew : IntKind.wrap .i64 (((i : Nat) : Int) - 1) = ((i : Nat) : Int) - 1 := wrap_i64 (by omega)
    have ex : (0 + ((Int.toNat (IntKind.wrap .i64 (((i : Nat) : Int) - 1))) * 1)) = i - 1 := by rw [ew]; omega
    have e2 : 0 + (i * 1) = i := by omega
    have ei : IntKind.wrap .i64 (((i : Nat) : Int) + 1) = (((i + 1) : Nat) : Int) := (wrap_i64 (by omega)).trans (by simp)
    have ha := hC (C.getD (i - 1) 0) (getD_mem (by omega))
    have hb := hC (C.getD i 0) (getD_mem (by omega))
    have hg := gapsI_bnd ov C i
    have en : IntKind.wrap .i64 (gapsI ov C i + 1) = gapsI ov C i + 1 := wrap_i64 (by omega)
    simp only [gapsI] at k
    generalize hx : C.getD (i - 1) 0 = x at *
    have hxx : (C).getD (0 + ((Int.toNat (IntKind.wrap .i64 (((i : Nat) : Int) - 1))) * 1)) 0 = x := by rw [ex]; exact hx
    have hyy : (C).getD (0 + (i * 1)) 0 = C.getD i 0 := by rw [e2]
    have ea : IntKind.wrap .i64 (x + 1) = x + 1 := wrap_i64 (by omega)
    rcases ho with ho | ho
    · rw [if_neg (by omega), Int.add_zero] at k
      exact ga_z ov C _ (gapsR ov C) i (decide_eq_true (by omega)) (by rw [ew]; omega) (by rw [ex]; omega) (by rw [hxx, ea]; exact decide_eq_true (by omega)) (decide_eq_false (by omega)) ei k
    have hf : aft x ov = if x + 1 > ov then 1 else x + 1 := by
      rw [aft, if_neg (by omega)]
      split
      · have : x = ov := by omega
        rw [this, Int.emod_self]
        rfl
      · rw [Int.emod_eq_of_lt (by omega) (by omega)]
    by_cases h3 : x + 1 > ov
    · rw [if_pos h3] at hf
      by_cases h4 : C.getD i 0 = 1
      · rw [if_neg (by intro h; exact h.2.2 (by rw [hf]; exact h4)), Int.add_zero] at k
        exact ga_we ov C _ (gapsR ov C) i (decide_eq_true (by omega)) (by rw [ew]; omega) (by rw [ex]; omega) (by rw [hxx, ea]; exact decide_eq_true (by omega)) (decide_eq_true (by omega)) (by omega) (by omega) (by rw [hyy]; simpa using h4) ei k
      · rw [if_pos ⟨by omega, by omega, by rw [hf]; exact h4⟩] at k
        exact ga_wn ov C _ (gapsR ov C) i (decide_eq_true (by omega)) (by rw [ew]; omega) (by rw [ex]; omega) (by rw [hxx, ea]; exact decide_eq_true (by omega)) (decide_eq_true (by omega)) (by omega) (by omega) (by rw [hyy]; simpa using h4) ei en k
    · rw [if_neg h3] at hf
      by_cases h4 : C.getD i 0 = x + 1
      · rw [if_neg (by intro h; exact h.2.2 (by rw [hf]; exact h4)), Int.add_zero] at k
        exact ga_ne ov C _ (gapsR ov C) i (decide_eq_true (by omega)) (by rw [ew]; omega) (by rw [ex]; omega) (by rw [hxx, ea]; exact decide_eq_false (by omega)) (decide_eq_true (by omega)) (by omega) (by omega) (by rw [hyy, hxx, ea]; simpa using h4) ei k
      · rw [if_pos ⟨by omega, by omega, by rw [hf]; exact h4⟩] at k
        exact ga_nn ov C _ (gapsR ov C) i (decide_eq_true (by omega)) (by rw [ew]; omega) (by rw [ex]; omega) (by rw [hxx, ea]; exact decide_eq_false (by omega)) (decide_eq_true (by omega)) (by omega) (by omega) (by rw [hyy, hxx, ea]; simpa using h4) ei en k
theorem rgaps_ok (ov : Int) (C : List Int) (ho : ov = 0 ∨ 2 ≤ ov ∧ ov ≤ 240) (hC : ∀ x ∈ C, (ov = 0 ∧ x = 0) ∨ (1 ≤ x ∧ x ≤ ov)) (hl : C.length ≤ 100) : OK cfg (.fn 21 []) [.int .i64 ov, .sl 1 (some (0, 0)) C.length] [.cells true ((C).map (V.int .i64))] (.int .i64 (gapsR ov C)) [.cells true ((C).map (V.int .i64))] := by
  refine ga_f ov C (gapsR ov C) ?_
  by_cases h : C.length = 0
  · have e : gapsR ov C = 0 := by simp [gapsR, h, gapsI]
    rw [e]
    exact ga_x ov C 0 0 1 (decide_eq_false (by omega))
  · have k := gaps_all ov C ho hC hl (C.length - 1) 1 (by omega) (by omega)
    have e : gapsI ov C 1 = 0 := by simp [gapsI]
    rw [e] at k
    exact k
theorem rgaps_at (ov : Int) (C : List Int) (cs : List V) (n : Nat) (e : cs = C.map (V.int .i64)) (en : n = C.length) (ho : ov = 0 ∨ 2 ≤ ov ∧ ov ≤ 240) (hC : ∀ x ∈ C, (ov = 0 ∧ x = 0) ∨ (1 ≤ x ∧ x ≤ ov)) (hl : C.length ≤ 100) : OK cfg (.fn 21 []) [.int .i64 ov, .sl 1 (some (0, 0)) n] [.cells true cs] (.int .i64 (gapsR ov C)) [.cells true cs] := by
  subst e en
  exact rgaps_ok ov C ho hC hl
theorem ron_at (ov : Int) (C : List Int) (rate : Int) (cs : List V) (n : Nat) (e : cs = C.map (V.int .i64)) (en : n = C.length) (ho : ov = 0 ∨ 2 ≤ ov ∧ ov ≤ 240) (hC : ∀ x ∈ C, (ov = 0 ∧ x = 0) ∨ (1 ≤ x ∧ x ≤ ov)) (hl : C.length ≤ 100) : OK cfg (.fn 22 []) [.int .i64 ov, .sl 1 (some (0, 0)) n, .int .i64 rate] [.cells true cs] (.bool (onV ov C.length (lastC C) rate)) [.cells true cs] := by
  subst e en
  exact ron_ok ov C rate (fun x hx => by have := hC x hx; omega) hl

end Go.Proofs.Ytincidgoekbdpaa.pulses
