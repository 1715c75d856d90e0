/-
  Whatever is put and cut, each answer and what is there are told: the law.
-/
import Derived.Test.YtoglhcgcfdcmfaaSy4
set_option linter.unusedVariables false
set_option linter.unusedSimpArgs false
set_option maxRecDepth 100000
namespace Go.Proofs.Ytoglhcgcfdcmfaa.shelf
open Go Go.Vm Go.Shelf

theorem typed_k {r : List V} (h : Typed [.int .i64, .int .i64, .int .i64] r) : ∃ x, r = encD x ∧ rng x.2.1 := by
  match r, h with
  | [.int k0 n0, .int k1 n1, .int k2 n2], h =>
    obtain ⟨⟨rfl, _⟩, ⟨rfl, w1⟩, ⟨rfl, _⟩, _⟩ := h
    exact ⟨(n0, n1, n2), rfl, wf_i64 w1⟩
theorem betw_nil (a b : Int) : betw [] a b = [] := rfl
theorem mid_from {L : List R2} (hs : Srt L) (hb : ∀ x ∈ L, rng x.1) (k : Int) : mid L k 9223372036854775807 = L.drop (pl L k) := by
  rw [(pl_spec hs k).2, mid]
  apply List.filter_congr
  intro x hx
  have := (hb x hx).2
  simp
  omega
theorem mid_upto {L : List R2} (hs : Srt L) (hb : ∀ x ∈ L, rng x.1) (k : Int) : (mid L (-9223372036854775808) k).reverse = upto L k := by
  unfold upto
  congr 1
  have hm : mid L (-9223372036854775808) k = L.filter (fun r => decide (r.1 ≤ k)) := by
    apply List.filter_congr
    intro x hx
    have := (hb x hx).1
    simp
    omega
  rw [hm]
  obtain ⟨h1, h2⟩ := pl_spec hs k
  cases e : hasL L k with
  | true =>
    obtain ⟨h3, h4⟩ := drop_has hs e
    have hk : (gR L (pl L k)).1 = k := by have := e; simp only [hasL, decide_eq_true_eq] at this; exact this.2
    have hl : pl L k < L.length := by have := e; simp only [hasL, decide_eq_true_eq] at this; exact this.1
    rw [if_pos rfl]
    conv => lhs; rw [← List.take_append_drop (pl L k + 1) L]
    rw [List.filter_append]
    have q1 : (L.drop (pl L k + 1)).filter (fun r => decide (r.1 ≤ k)) = [] := by
      rw [List.filter_eq_nil_iff, h4]
      intro a ha
      have : k < a.1 := by simpa using (List.mem_filter.1 ha).2
      simp
      omega
    have q2 : (L.take (pl L k + 1)).filter (fun r => decide (r.1 ≤ k)) = L.take (pl L k + 1) := by
      rw [List.filter_eq_self]
      intro a ha
      rw [List.take_add_one, gR_get L hl] at ha
      rcases List.mem_append.1 ha with ha | ha
      · rw [h1] at ha
        have : a.1 < k := by simpa using (List.mem_filter.1 ha).2
        exact decide_eq_true (by omega)
      · have : a = gR L (pl L k) := by simpa using ha
        rw [this, hk]
        simp
    rw [q1, q2, List.append_nil]
  | false =>
    have h3 := filter_hasnt hs e
    rw [if_neg (by simp), Nat.add_zero, h1]
    apply List.filter_congr
    intro a ha
    have := h3 a ha
    simp
    omega
theorem law_yr (rows : List (List V)) (hr : ∀ r ∈ rows, Typed (leaves Try.prog 2 93) r) (k : Int) : ∃ H', OK cfg (.fn 5 []) [.sl 3 (some (0, 0)) rows.length, .int .i64 k] [.cells false rows.flatten] (.bool true) H' := by
  have e : leaves Try.prog 2 93 = [.int .i64, .int .i64, .int .i64] := by kernel_rfl
  rw [e] at hr
  obtain ⟨S, rfl, hS⟩ := rows_of (f := encD) (p := fun x => rng x.2.1) (fun r hr => typed_k hr) hr
  rw [List.length_map]
  have hg : ∀ i, i < S.length → rng (gD S i).2.1 := fun i h => hS _ (getD_mem h)
  rcases play_okB S hg with ⟨Z, Y, hI, hl, hp⟩ | ⟨ez, Y, hI, hp⟩
  · have hy : Z.length = Y.length := hI.1.2.length_eq
    have hb := betw_mid hI.1
    have hlen : (betw Y (-9223372036854775808) k).length ≤ 1000 := by
      rw [hb]
      have : (mid Z (-9223372036854775808) k).length ≤ Z.length := List.length_filter_le _ _
      omega
    have hk := hI.lookL k
    exact ⟨_, OK.eqv (yf S 0 Z Y k hp (by rw [hy]; simp) (by omega) (by omega) ((hb _ _).trans (mid_all hI.2)) hI.1.1 ((hb _ _).trans (mid_from hI.1.1 hI.2 k)) hlen (by rw [hb]; exact mid_upto hI.1.1 hI.2 k) (by rw [hk]; simp) (by rw [hk]; simp)) (by rw [← rk_perm hI.1.2, rk_srt hI.1.1]; simp)⟩
  · have hy : Y = [] := List.nil_perm.1 hI.1.2
    subst hy
    exact ⟨_, yn S ez [] [] k hp rfl (by simp) rfl rfl (by simp [betw_nil]) rfl (by simp) rfl rfl⟩
theorem law_yn (k : Int) : ∃ H', OK cfg (.fn 5 []) [.sl 3 none 0, .int .i64 k] [] (.bool true) H' :=
  ⟨_, y0 k (by simp) rfl rfl rfl rfl (by simp [betw_nil]) rfl (by simp) rfl rfl⟩
theorem law_yv (k : Int) : ∃ H', OK cfg (.fn 5 []) [.sl 3 (some (0, 0)) 0, .int .i64 k] [.void] (.bool true) H' :=
  ⟨_, yv k (by simp) rfl rfl rfl rfl (by simp [betw_nil]) rfl (by simp) rfl rfl⟩
end Go.Proofs.Ytoglhcgcfdcmfaa.shelf
namespace Go.Proofs.Ytoglhcgcfdcmfaa.shelfPlays
open Go Go.Vm
noncomputable abbrev cfg : Cfg := shelf.cfg
theorem law_n (a1 : Int) (w1 : (Lit.int .i64 a1).wf = true) : ∃ H', OK cfg (.fn 5 []) [.sl 3 none 0, .int .i64 a1] [] (.bool true) H' := shelf.law_yn a1
theorem law_v (a1 : Int) (w1 : (Lit.int .i64 a1).wf = true) : ∃ H', OK cfg (.fn 5 []) [.sl 3 (some (0, 0)) 0, .int .i64 a1] [.void] (.bool true) H' := shelf.law_yv a1
theorem law_r (rows : List (List V)) (hr : ∀ r ∈ rows, Typed (leaves Try.prog 2 93) r) (a1 : Int) (w1 : (Lit.int .i64 a1).wf = true) : ∃ H', OK cfg (.fn 5 []) [.sl 3 (some (0, 0)) rows.length, .int .i64 a1] [.cells false rows.flatten] (.bool true) H' := shelf.law_yr rows hr a1

end Go.Proofs.Ytoglhcgcfdcmfaa.shelfPlays
