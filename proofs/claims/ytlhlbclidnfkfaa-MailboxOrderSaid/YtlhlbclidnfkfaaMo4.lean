/-
  Frames are taken by their ranks: the loops as wholes.
-/
import Derived.Test.YtlhlbclidnfkfaaMo3
set_option linter.unusedVariables false
set_option linter.unusedSimpArgs false
set_option maxRecDepth 100000
namespace Go.Proofs.Ytlhlbclidnfkfaa.boxes
open Go Go.Vm Go.Box

abbrev rF (x : FT) : Int := rkV x.1 x.2.1
abbrev cF (x : FT) : Int := chk x.1 x.2.1 x.2.2.1 x.2.2.2.1 x.2.2.2.2.1 x.2.2.2.2.2.1 x.2.2.2.2.2.2.1 x.2.2.2.2.2.2.2.1 x.2.2.2.2.2.2.2.2.1 x.2.2.2.2.2.2.2.2.2.1 x.2.2.2.2.2.2.2.2.2.2
/-- What waits is what came, by its ranks. -/
structure Inv (T : List FT) (L : List LT) : Prop where
  srt : L.Pairwise (fun a b => lrk a ≤ lrk b)
  fil : ∀ r : Int, (L.filter (fun x => lrk x == r)).map frL = T.filter (fun x => rF x == r)
  ok : ∀ x ∈ L, cF (frL x) = 0 ∧ lrk x = rF (frL x)
  len : L.length = T.length
  okT : ∀ x ∈ T, cF x = 0
theorem srt_get {L : List LT} (h : L.Pairwise (fun a b => lrk a ≤ lrk b)) {i j : Nat} (hij : i < j) (hj : j < L.length) : lrk (gL L i) ≤ lrk (gL L j) := by
  have := List.pairwise_iff_getElem.1 h i j (by omega) hj hij
  simpa [gL, List.getD_eq_getElem?_getD, List.getElem?_eq_getElem (show i < L.length by omega), List.getElem?_eq_getElem hj] using this
theorem plF_lo {L : List LT} (h : L.Pairwise (fun a b => lrk a ≤ lrk b)) (r : Int) : ∀ n, n ≤ L.length → ∀ i, i < plF L r n → lrk (gL L i) ≤ r
  | 0, _, i, hi => by simp [plF] at hi
  | n + 1, hn, i, hi => by
    unfold plF at hi
    split at hi
    · exact plF_lo h r n (by omega) i hi
    · rename_i hg
      by_cases e : i = n
      · subst e; omega
      · have := srt_get h (i := i) (j := n) (by omega) (by omega)
        omega
theorem plF_hi (L : List LT) (r : Int) : ∀ n, ∀ i, plF L r n ≤ i → i < n → r < lrk (gL L i)
  | 0, i, hi, hn => by omega
  | n + 1, i, hi, hn => by
    unfold plF at hi
    split at hi
    · rename_i hg
      by_cases e : i = n
      · subst e; omega
      · exact plF_hi L r n i hi (by omega)
    · omega
theorem mem_take_lo {L : List LT} (h : L.Pairwise (fun a b => lrk a ≤ lrk b)) (r : Int) {x : LT} (hx : x ∈ L.take (plF L r L.length)) : lrk x ≤ r := by
  obtain ⟨i, hi, rfl⟩ := List.getElem_of_mem hx
  have hp := plF_le L r L.length
  rw [List.length_take] at hi
  have := plF_lo h r L.length (Nat.le_refl _) i (by omega)
  rw [List.getElem_take]
  simpa [gL, List.getD_eq_getElem?_getD, List.getElem?_eq_getElem (show i < L.length by omega)] using this
theorem mem_drop_hi (L : List LT) (r : Int) {x : LT} (hx : x ∈ L.drop (plF L r L.length)) : r < lrk x := by
  obtain ⟨i, hi, rfl⟩ := List.getElem_of_mem hx
  have hp := plF_le L r L.length
  rw [List.length_drop] at hi
  have := plF_hi L r L.length (plF L r L.length + i) (by omega) (by omega)
  rw [List.getElem_drop]
  simpa [gL, List.getD_eq_getElem?_getD, List.getElem?_eq_getElem (show plF L r L.length + i < L.length by omega)] using this
theorem Inv.put {T : List FT} {L : List LT} (h : Inv T L) (x : LT) (hc : cF (frL x) = 0) (hr : lrk x = rF (frL x)) : Inv (T ++ [frL x]) (putL L x) := by
  obtain ⟨h1, h2, h3, h4, h5⟩ := h
  refine ⟨?_, fun r => ?_, fun y hy => ?_, by rw [put_len]; simp [h4], fun y hy => ?_⟩
  · rw [putL, List.append_assoc, List.pairwise_append]
    refine ⟨h1.sublist (List.take_sublist _ _), ?_, fun a ha b hb => ?_⟩
    · rw [List.singleton_append, List.pairwise_cons]
      exact ⟨fun b hb => Int.le_of_lt (mem_drop_hi L _ hb), h1.sublist (List.drop_sublist _ _)⟩
    · have := mem_take_lo h1 _ ha
      rw [List.singleton_append, List.mem_cons] at hb
      rcases hb with rfl | hb
      · exact this
      · have := mem_drop_hi L _ hb
        omega
  · have e : L.filter (fun x => lrk x == r) = (L.take (plF L (lrk x) L.length)).filter (fun x => lrk x == r) ++ (L.drop (plF L (lrk x) L.length)).filter (fun x => lrk x == r) := by rw [← List.filter_append, List.take_append_drop]
    have h2' := h2 r
    rw [e] at h2'
    rw [putL, List.filter_append, List.filter_append, List.filter_append, ← h2']
    by_cases hx : lrk x = r
    · have hd : (L.drop (plF L (lrk x) L.length)).filter (fun x => lrk x == r) = [] := by
        rw [List.filter_eq_nil_iff]
        intro y hy
        have := mem_drop_hi L _ hy
        simp
        omega
      have hf : (rF (frL x) == r) = true := by rw [← hr, hx]; exact beq_self_eq_true _
      rw [hd]
      simp [List.filter_cons, hx, hf]
    · have hf : (rF (frL x) == r) = false := by rw [← hr]; exact beq_eq_false_iff_ne.2 hx
      simp [List.filter_cons, hx, hf]
  · rw [putL, List.append_assoc, List.mem_append, List.singleton_append, List.mem_cons] at hy
    rcases hy with hy | rfl | hy
    · exact h3 y (List.mem_of_mem_take hy)
    · exact ⟨hc, hr⟩
    · exact h3 y (List.mem_of_mem_drop hy)
  · rw [List.mem_append, List.mem_singleton] at hy
    rcases hy with hy | rfl
    · exact h5 y hy
    · exact hc
theorem inv_nil : Inv [] [] := ⟨List.Pairwise.nil, fun r => rfl, fun y hy => (nomatch hy), rfl, fun y hy => (nomatch hy)⟩
theorem Inv.out {T : List FT} {L : List LT} (h : Inv T L) : (∀ x ∈ L.map frL, cF x = 0) ∧ (∀ k, k + 1 < L.length → rF (gF (L.map frL) k) ≤ rF (gF (L.map frL) (k + 1))) ∧ (∀ r : Int, (L.map frL).filter (fun x => rF x == r) = T.filter (fun x => rF x == r)) := by
  refine ⟨fun x hx => ?_, fun k hk => ?_, fun r => ?_⟩
  · obtain ⟨y, hy, rfl⟩ := List.mem_map.1 hx
    exact (h.ok y hy).1
  · have hs := srt_get h.srt (i := k) (j := k + 1) (by omega) hk
    have g : ∀ j, j < L.length → rF (gF (L.map frL) j) = lrk (gL L j) := by
      intro j hj
      have e : gF (L.map frL) j = frL (gL L j) := by simp [gF, gL, List.getD_eq_getElem?_getD, List.getElem?_eq_getElem hj]
      rw [e, (h.ok (gL L j) (by
        have : gL L j = L[j] := by simp [gL, List.getD_eq_getElem?_getD, List.getElem?_eq_getElem hj]
        rw [this]; exact List.getElem_mem hj)).2]
    rw [g k (by omega), g (k + 1) hk]
    exact hs
  · rw [← h.fil r, List.filter_map]
    congr 1
    refine List.filter_congr fun x hx => ?_
    rw [Function.comp_apply, ← (h.ok x hx).2]
theorem fil_none {T : List FT} {r : Int} {i : Nat} (hi : i < T.length) (h : rF (gF T i) ≠ r) : (T.drop i).filter (fun x => rF x == r) = (T.drop (i + 1)).filter (fun x => rF x == r) := by
  rw [List.drop_eq_getElem_cons hi, List.filter_cons]
  have e : T[i] = gF T i := by simp [gF, List.getD_eq_getElem?_getD, List.getElem?_eq_getElem hi]
  rw [e, if_neg (by simpa using h)]
theorem fil_some {T : List FT} {r : Int} {i : Nat} (hi : i < T.length) (h : rF (gF T i) = r) : (T.drop i).filter (fun x => rF x == r) = gF T i :: (T.drop (i + 1)).filter (fun x => rF x == r) := by
  rw [List.drop_eq_getElem_cons hi, List.filter_cons]
  have e : T[i] = gF T i := by simp [gF, List.getD_eq_getElem?_getD, List.getElem?_eq_getElem hi]
  rw [e, if_pos (by simpa using h)]
theorem gF_mem {T : List FT} {i : Nat} (hi : i < T.length) : gF T i ∈ T := by
  have e : gF T i = T[i] := by simp [gF, List.getD_eq_getElem?_getD, List.getElem?_eq_getElem hi]
  rw [e]; exact List.getElem_mem hi

theorem o0_all (S : List FT) (m : Nat) (hm : m ≤ S.length) (h20 : m ≤ 20) : ∀ (d j : Nat) (lo : Int), j + d = m → 0 ≤ lo ∧ lo ≤ j → (∀ (T : List FT) (L : List LT), Inv T L → T.length ≤ j → ∃ (Y : List FT) (Z : List LT) (lz : Int), Inv Y Z ∧ Y.length ≤ 20 ∧ LOK cfg none (lb 3 0) ((.sl 11 (some (0, 0)) m) :: u_ :: u_ :: (.ptr (some (2, 0))) :: (.sl 11 (some (1, 0)) T.length) :: (i6 ((j : Nat) : Int)) :: us 133) [.cells false ((S.map encF).flatten), .cells true ((T.map encF).flatten), c1 [(.sl 13 (some (3, 0)) L.length), (i6 lo)], .cells true ((L.map encL).flatten)] (.exit 0) (u_ :: u_ :: u_ :: (.ptr (some (5, 0))) :: (.sl 11 (some (4, 0)) Y.length) :: us 134) [.cells false ((S.map encF).flatten), d_, d_, d_, .cells true ((Y.map encF).flatten), c1 [(.sl 13 (some (6, 0)) Z.length), (i6 lz)], .cells true ((Z.map encL).flatten)]) ∧ (∀ e0 : Nat, (∃ (Y : List FT) (Z : List LT) (lz : Int), Inv Y Z ∧ Y.length ≤ 20 ∧ LOK cfg none (lb 3 0) ((.sl 11 (some (0, 0)) m) :: u_ :: u_ :: (.ptr (some (2, 0))) :: (.sl 11 (some (1, 0)) ([] : List FT).length) :: (i6 ((j : Nat) : Int)) :: us 133) [.cells false ((S.map encF).flatten), .cells true ((([] : List FT).map encF).flatten), c1 [(.sl e0 none 0), (i6 lo)]] (.exit 0) (u_ :: u_ :: u_ :: (.ptr (some (4, 0))) :: (.sl 11 (some (3, 0)) Y.length) :: us 134) [.cells false ((S.map encF).flatten), d_, d_, .cells true ((Y.map encF).flatten), c1 [(.sl 13 (some (5, 0)) Z.length), (i6 lz)], .cells true ((Z.map encL).flatten)]) ∨ (∃ (ez : Nat), LOK cfg none (lb 3 0) ((.sl 11 (some (0, 0)) m) :: u_ :: u_ :: (.ptr (some (2, 0))) :: (.sl 11 (some (1, 0)) ([] : List FT).length) :: (i6 ((j : Nat) : Int)) :: us 133) [.cells false ((S.map encF).flatten), .cells true ((([] : List FT).map encF).flatten), c1 [(.sl e0 none 0), (i6 lo)]] (.exit 0) (u_ :: u_ :: u_ :: (.ptr (some (4, 0))) :: (.sl 11 (some (3, 0)) ([] : List FT).length) :: us 134) [.cells false ((S.map encF).flatten), d_, d_, .cells true ((([] : List FT).map encF).flatten), c1 [(.sl ez none 0), (i6 lo)]])) := by
  intro d
  induction d with
  | zero =>
    intro j lo hj hlo
    refine ⟨fun T L hI hl => ⟨T, L, lo, hI, by omega, o0_xf S T [] m j 0 0 L [] lo 0 (decide_eq_false (by omega))⟩, fun e0 => .inr ⟨e0, o0_xn S [] [] m j e0 0 [] [] lo 0 (decide_eq_false (by omega))⟩⟩
  | succ d IH =>
    intro j lo hj hlo
    by_cases h : chk (gF S j).1 (gF S j).2.1 (gF S j).2.2.1 (gF S j).2.2.2.1 (gF S j).2.2.2.2.1 (gF S j).2.2.2.2.2.1 (gF S j).2.2.2.2.2.2.1 (gF S j).2.2.2.2.2.2.2.1 (gF S j).2.2.2.2.2.2.2.2.1 (gF S j).2.2.2.2.2.2.2.2.2.1 (gF S j).2.2.2.2.2.2.2.2.2.2 = 0
    · have hX : ∀ sf, cF (frL ((gF S j).1, (gF S j).2.1, (gF S j).2.2.1, (gF S j).2.2.2.1, (gF S j).2.2.2.2.1, (gF S j).2.2.2.2.2.1, (gF S j).2.2.2.2.2.2.1, (gF S j).2.2.2.2.2.2.2.1, (gF S j).2.2.2.2.2.2.2.2.1, (gF S j).2.2.2.2.2.2.2.2.2.1, (gF S j).2.2.2.2.2.2.2.2.2.2, rkV ((gF S j).1) (gF S j).2.1, sf)) = 0 ∧ lrk ((gF S j).1, (gF S j).2.1, (gF S j).2.2.1, (gF S j).2.2.2.1, (gF S j).2.2.2.2.1, (gF S j).2.2.2.2.2.1, (gF S j).2.2.2.2.2.2.1, (gF S j).2.2.2.2.2.2.2.1, (gF S j).2.2.2.2.2.2.2.2.1, (gF S j).2.2.2.2.2.2.2.2.2.1, (gF S j).2.2.2.2.2.2.2.2.2.2, rkV ((gF S j).1) (gF S j).2.1, sf) = rF (frL ((gF S j).1, (gF S j).2.1, (gF S j).2.2.1, (gF S j).2.2.2.1, (gF S j).2.2.2.2.1, (gF S j).2.2.2.2.2.1, (gF S j).2.2.2.2.2.2.1, (gF S j).2.2.2.2.2.2.2.1, (gF S j).2.2.2.2.2.2.2.2.1, (gF S j).2.2.2.2.2.2.2.2.2.1, (gF S j).2.2.2.2.2.2.2.2.2.2, rkV ((gF S j).1) (gF S j).2.1, sf)) := fun sf => ⟨h, rfl⟩
      refine ⟨fun T L hI hl => ?_, fun e0 => .inl ?_⟩
      · have hb := hI.len
        by_cases hful : cntL L (((Int.tmod ((j : Nat) : Int) 2) : Int) == 1) < 8
        · have hI2 := hI.put ((gF S j).1, (gF S j).2.1, (gF S j).2.2.1, (gF S j).2.2.2.1, (gF S j).2.2.2.2.1, (gF S j).2.2.2.2.2.1, (gF S j).2.2.2.2.2.2.1, (gF S j).2.2.2.2.2.2.2.1, (gF S j).2.2.2.2.2.2.2.2.1, (gF S j).2.2.2.2.2.2.2.2.2.1, (gF S j).2.2.2.2.2.2.2.2.2.2, rkV ((gF S j).1) (gF S j).2.1, (((Int.tmod ((j : Nat) : Int) 2) : Int) == 1)) h rfl
          obtain ⟨Y, Z, lz, y1, y2, k⟩ := (IH (j + 1) lo (by omega) (by omega)).1 _ _ hI2 (by simp; omega)
          exact ⟨Y, Z, lz, y1, y2, o0_gf S T Y m j 0 0 L Z lo lz (decide_eq_true (by omega)) (by omega) (by first | omega | (simp only [List.length_nil] at *; omega)) (by first | omega | (simp only [List.length_nil] at *; omega)) h (by omega) (by first | omega | (simp only [List.length_nil] at *; omega)) (by rw [encF_flat]) (by simp [encF]) ((wrap_i64 (by omega)).trans (by omega)) (by simp) k⟩
        · obtain ⟨Y, Z, lz, y1, y2, k⟩ := (IH (j + 1) (lo + 1) (by omega) (by omega)).1 T L hI (by omega)
          exact ⟨Y, Z, lz, y1, y2, o0_ff S T Y m j 0 0 L Z lo lz (decide_eq_true (by omega)) (by omega) (by first | omega | (simp only [List.length_nil] at *; omega)) (by first | omega | (simp only [List.length_nil] at *; omega)) h (by omega) (by omega) ((wrap_i64 (by omega)).trans (by omega)) k⟩
      · have hI2 := inv_nil.put ((gF S j).1, (gF S j).2.1, (gF S j).2.2.1, (gF S j).2.2.2.1, (gF S j).2.2.2.2.1, (gF S j).2.2.2.2.2.1, (gF S j).2.2.2.2.2.2.1, (gF S j).2.2.2.2.2.2.2.1, (gF S j).2.2.2.2.2.2.2.2.1, (gF S j).2.2.2.2.2.2.2.2.2.1, (gF S j).2.2.2.2.2.2.2.2.2.2, rkV ((gF S j).1) (gF S j).2.1, (((Int.tmod ((j : Nat) : Int) 2) : Int) == 1)) h rfl
        obtain ⟨Y, Z, lz, y1, y2, k⟩ := (IH (j + 1) lo (by omega) (by omega)).1 _ _ hI2 (by simp)
        exact ⟨Y, Z, lz, y1, y2, o0_gn S [] Y m j e0 0 [] Z lo lz (decide_eq_true (by omega)) (by omega) (by first | omega | (simp only [List.length_nil] at *; omega)) h (by first | omega | (simp only [List.length_nil] at *; omega)) (by rw [encF_flat]) (by simp [encF]) ((wrap_i64 (by omega)).trans (by omega)) (by simp) k⟩
    · refine ⟨fun T L hI hl => ?_, fun e0 => ?_⟩
      · obtain ⟨Y, Z, lz, y1, y2, k⟩ := (IH (j + 1) lo (by omega) (by omega)).1 T L hI (by omega)
        have hb := hI.len
        exact ⟨Y, Z, lz, y1, y2, o0_bf S T Y m j 0 0 L Z lo lz (decide_eq_true (by omega)) (by omega) (by first | omega | (simp only [List.length_nil] at *; omega)) h (by simpa using h) ((wrap_i64 (by omega)).trans (by omega)) k⟩
      · rcases (IH (j + 1) lo (by omega) (by omega)).2 e0 with ⟨Y, Z, lz, y1, y2, k⟩ | ⟨ez, k⟩
        · exact .inl ⟨Y, Z, lz, y1, y2, o0_bnf S [] Y m j e0 0 [] Z lo lz (decide_eq_true (by omega)) (by omega) (by first | omega | (simp only [List.length_nil] at *; omega)) h (by simpa using h) ((wrap_i64 (by omega)).trans (by omega)) k⟩
        · exact .inr ⟨ez, o0_bnn S [] [] m j e0 ez [] [] lo lo (decide_eq_true (by omega)) (by omega) (by first | omega | (simp only [List.length_nil] at *; omega)) h (by simpa using h) ((wrap_i64 (by omega)).trans (by omega)) k⟩

theorem o1_all (T : List FT) (lo : Int) (hT : T.length ≤ 20) : ∀ (d k : Nat) (G : List FT) (L : List LT), k + d = T.length → L.length = d → G.length ≤ k → LOK cfg none (lb 3 1) (u_ :: u_ :: u_ :: (.ptr (some (1, 0))) :: (.sl 11 (some (0, 0)) T.length) :: u_ :: (.sl 11 (some (3, 0)) G.length) :: u_ :: u_ :: u_ :: u_ :: u_ :: u_ :: u_ :: u_ :: u_ :: u_ :: u_ :: u_ :: u_ :: u_ :: u_ :: u_ :: u_ :: u_ :: u_ :: u_ :: u_ :: u_ :: u_ :: u_ :: u_ :: u_ :: u_ :: u_ :: u_ :: u_ :: u_ :: u_ :: u_ :: u_ :: u_ :: u_ :: u_ :: u_ :: u_ :: u_ :: (i6 ((T.length : Nat) : Int)) :: (i6 ((k : Nat) : Int)) :: us 90) [.cells true ((T.map encF).flatten), c1 [(.sl 13 (some (2, 0)) L.length), (i6 lo)], .cells true ((L.map encL).flatten), .cells true ((G.map encF).flatten)] (.exit 2) (u_ :: u_ :: u_ :: (.ptr (some (1, 0))) :: (.sl 11 (some (0, 0)) T.length) :: u_ :: (.sl 11 (some (4, 0)) (G ++ L.map frL).length) :: us 132) [.cells true ((T.map encF).flatten), c1 [(.sl 13 (some (2, 0)) ([] : List LT).length), (i6 lo)], .cells true ((([] : List LT).map encL).flatten), d_, .cells true (((G ++ L.map frL).map encF).flatten)] := by
  intro d
  induction d with
  | zero =>
    intro k G L hk hL hg
    obtain rfl := List.eq_nil_of_length_eq_zero hL
    rw [show G ++ ([] : List LT).map frL = G by simp]
    exact o1_x T G [] [] [] lo k (decide_eq_false (by omega))
  | succ d IH =>
    intro k G L hk hL hg
    have e : L.map frL = frL (gL L 0) :: (L.drop 1).map frL := by
      cases L with
      | nil => simp at hL
      | cons x L => rfl
    have ih := IH (k + 1) (G ++ [frL (gL L 0)]) (L.drop 1) (by omega) (by simp; omega) (by simp; omega)
    rw [e, show G ++ frL (gL L 0) :: (L.drop 1).map frL = (G ++ [frL (gL L 0)]) ++ (L.drop 1).map frL by simp]
    exact o1_s T G _ L [] lo k (decide_eq_true (by omega)) (by first | omega | (simp only [List.length_nil] at *; omega)) (by first | omega | (simp only [List.length_nil] at *; omega)) (by first | omega | (simp only [List.length_nil] at *; omega)) (by rw [encF_flat]) (by simp [encF]) ((wrap_i64 (by omega)).trans (by omega)) (by simp) ih

theorem o2_all (T G : List FT) (L : List LT) (lo : Int) (hl : G.length ≤ 20) (hG : ∀ x ∈ G, cF x = 0) (hs : ∀ k, k + 1 < G.length → rF (gF G k) ≤ rF (gF G (k + 1))) : ∀ (d k : Nat), G.length - (k + 1) = d → LOK cfg none (lb 3 2) (u_ :: u_ :: u_ :: (.ptr (some (1, 0))) :: (.sl 11 (some (0, 0)) T.length) :: u_ :: (.sl 11 (some (3, 0)) G.length) :: u_ :: u_ :: (i6 (((k + 1) : Nat) : Int)) :: us 129) [.cells true ((T.map encF).flatten), c1 [(.sl 13 (some (2, 0)) L.length), (i6 lo)], .cells true ((L.map encL).flatten), .cells true ((G.map encF).flatten)] (.exit 4) (u_ :: u_ :: u_ :: (.ptr (some (1, 0))) :: (.sl 11 (some (0, 0)) T.length) :: u_ :: (.sl 11 (some (3, 0)) G.length) :: us 132) [.cells true ((T.map encF).flatten), c1 [(.sl 13 (some (2, 0)) L.length), (i6 lo)], .cells true ((L.map encL).flatten), .cells true ((G.map encF).flatten)] := by
  intro d
  induction d with
  | zero =>
    intro k hk
    exact o2_xf T G L lo k 0 0 0 0 0 (decide_eq_false (by omega))
  | succ d IH =>
    intro k hk
    have ek0 : IntKind.wrap .i64 ((((k + 1 : Nat)) : Int) - 1) = (k : Int) := (wrap_i64 (by omega)).trans (by omega)
    have ek : Int.toNat (IntKind.wrap .i64 ((((k + 1 : Nat)) : Int) - 1)) = k := by rw [ek0]; rfl
    exact o2_s T G L lo k 0 0 0 0 0 (decide_eq_true (by omega)) (by rw [ek0]; omega) (by rw [ek]; omega) (by rw [ek]; exact hG _ (gF_mem (by omega))) (by first | omega | (simp only [List.length_nil] at *; omega)) (by first | omega | (simp only [List.length_nil] at *; omega)) (hG _ (gF_mem (by omega))) (by rw [ek]; exact decide_eq_false (Int.not_lt.2 (hs k (by omega)))) ((wrap_i64 (by omega)).trans (by omega)) (IH (k + 1) (by omega))
theorem o5_all (T G : List FT) (L : List LT) (lo : Int) (hl : G.length ≤ 20) (hG : ∀ x ∈ G, cF x = 0) (rr i : Nat) (x : FT) (rest : List FT) : ∀ (d a : Nat), a + d = G.length → (G.drop a).filter (fun x => rF x == (rr : Int)) = x :: rest → ∃ a2, a2 < G.length ∧ gF G a2 = x ∧ (G.drop (a2 + 1)).filter (fun x => rF x == (rr : Int)) = rest ∧ LOK cfg none (lb 3 5) (u_ :: u_ :: u_ :: (.ptr (some (1, 0))) :: (.sl 11 (some (0, 0)) T.length) :: u_ :: (.sl 11 (some (3, 0)) G.length) :: u_ :: u_ :: u_ :: (i6 ((rr : Nat) : Int)) :: (i6 ((a : Nat) : Int)) :: (i6 ((i : Nat) : Int)) :: us 126) [.cells true ((T.map encF).flatten), c1 [(.sl 13 (some (2, 0)) L.length), (i6 lo)], .cells true ((L.map encL).flatten), .cells true ((G.map encF).flatten)] (.exit 10) (u_ :: u_ :: u_ :: (.ptr (some (1, 0))) :: (.sl 11 (some (0, 0)) T.length) :: u_ :: (.sl 11 (some (3, 0)) G.length) :: u_ :: u_ :: u_ :: (i6 ((rr : Nat) : Int)) :: (i6 ((a2 : Nat) : Int)) :: (i6 ((i : Nat) : Int)) :: us 126) [.cells true ((T.map encF).flatten), c1 [(.sl 13 (some (2, 0)) L.length), (i6 lo)], .cells true ((L.map encL).flatten), .cells true ((G.map encF).flatten)] := by
  intro d
  induction d with
  | zero =>
    intro a ha hf
    rw [List.drop_eq_nil_of_le (by omega)] at hf
    simp at hf
  | succ d IH =>
    intro a ha hf
    by_cases hr : rF (gF G a) = (rr : Int)
    · rw [fil_some (by omega) hr, List.cons.injEq] at hf
      exact ⟨a, by omega, hf.1, hf.2, o5_x T G L lo 0 rr a 0 i 0 (decide_eq_true (by omega)) (by first | omega | (simp only [List.length_nil] at *; omega)) (by first | omega | (simp only [List.length_nil] at *; omega)) (hG _ (gF_mem (by omega))) (bne_eq_false_iff_eq.2 hr)⟩
    · rw [fil_none (by omega) hr] at hf
      obtain ⟨a2, b1, b2, b3, k⟩ := IH (a + 1) (by omega) hf
      exact ⟨a2, b1, b2, b3, o5_s T G L lo 0 rr a a2 i 0 (decide_eq_true (by omega)) (by first | omega | (simp only [List.length_nil] at *; omega)) (by first | omega | (simp only [List.length_nil] at *; omega)) (hG _ (gF_mem (by omega))) (bne_iff_ne.2 hr) ((wrap_i64 (by omega)).trans (by omega)) k⟩
theorem o4_all (T G : List FT) (L : List LT) (lo : Int) (hl : G.length ≤ 20) (ht : T.length ≤ 20) (hG : ∀ x ∈ G, cF x = 0) (hT : ∀ x ∈ T, cF x = 0) (rr : Nat) : ∀ (d i a : Nat), i + d = T.length → (G.drop a).filter (fun x => rF x == (rr : Int)) = (T.drop i).filter (fun x => rF x == (rr : Int)) → LOK cfg none (lb 3 4) (u_ :: u_ :: u_ :: (.ptr (some (1, 0))) :: (.sl 11 (some (0, 0)) T.length) :: u_ :: (.sl 11 (some (3, 0)) G.length) :: u_ :: u_ :: u_ :: (i6 ((rr : Nat) : Int)) :: (i6 ((a : Nat) : Int)) :: (i6 ((i : Nat) : Int)) :: us 126) [.cells true ((T.map encF).flatten), c1 [(.sl 13 (some (2, 0)) L.length), (i6 lo)], .cells true ((L.map encL).flatten), .cells true ((G.map encF).flatten)] (.exit 8) (u_ :: u_ :: u_ :: (.ptr (some (1, 0))) :: (.sl 11 (some (0, 0)) T.length) :: u_ :: (.sl 11 (some (3, 0)) G.length) :: u_ :: u_ :: u_ :: (i6 ((rr : Nat) : Int)) :: us 128) [.cells true ((T.map encF).flatten), c1 [(.sl 13 (some (2, 0)) L.length), (i6 lo)], .cells true ((L.map encL).flatten), .cells true ((G.map encF).flatten)] := by
  intro d
  induction d with
  | zero =>
    intro i a hi hf
    exact o4_xf T G L lo 0 rr a 0 i 0 (decide_eq_false (by omega))
  | succ d IH =>
    intro i a hi hf
    by_cases hr : rF (gF T i) = (rr : Int)
    · rw [fil_some (by omega) hr] at hf
      obtain ⟨a2, b1, hx, b3, k⟩ := o5_all T G L lo hl hG rr i _ _ (G.length - a) a (by
        have : a ≤ G.length := by
          by_cases ha : a ≤ G.length
          · exact ha
          · rw [List.drop_eq_nil_of_le (by omega)] at hf
            simp at hf
        omega) hf
      exact o4_e T G L lo 0 rr a a2 i 0 k (decide_eq_true (by omega)) (by first | omega | (simp only [List.length_nil] at *; omega)) (by first | omega | (simp only [List.length_nil] at *; omega)) (hT _ (gF_mem (by omega))) (bne_eq_false_iff_eq.2 hr) (beq_eq_false_iff_ne.2 (by omega)) (by first | omega | (simp only [List.length_nil] at *; omega)) (by first | omega | (simp only [List.length_nil] at *; omega)) (by rw [show G.getD a2 (0, false, 0, 0, 0, 0, 0, 0, 0, 0, 0) = T.getD i (0, false, 0, 0, 0, 0, 0, 0, 0, 0, 0) from hx]; simp) ((wrap_i64 (by omega)).trans (by omega)) ((wrap_i64 (by omega)).trans (by omega)) (IH (i + 1) (a2 + 1) (by omega) b3)
    · rw [fil_none (by omega) hr] at hf
      exact o4_n T G L lo 0 rr a 0 i 0 (decide_eq_true (by omega)) (by first | omega | (simp only [List.length_nil] at *; omega)) (by first | omega | (simp only [List.length_nil] at *; omega)) (hT _ (gF_mem (by omega))) (bne_iff_ne.2 hr) ((wrap_i64 (by omega)).trans (by omega)) (IH (i + 1) a (by omega) hf)
theorem o3_all (T G : List FT) (L : List LT) (lo : Int) (hl : G.length ≤ 20) (ht : T.length ≤ 20) (hG : ∀ x ∈ G, cF x = 0) (hT : ∀ x ∈ T, cF x = 0) (hf : ∀ r : Int, G.filter (fun x => rF x == r) = T.filter (fun x => rF x == r)) : ∀ (d rr : Nat), rr + d = 4096 → LOK cfg none (lb 3 3) (u_ :: u_ :: u_ :: (.ptr (some (1, 0))) :: (.sl 11 (some (0, 0)) T.length) :: u_ :: (.sl 11 (some (3, 0)) G.length) :: u_ :: u_ :: u_ :: (i6 ((rr : Nat) : Int)) :: us 128) [.cells true ((T.map encF).flatten), c1 [(.sl 13 (some (2, 0)) L.length), (i6 lo)], .cells true ((L.map encL).flatten), .cells true ((G.map encF).flatten)] (.exit 6) (u_ :: u_ :: u_ :: (.ptr (some (1, 0))) :: (.sl 11 (some (0, 0)) T.length) :: u_ :: (.sl 11 (some (3, 0)) G.length) :: us 132) [.cells true ((T.map encF).flatten), c1 [(.sl 13 (some (2, 0)) L.length), (i6 lo)], .cells true ((L.map encL).flatten), .cells true ((G.map encF).flatten)] := by
  intro d
  induction d with
  | zero =>
    intro rr hr
    exact o3_xf T G L lo 0 rr 0 0 0 0 (decide_eq_false (by omega))
  | succ d IH =>
    intro rr hr
    exact o3_sf T G L lo 0 rr 0 0 0 0 (o4_all T G L lo hl ht hG hT rr T.length 0 0 (by omega) (by rw [List.drop_zero, List.drop_zero]; exact hf _)) (decide_eq_true (by omega)) ((wrap_i64 (by omega)).trans (by omega)) (IH (rr + 1) (by omega))
theorem o3_none (lo : Int) (e0 : Nat) : ∀ (d rr : Nat), rr + d = 4096 → LOK cfg none (lb 3 3) (u_ :: u_ :: u_ :: (.ptr (some (1, 0))) :: (.sl 11 (some (0, 0)) ([] : List FT).length) :: u_ :: (.sl 11 (some (2, 0)) ([] : List FT).length) :: u_ :: u_ :: u_ :: (i6 ((rr : Nat) : Int)) :: us 128) [.cells true ((([] : List FT).map encF).flatten), c1 [(.sl e0 none 0), (i6 lo)], .cells true ((([] : List FT).map encF).flatten)] (.exit 6) (u_ :: u_ :: u_ :: (.ptr (some (1, 0))) :: (.sl 11 (some (0, 0)) ([] : List FT).length) :: u_ :: (.sl 11 (some (2, 0)) ([] : List FT).length) :: us 132) [.cells true ((([] : List FT).map encF).flatten), c1 [(.sl e0 none 0), (i6 lo)], .cells true ((([] : List FT).map encF).flatten)] := by
  intro d
  induction d with
  | zero =>
    intro rr hr
    exact o3_xn [] [] [] lo 0 rr 0 0 0 e0 (decide_eq_false (by omega))
  | succ d IH =>
    intro rr hr
    exact o3_sn [] [] [] lo 0 rr 0 0 0 e0 (o4_xn [] [] [] lo 0 rr 0 0 0 e0 (decide_eq_false (by simp))) (decide_eq_true (by omega)) ((wrap_i64 (by omega)).trans (by omega)) (IH (rr + 1) (by omega))

end Go.Proofs.Ytlhlbclidnfkfaa.boxes
