/-
  Whatever is done with a queue, each answer and what is there are the document's: every limit, and deeds (of which the first 60 count, with the first 10 things each).
-/
import Derived.Test.YtfhjdnekidhjnaaFp8
set_option linter.unusedVariables false
set_option linter.unusedSimpArgs false
set_option maxRecDepth 100000
namespace Go.Proofs.Ytfhjdnekidhjnaa.fifo
open Go Go.Vm Go.Ring

theorem row_of2 {G : Heap} {b : Nat} {r : List V} (h : TypedF G b [.fl (.int .i64), .sl [.int .i64] 1, .fl (.int .i64)] r) : ∃ x : WT, r = encW x ∧ ((x.p = none ∧ x.n = 0) ∨ ∃ l : List Int, x.p = some (b, 0) ∧ x.n = l.length ∧ G[b]? = some (.cells false (l.map (V.int .i64)))) := by
  match r, h with
  | [v0, v1, v2], h =>
    obtain ⟨h10, hS, h12, _⟩ := h
    obtain ⟨a0, rfl⟩ : ∃ a, v0 = .int .i64 a := by
      cases v0 with
      | int k n => exact ⟨n, by rw [h10.1]⟩
      | _ => exact h10.elim
    obtain ⟨a2, rfl⟩ : ∃ a, v2 = .int .i64 a := by
      cases v2 with
      | int k n => exact ⟨n, by rw [h12.1]⟩
      | _ => exact h12.elim
    rcases hS with rfl | ⟨rows, rfl, h1, hl, h2⟩
    · exact ⟨⟨a0, a2, none, 0⟩, rfl, .inl ⟨rfl, rfl⟩⟩
    · obtain ⟨l, e1, e2, e3⟩ := rows_int h2
      refine ⟨⟨a0, a2, some (b, 0), rows.length⟩, rfl, .inr ⟨l, rfl, e2, ?_⟩⟩
      rw [← e1]
      exact h1
theorem rows_split2 (P : Nat → WT → Prop) : ∀ (rows : List (List V)) (M base : Nat), (∀ i r, i < M → rows[i]? = some r → ∃ x : WT, r = encW x ∧ P (base + i) x) → (∀ i r, M ≤ i → rows[i]? = some r → r = List.replicate 3 V.undef) →
    ∃ (S : List WT) (k : Nat), rows.flatten = RW S (List.replicate k V.undef) ∧ S.length = min rows.length M ∧ ∀ i x, S[i]? = some x → P (base + i) x
  | [], M, base, _, _ => ⟨[], 0, rfl, by simp, fun i x h => by simp at h⟩
  | r :: rows, 0, base, h1, h2 => by
    obtain ⟨S, k, e1, e2, e3⟩ := rows_split2 P rows 0 base (fun i r hi => by omega) (fun i r hi hr => h2 (i + 1) r (by omega) (by simpa using hr))
    have hS : S = [] := List.eq_nil_of_length_eq_zero (by omega)
    subst hS
    refine ⟨[], 3 + k, ?_, by simp, e3⟩
    rw [List.flatten_cons, e1, h2 0 r (by omega) rfl]
    simp only [RW, List.map_nil, List.flatten_nil, List.nil_append]
    rw [List.replicate_append_replicate]
  | r :: rows, M + 1, base, h1, h2 => by
    obtain ⟨x, hx, hp⟩ := h1 0 r (by omega) rfl
    obtain ⟨S, k, e1, e2, e3⟩ := rows_split2 P rows M (base + 1) (fun i r hi hr => by
      have := h1 (i + 1) r (by omega) (by simpa using hr)
      rw [show base + (i + 1) = base + 1 + i by omega] at this
      exact this) (fun i r hi hr => h2 (i + 1) r (by omega) (by simpa using hr))
    refine ⟨x :: S, k, ?_, by simp; omega, fun i y hy => ?_⟩
    · rw [List.flatten_cons, e1, hx]
      simp [RW]
    · cases i with
      | zero => simp at hy; subst hy; exact hp
      | succ i =>
        have := e3 i y (by simpa using hy)
        rw [show base + (i + 1) = base + 1 + i by omega]
        exact this
theorem ve_rows2 {σ : Sig} : ∀ (S : List WT) (base : Nat), (∀ i x, S[i]? = some x → x.p = none ∨ x.p = some (base + i, 0)) → (∀ b, b < base + S.length → σ b = some (b, 0)) → VEL true σ ((S.map encW).flatten) ((S.map encW).flatten)
  | [], _, _, _ => .nil
  | x :: S, base, h, hσ => by
    rw [List.map_cons, List.flatten_cons]
    refine VEL.append ?_ (ve_rows2 S (base + 1) (fun i y hy => by
      have := h (i + 1) y (by simpa using hy)
      rw [show base + (i + 1) = base + 1 + i by omega] at this
      exact this) (fun b hb => hσ b (by simp at hb ⊢; omega)))
    have hv : VE true σ (.sl 1 x.p x.n) (.sl 1 x.p x.n) := by
      rcases h 0 x rfl with e | e
      · rw [e]; exact .slN 1 _
      · rw [e]; exact .sl 1 _ 0 _ _ 0 (hσ _ (by simp))
    exact (.c (.int _ _) (.c hv (.c (.int _ _) .nil)))
theorem ve_und {σ : Sig} : ∀ (k : Nat), VEL true σ (List.replicate k V.undef) (List.replicate k V.undef)
  | 0 => .nil
  | k + 1 => .c .q (ve_und k)
theorem nls_eq : leavesN Try.prog 4 30 = [.fl (.int .i64), .sl [.int .i64] 1, .fl (.int .i64)] := by kernel_rfl
theorem es_eq : esOf Try.prog 30 = 3 := by kernel_rfl
theorem aa_len : 60 * nsl (leavesN Try.prog 4 30) = 60 := by rw [nls_eq]; rfl
theorem aa_get (C : Nat → List V) (R : List V) (i : Nat) (hi : i < 60) : (([] : Heap) ++ AA C 60 R)[i]? = some (.cells false (C i)) := by
  rw [List.nil_append, AA, List.getElem?_append_left (by simp; omega), List.getElem?_map, List.getElem?_range hi]
  rfl
theorem rows_of2 (C : Nat → List V) (rows : List (List V)) (hu : ∀ i r, 60 ≤ i → rows[i]? = some r → r = List.replicate (esOf Try.prog 30) V.undef) (ht : ∀ i r, i < 60 → rows[i]? = some r → TypedF (([] : Heap) ++ AA C 60 rows.flatten) (0 + i * nsl (leavesN Try.prog 4 30)) (leavesN Try.prog 4 30) r) :
    ∃ (S : List WT) (X : List V) (D : Nat → List Int), rows.flatten = RW S X ∧ S.length = min rows.length 60 ∧ HR S X 60 ∧ Rows C D S := by
  rw [es_eq] at hu
  rw [nls_eq] at ht
  obtain ⟨S, k, e1, e2, e3⟩ := rows_split2 (fun i x => (x.p = none ∧ x.n = 0) ∨ ∃ l : List Int, x.p = some (i, 0) ∧ x.n = l.length ∧ (([] : Heap) ++ AA C 60 rows.flatten)[i]? = some (.cells false (l.map (V.int .i64)))) rows 60 0 (fun i r hi hr => by
    have h := ht i r hi hr
    rw [show i * nsl [.fl (.int .i64), .sl [.int .i64] 1, .fl (.int .i64)] = i by simp [nsl]] at h
    exact row_of2 h) hu
  have at_ : ∀ i, i < S.length → S[i]? = some (gW S i) := fun i hi => by
    rw [List.getElem?_eq_getElem hi]
    simp [gW, List.getD_eq_getElem?_getD, List.getElem?_eq_getElem hi]
  have ch : ∀ i, ∃ l : List Int, (i < S.length → ((gW S i).p = none ∧ (gW S i).n = 0 ∧ l = []) ∨ ((gW S i).p = some (i, 0) ∧ (gW S i).n = l.length ∧ C i = l.map (V.int .i64))) := by
    intro i
    by_cases hi : i < S.length
    · have h := e3 i _ (at_ i hi)
      rw [Nat.zero_add] at h
      rcases h with ⟨h1, h2⟩ | ⟨l, h1, h2, h3⟩
      · exact ⟨[], fun _ => .inl ⟨h1, h2, rfl⟩⟩
      · refine ⟨l, fun _ => .inr ⟨h1, h2, ?_⟩⟩
        rw [aa_get C _ i (by omega)] at h3
        injection h3 with h3
        injection h3 with _ h3
    · exact ⟨[], fun h => absurd h hi⟩
  refine ⟨S, _, fun i => Classical.choose (ch i), e1, e2, ?_, ⟨fun i hi hp => ?_, fun i hi hp => ?_⟩⟩
  · intro σ hσ
    refine VEL.append (ve_rows2 S 0 (fun i x hx => ?_) (fun b hb => hσ b (by omega))) (ve_und k)
    rcases e3 i x hx with ⟨h1, _⟩ | ⟨_, h1, _⟩
    · exact .inl h1
    · exact .inr h1
  · rcases (Classical.choose_spec (ch i)) hi with ⟨_, h2, h3⟩ | ⟨h1, _⟩
    · exact ⟨h2, h3⟩
    · rw [hp] at h1; cases h1
  · rcases (Classical.choose_spec (ch i)) hi with ⟨h1, _⟩ | h
    · exact absurd h1 hp
    · exact h
theorem RowsIs (S : List WT) (C : Nat → List V) (D : Nat → List Int) (hr : Rows C D S) (i : Nat) (hi : i < S.length) : ((gW S i).p = none ∧ (gW S i).n = 0 ∧ D i = []) ∨ ((gW S i).p = some (i, 0) ∧ (gW S i).n = (D i).length ∧ C i = (D i).map (V.int .i64)) := by
  by_cases h : (gW S i).p = none
  · exact .inl ⟨h, (hr.a i hi h).1, (hr.a i hi h).2⟩
  · exact .inr (hr.b i hi h)

theorem and3 (b : Int) : 0 ≤ bits .and .i64 b 3 ∧ bits .and .i64 b 3 ≤ 3 := by
  have h : bits .and .i64 b 3 = IntKind.wrap .i64 (((BitVec.ofInt 64 b &&& BitVec.ofInt 64 3).toNat : Nat) : Int) := rfl
  have e : (BitVec.ofInt 64 3).toNat = 3 := by decide
  have hl : (BitVec.ofInt 64 b &&& BitVec.ofInt 64 3).toNat ≤ 3 := by
    rw [BitVec.toNat_and, e]
    exact Nat.and_le_right
  rw [h, wrap_i64 (by omega)]
  omega
theorem y_ok (b : Int) : IntKind.wrap .i64 (1 + (bits .and .i64 b 3)) ≠ 0 := by
  have := and3 b
  rw [wrap_i64 (by omega)]
  omega
theorem rd_all (X : List Int) (o w q : Nat) (lo y : Int) (hy : y ≠ 0) (L : List Int) (hw : Win X o w L) (hb : w ≤ 100000) : ∀ (d i : Nat) (O : List Int), i + d = w → O.length ≤ i → LOK cfg none (lb 14 0) (u_ :: (i6 y) :: (.ptr (p_ 0)) :: u_ :: (.ptr (p_ 1)) :: u_ :: (.sl 1 (p_ 2) O.length) :: (n6 i) :: us 35) [c1 [(.sl 1 (some (3, o)) w), (n6 q), (i6 lo)], c1 [(.sl 0 none 0), (i6 0), (i6 0)], cI O, cI X] (.exit 0) (u_ :: u_ :: (.ptr (p_ 0)) :: u_ :: (.ptr (p_ 1)) :: u_ :: (.sl 1 (p_ 4) (O ++ keepY (L.drop i) y).length) :: us 36) [c1 [(.sl 1 (some (3, o)) w), (n6 q), (i6 lo)], c1 [(.sl 0 none 0), (i6 0), (i6 0)], d_, cI X, .cells true (((O ++ keepY (L.drop i) y)).map (V.int .i64))] := by
  have hle := hw.le
  intro d
  induction d with
  | zero =>
    intro i O hi hO
    rw [List.drop_eq_nil_of_le (by rw [hw.len]; omega), keepY, List.filter_nil, List.append_nil]
    exact rd_x X O O o w q i lo y (decide_eq_false (by omega))
  | succ d IH =>
    intro i O hi hO
    have e : L.drop i = (X).getD (o + (i * 1)) 0 :: L.drop (i + 1) := by
      rw [List.drop_eq_getElem_cons (show i < L.length by rw [hw.len]; omega), show o + (i * 1) = o + i by omega, hw.get (show i < w by omega)]
      simp [List.getD_eq_getElem?_getD, List.getElem?_eq_getElem (show i < L.length by rw [hw.len]; omega)]
    rw [e]
    by_cases hk : Int.tmod ((X).getD (o + (i * 1)) 0) y = 0
    · rw [keep_s _ _ _ hk]
      exact rd_s X O _ o w q i lo y (decide_eq_true (by omega)) (by omega) (by omega) hy (bne_eq_false_iff_eq.2 hk) ((wrap_i64 (by omega)).trans (by simp)) (IH (i + 1) O (by omega) (by omega))
    · rw [keep_a _ _ _ hk]
      have e3 : O ++ (X).getD (o + (i * 1)) 0 :: keepY (L.drop (i + 1)) y = (O ++ [(X).getD (o + (i * 1)) 0]) ++ keepY (L.drop (i + 1)) y := by simp
      rw [e3]
      exact rd_a X O _ o w q i lo y (decide_eq_true (by omega)) (by omega) (by omega) hy (bne_iff_ne.2 hk) (by omega) (by simp) ((wrap_i64 (by omega)).trans (by simp)) (by simp) (by simp) (IH (i + 1) (O ++ [(X).getD (o + (i * 1)) 0]) (by omega) (by simp; omega))
theorem fkq_ok {s : Q} {q : Nat} (h : s.Ok q) : (⟨s.list, 0, s.list.length, s.lost⟩ : Q).Ok q ∧ (⟨s.list, 0, s.list.length, s.lost⟩ : Q).list = s.list := by
  have hl := list_len s
  have hq := h.ql
  refine ⟨⟨Nat.le_refl _, ?_, by simp only; omega, by simp only; omega⟩, ?_⟩
  · simp only
    by_cases h0 : s.list.length = 0
    · exact .inl ⟨h0, trivial⟩
    · exact .inr (by omega)
  · apply List.ext_getElem?
    intro t
    by_cases ht : t < s.list.length
    · have e : (⟨s.list, 0, s.list.length, s.lost⟩ : Q).list = (List.range s.list.length).map (⟨s.list, 0, s.list.length, s.lost⟩ : Q).at := rfl
      rw [e, List.getElem?_map, List.getElem?_range ht]
      simp only [Option.map_some, Q.at, Nat.zero_add]
      rw [Nat.mod_eq_of_lt ht]
      simp [List.getD_eq_getElem?_getD, List.getElem?_eq_getElem ht]
    · rw [List.getElem?_eq_none (by rw [list_len]; simp only; omega), List.getElem?_eq_none (by omega)]

theorem stepN (S : List WT) (X : List V) (C : Nat → List V) (D : Nat → List Int) (hC : ∀ k, plains (C k) = true) (hR : HR S X 60) (m q : Nat) (hm : S.length = min m 60) (hq : q ≤ 65536) (hr : Rows C D S) (i : Nat) (hi : i < S.length) (jN : (∀ lo : Int, 0 ≤ lo ∧ lo ≤ 10 * ((i + 1) : Nat) → LOK cfg none (lb 3 0) (u_ :: (.sl 3 (p_ 60) m) :: u_ :: u_ :: u_ :: (.ptr (p_ 62)) :: (.ptr (p_ 61)) :: (i6 (((i + 1) : Nat) : Int)) :: us 106) (hA C S X [c1 [(.sl 1 none 0), (n6 q), (i6 lo)], c1 [(.sl 0 none 0), (n6 q), (i6 0), (i6 0), (i6 lo)]]) (.exit 0) (us 114) (hA C S X [d_, d_]))) (jM : (∀ (Y : List Int) (o : Nat) (lo : Int), Win Y o 0 [] → 0 ≤ lo ∧ lo ≤ 10 * ((i + 1) : Nat) → LOK cfg none (lb 3 0) (u_ :: (.sl 3 (p_ 60) m) :: u_ :: u_ :: u_ :: (.ptr (p_ 62)) :: (.ptr (p_ 61)) :: (i6 (((i + 1) : Nat) : Int)) :: us 106) (hA C S X [c1 [(.sl 1 (some (63, o)) 0), (n6 q), (i6 lo)], c1 [(.sl 0 none 0), (n6 q), (i6 0), (i6 0), (i6 lo)], cI Y]) (.exit 0) (us 114) (hA C S X [d_, d_, d_]))) (jR : (∀ (s : Q) (Y : List Int) (o : Nat), s.Ok q → Win Y o s.n s.list → 0 ≤ s.lost ∧ s.lost ≤ 10 * ((i + 1) : Nat) → LOK cfg none (lb 3 0) (u_ :: (.sl 3 (p_ 60) m) :: u_ :: u_ :: u_ :: (.ptr (p_ 62)) :: (.ptr (p_ 61)) :: (i6 (((i + 1) : Nat) : Int)) :: us 106) (hA C S X [c1 [(.sl 1 (some (64, o)) s.n), (n6 q), (i6 s.lost)], c1 [(.sl 1 (p_ 63) s.R.length), (n6 q), (i6 ((s.f : Nat) : Int)), (i6 ((s.n : Nat) : Int)), (i6 s.lost)], cI s.R, cI Y]) (.exit 0) (us 114) (hA C S X [d_, d_, d_, d_]))) : (∀ lo : Int, 0 ≤ lo ∧ lo ≤ 10 * (i : Nat) → LOK cfg none (lb 3 0) (u_ :: (.sl 3 (p_ 60) m) :: u_ :: u_ :: u_ :: (.ptr (p_ 62)) :: (.ptr (p_ 61)) :: (n6 i) :: us 106) (hA C S X [c1 [(.sl 1 none 0), (n6 q), (i6 lo)], c1 [(.sl 0 none 0), (n6 q), (i6 0), (i6 0), (i6 lo)]]) (.exit 0) (us 114) (hA C S X [d_, d_])) := by
  intro lo hlo
  have hi20 : i < 60 := by omega
  have hN : (⟨[], 0, 0, lo⟩ : Q).Ok q := ⟨by simp, .inl ⟨rfl, rfl⟩, by simp, by simp⟩
  rcases Bool.eq_false_or_eq_true ((gW S i).f0 == 0) with h0 | h0
  · rcases RowsIs S C D hr i hi with ⟨hp, hz, hd⟩ | ⟨hp, hl, hC3⟩
    · exact (on_NN S X C D hC hR i hi20 [] [] ⟨[], 0, 0, 0⟩ ⟨[], 0, 0, 0⟩ 0 0 m q lo lo (pn_N (gW S i).f0 (gW S i).f2 (IntKind.wrap .i64 (1 + (bits .and .i64 (gW S i).f2 3))) [] [] [] ⟨[], 0, 0, 0⟩ ⟨[], 0, 0, 0⟩ 0 0 0 0 q m i lo h0) hi hp hz (decide_eq_true (by omega)) (decide_eq_true (by omega)) (by omega) ((wrap_i64 (by omega)).trans (by simp))) (jN lo (by omega))
    · obtain ⟨w, hw⟩ : ∃ w, w = min (D i).length 10 := ⟨_, rfl⟩
      by_cases hw0 : w = 0
      · have hd : D i = [] := List.eq_nil_of_length_eq_zero (by omega)
        exact (od_NN S X C D hC hR i hi20 [] [] ⟨[], 0, 0, 0⟩ ⟨[], 0, 0, 0⟩ 0 0 m q lo lo (by rw [hd]; exact (pe_N (gW S i).f0 (gW S i).f2 (IntKind.wrap .i64 (1 + (bits .and .i64 (gW S i).f2 3))) [] [] [] ⟨[], 0, 0, 0⟩ ⟨[], 0, 0, 0⟩ 0 0 0 0 q m i lo h0)) hi hp hC3 (decide_eq_true (by omega)) (decide_eq_true (by omega)) (by omega) hl ((wrap_i64 (by omega)).trans (by simp))) (jN lo (by omega))
      · by_cases hq0 : q = 0
        · subst hq0
          have hrp := rpnn' (D i) [] [] 0 0 0 0 0 w lo _ 0 (rpz_all (D i) w (by omega) (by omega) w 0 lo (by omega) (by omega))
          exact (od_NN S X C D hC hR i hi20 [] [] ⟨[], 0, 0, 0⟩ ⟨[], 0, 0, 0⟩ 0 0 m 0 lo (lo + ((w : Nat) : Int)) (p0_N (gW S i).f0 (gW S i).f2 (IntKind.wrap .i64 (1 + (bits .and .i64 (gW S i).f2 3))) (D i) [] [] ⟨[], 0, 0, 0⟩ ⟨[], 0, 0, 0⟩ 0 0 w 0 0 m i lo hrp h0 (by split <;> omega) (by omega) (by omega) (by omega) (by omega)) hi hp hC3 (decide_eq_true (by omega)) (decide_eq_true (by omega)) (by omega) hl ((wrap_i64 (by omega)).trans (by simp))) (jN (lo + ((w : Nat) : Int)) (by omega))
        · obtain ⟨Z, oz, wz, lz, cz, k, e1, e2, e3, e4, e5, kk⟩ := rpn_all (D i) q w (by omega) (by omega) hq hq0 hw0 lo (by omega)
          obtain ⟨hzk, p2, p3, p4⟩ := puts_k ((D i).take w) hN
          have hwl : ((D i).take w).length = w := by rw [List.length_take]; omega
          rw [hwl] at p2 p3 p4
          simp only [Nat.zero_add, Nat.sub_zero] at p2 p3 p4
          rw [← e1] at p2 p3 p4
          have hk : (puts q ⟨[], 0, 0, lo⟩ ((D i).take w)).n = k := p2
          have hrp := rpnb' (D i) [] Z 0 0 oz wz q w lo lz cz kk
          have hwz : Win Z oz (puts q ⟨[], 0, 0, lo⟩ ((D i).take w)).n (puts q ⟨[], 0, 0, lo⟩ ((D i).take w)).list := by
            rw [e3] at e2
            rw [hk, p3]
            have : (⟨[], 0, 0, lo⟩ : Q).list = [] := rfl
            rw [this, List.nil_append]
            exact e2
          rw [show wz = (puts q ⟨[], 0, 0, lo⟩ ((D i).take w)).n by omega, show lz = (puts q ⟨[], 0, 0, lo⟩ ((D i).take w)).lost by rw [p4, e4], e5] at hrp
          exact (od_NR S X C D hC hR i hi20 [] Z ⟨[], 0, 0, 0⟩ (puts q ⟨[], 0, 0, lo⟩ ((D i).take w)) 0 oz m q lo 0 (pp_N (gW S i).f0 (gW S i).f2 (IntKind.wrap .i64 (1 + (bits .and .i64 (gW S i).f2 3))) (D i) [] Z ⟨[], 0, 0, 0⟩ (puts q ⟨[], 0, 0, lo⟩ ((D i).take w)) 0 oz w k q m i lo hrp h0 (by split <;> omega) (by omega) (by omega) (by omega) (by omega) (by omega) (by omega) (by omega) rfl hk (bne_self_eq_false _) hzk hwz) hi hp hC3 (decide_eq_true (by omega)) (decide_eq_true (by omega)) (by omega) hl ((wrap_i64 (by omega)).trans (by simp))) (jR _ Z oz hzk hwz (by rw [p4]; omega))
  rcases Bool.eq_false_or_eq_true ((gW S i).f0 == 1) with h1 | h1
  · exact (ou_NN S X C D hC hR i hi20 [] [] ⟨[], 0, 0, 0⟩ ⟨[], 0, 0, 0⟩ 0 0 m q lo lo (ta_N (gW S i).f0 (gW S i).f2 (IntKind.wrap .i64 (1 + (bits .and .i64 (gW S i).f2 3))) [] [] [] ⟨[], 0, 0, 0⟩ ⟨[], 0, 0, 0⟩ 0 0 0 0 q m i lo h0 h1) (decide_eq_true (by omega)) (decide_eq_true (by omega)) (by omega) hi ((wrap_i64 (by omega)).trans (by simp))) (jN lo (by omega))
  rcases Bool.eq_false_or_eq_true ((gW S i).f0 == 2) with h2 | h2
  · have hdp := dr_0' q lo (IntKind.wrap .i64 (1 + (bits .and .i64 (gW S i).f2 3))) (by split <;> omega) (by split <;> omega)
    have hrd := rdn' q lo (IntKind.wrap .i64 (1 + (bits .and .i64 (gW S i).f2 3)))
    exact (ou_NM S X C D hC hR i hi20 [] [] ⟨[], 0, 0, 0⟩ ⟨[], 0, 0, 0⟩ 0 0 m q lo lo (dd_N (gW S i).f0 (gW S i).f2 (IntKind.wrap .i64 (1 + (bits .and .i64 (gW S i).f2 3))) [] [] [] ⟨[], 0, 0, 0⟩ ⟨[], 0, 0, 0⟩ 0 0 0 0 q m i lo hdp hrd h0 h1 h2 rfl) (decide_eq_true (by omega)) (decide_eq_true (by omega)) (by omega) hi ((wrap_i64 (by omega)).trans (by simp))) (jM [] 0 lo ⟨by simp, rfl⟩ (by omega))
  rcases Bool.eq_false_or_eq_true ((gW S i).f0 == 3) with h3 | h3
  · exact (ou_NN S X C D hC hR i hi20 [] [] ⟨[], 0, 0, 0⟩ ⟨[], 0, 0, 0⟩ 0 0 m q lo 0 (cr_N (gW S i).f0 (gW S i).f2 (IntKind.wrap .i64 (1 + (bits .and .i64 (gW S i).f2 3))) [] [] [] ⟨[], 0, 0, 0⟩ ⟨[], 0, 0, 0⟩ 0 0 0 0 q m i lo h0 h1 h2 h3 (decide_eq_false (by omega)) (decide_eq_false (by omega))) (decide_eq_true (by omega)) (decide_eq_true (by omega)) (by omega) hi ((wrap_i64 (by omega)).trans (by simp))) (jN 0 (by omega))
  rcases Bool.eq_false_or_eq_true ((gW S i).f0 == 4) with h4 | h4
  · by_cases hq0 : q = 0
    · subst hq0
      exact (ou_NN S X C D hC hR i hi20 [] [] ⟨[], 0, 0, 0⟩ ⟨[], 0, 0, 0⟩ 0 0 m 0 lo lo (fk0_N (gW S i).f0 (gW S i).f2 (IntKind.wrap .i64 (1 + (bits .and .i64 (gW S i).f2 3))) [] [] [] ⟨[], 0, 0, 0⟩ ⟨[], 0, 0, 0⟩ 0 0 0 0 0 m i lo h0 h1 h2 h3 h4 rfl) (decide_eq_true (by omega)) (decide_eq_true (by omega)) (by omega) hi ((wrap_i64 (by omega)).trans (by simp))) (jN lo (by omega))
    · exact (ou_NN S X C D hC hR i hi20 [] [] ⟨[], 0, 0, 0⟩ ⟨[], 0, 0, 0⟩ 0 0 m q lo lo (fk1_N (gW S i).f0 (gW S i).f2 (IntKind.wrap .i64 (1 + (bits .and .i64 (gW S i).f2 3))) [] [] [] ⟨[], 0, 0, 0⟩ ⟨[], 0, 0, 0⟩ 0 0 0 0 q m i lo h0 h1 h2 h3 h4 (by omega) (by omega) rfl) (decide_eq_true (by omega)) (decide_eq_true (by omega)) (by omega) hi ((wrap_i64 (by omega)).trans (by simp))) (jN lo (by omega))
  · exact (ou_NN S X C D hC hR i hi20 [] [] ⟨[], 0, 0, 0⟩ ⟨[], 0, 0, 0⟩ 0 0 m q lo lo (no_N (gW S i).f0 (gW S i).f2 (IntKind.wrap .i64 (1 + (bits .and .i64 (gW S i).f2 3))) [] [] [] ⟨[], 0, 0, 0⟩ ⟨[], 0, 0, 0⟩ 0 0 0 0 q m i lo h0 h1 h2 h3 h4) (decide_eq_true (by omega)) (decide_eq_true (by omega)) (by omega) hi ((wrap_i64 (by omega)).trans (by simp))) (jN lo (by omega))

theorem stepM (S : List WT) (X : List V) (C : Nat → List V) (D : Nat → List Int) (hC : ∀ k, plains (C k) = true) (hR : HR S X 60) (m q : Nat) (hm : S.length = min m 60) (hq : q ≤ 65536) (hr : Rows C D S) (i : Nat) (hi : i < S.length) (jN : (∀ lo : Int, 0 ≤ lo ∧ lo ≤ 10 * ((i + 1) : Nat) → LOK cfg none (lb 3 0) (u_ :: (.sl 3 (p_ 60) m) :: u_ :: u_ :: u_ :: (.ptr (p_ 62)) :: (.ptr (p_ 61)) :: (i6 (((i + 1) : Nat) : Int)) :: us 106) (hA C S X [c1 [(.sl 1 none 0), (n6 q), (i6 lo)], c1 [(.sl 0 none 0), (n6 q), (i6 0), (i6 0), (i6 lo)]]) (.exit 0) (us 114) (hA C S X [d_, d_]))) (jM : (∀ (Y : List Int) (o : Nat) (lo : Int), Win Y o 0 [] → 0 ≤ lo ∧ lo ≤ 10 * ((i + 1) : Nat) → LOK cfg none (lb 3 0) (u_ :: (.sl 3 (p_ 60) m) :: u_ :: u_ :: u_ :: (.ptr (p_ 62)) :: (.ptr (p_ 61)) :: (i6 (((i + 1) : Nat) : Int)) :: us 106) (hA C S X [c1 [(.sl 1 (some (63, o)) 0), (n6 q), (i6 lo)], c1 [(.sl 0 none 0), (n6 q), (i6 0), (i6 0), (i6 lo)], cI Y]) (.exit 0) (us 114) (hA C S X [d_, d_, d_]))) (jR : (∀ (s : Q) (Y : List Int) (o : Nat), s.Ok q → Win Y o s.n s.list → 0 ≤ s.lost ∧ s.lost ≤ 10 * ((i + 1) : Nat) → LOK cfg none (lb 3 0) (u_ :: (.sl 3 (p_ 60) m) :: u_ :: u_ :: u_ :: (.ptr (p_ 62)) :: (.ptr (p_ 61)) :: (i6 (((i + 1) : Nat) : Int)) :: us 106) (hA C S X [c1 [(.sl 1 (some (64, o)) s.n), (n6 q), (i6 s.lost)], c1 [(.sl 1 (p_ 63) s.R.length), (n6 q), (i6 ((s.f : Nat) : Int)), (i6 ((s.n : Nat) : Int)), (i6 s.lost)], cI s.R, cI Y]) (.exit 0) (us 114) (hA C S X [d_, d_, d_, d_]))) : (∀ (Y : List Int) (o : Nat) (lo : Int), Win Y o 0 [] → 0 ≤ lo ∧ lo ≤ 10 * (i : Nat) → LOK cfg none (lb 3 0) (u_ :: (.sl 3 (p_ 60) m) :: u_ :: u_ :: u_ :: (.ptr (p_ 62)) :: (.ptr (p_ 61)) :: (n6 i) :: us 106) (hA C S X [c1 [(.sl 1 (some (63, o)) 0), (n6 q), (i6 lo)], c1 [(.sl 0 none 0), (n6 q), (i6 0), (i6 0), (i6 lo)], cI Y]) (.exit 0) (us 114) (hA C S X [d_, d_, d_])) := by
  intro Y o lo hw hlo
  have hi20 : i < 60 := by omega
  have hN : (⟨[], 0, 0, lo⟩ : Q).Ok q := ⟨by simp, .inl ⟨rfl, rfl⟩, by simp, by simp⟩
  rcases Bool.eq_false_or_eq_true ((gW S i).f0 == 0) with h0 | h0
  · rcases RowsIs S C D hr i hi with ⟨hp, hz, hd⟩ | ⟨hp, hl, hC3⟩
    · exact (on_MM S X C D hC hR i hi20 Y Y ⟨[], 0, 0, 0⟩ ⟨[], 0, 0, 0⟩ o o m q lo lo (pn_M (gW S i).f0 (gW S i).f2 (IntKind.wrap .i64 (1 + (bits .and .i64 (gW S i).f2 3))) [] Y [] ⟨[], 0, 0, 0⟩ ⟨[], 0, 0, 0⟩ o 0 0 0 q m i lo h0) hi hp hz (decide_eq_true (by omega)) (decide_eq_true (by omega)) (by omega) ((wrap_i64 (by omega)).trans (by simp))) (jM Y o lo hw (by omega))
    · obtain ⟨w, hww⟩ : ∃ w, w = min (D i).length 10 := ⟨_, rfl⟩
      by_cases hw0 : w = 0
      · have hd : D i = [] := List.eq_nil_of_length_eq_zero (by omega)
        exact (od_MM S X C D hC hR i hi20 Y Y ⟨[], 0, 0, 0⟩ ⟨[], 0, 0, 0⟩ o o m q lo lo (by rw [hd]; exact (pe_M (gW S i).f0 (gW S i).f2 (IntKind.wrap .i64 (1 + (bits .and .i64 (gW S i).f2 3))) [] Y [] ⟨[], 0, 0, 0⟩ ⟨[], 0, 0, 0⟩ o 0 0 0 q m i lo h0)) hi hp hC3 (decide_eq_true (by omega)) (decide_eq_true (by omega)) (by omega) hl ((wrap_i64 (by omega)).trans (by simp))) (jM Y o lo hw (by omega))
      · obtain ⟨Z, oz, wz, lz, cz, k, e1, e2, e3, e4, e5, kk⟩ := rp_all (D i) q w (by omega) (by omega) hq w 0 Y o 0 [] lo 0 (by omega) hw (by omega) (by omega) (by omega)
        have hrp := rpbb' (D i) Y Z o 0 oz wz q w lo lz cz kk
        rw [List.drop_zero, List.nil_append] at e2
        by_cases hq0 : q = 0
        · subst hq0
          have hk0 : k = 0 := by omega
          subst hk0
          rw [show wz = 0 by omega, show lz = lo + ((w : Nat) : Int) by omega, show cz = 0 by omega] at hrp
          have hwz : Win Z oz 0 [] := by
            have : wz = 0 := by omega
            rw [this] at e2
            simpa using e2
          exact (od_MM S X C D hC hR i hi20 Y Z ⟨[], 0, 0, 0⟩ ⟨[], 0, 0, 0⟩ o oz m 0 lo (lo + ((w : Nat) : Int)) (p0_M (gW S i).f0 (gW S i).f2 (IntKind.wrap .i64 (1 + (bits .and .i64 (gW S i).f2 3))) (D i) Y Z ⟨[], 0, 0, 0⟩ ⟨[], 0, 0, 0⟩ o oz w 0 0 m i lo hrp h0 (by split <;> omega) (by omega) (by omega) (by omega) (by omega)) hi hp hC3 (decide_eq_true (by omega)) (decide_eq_true (by omega)) (by omega) hl ((wrap_i64 (by omega)).trans (by simp))) (jM Z oz (lo + ((w : Nat) : Int)) hwz (by omega))
        · obtain ⟨hzk, p2, p3, p4⟩ := puts_k ((D i).take w) hN
          have hwl : ((D i).take w).length = w := by rw [List.length_take]; omega
          rw [hwl] at p2 p3 p4
          simp only [Nat.zero_add, Nat.sub_zero] at p2 p3 p4 e1 e3
          rw [← e1] at p2 p3 p4
          have hk : (puts q ⟨[], 0, 0, lo⟩ ((D i).take w)).n = k := p2
          have hwz : Win Z oz (puts q ⟨[], 0, 0, lo⟩ ((D i).take w)).n (puts q ⟨[], 0, 0, lo⟩ ((D i).take w)).list := by
            rw [e3] at e2
            rw [hk, p3]
            have : (⟨[], 0, 0, lo⟩ : Q).list = [] := rfl
            rw [this, List.nil_append]
            exact e2
          rw [show wz = (puts q ⟨[], 0, 0, lo⟩ ((D i).take w)).n by omega, show lz = (puts q ⟨[], 0, 0, lo⟩ ((D i).take w)).lost by rw [p4, e4], show cz = ((k : Nat) : Int) by omega] at hrp
          exact (od_MR S X C D hC hR i hi20 Y Z ⟨[], 0, 0, 0⟩ (puts q ⟨[], 0, 0, lo⟩ ((D i).take w)) o oz m q lo 0 (pp_M (gW S i).f0 (gW S i).f2 (IntKind.wrap .i64 (1 + (bits .and .i64 (gW S i).f2 3))) (D i) Y Z ⟨[], 0, 0, 0⟩ (puts q ⟨[], 0, 0, lo⟩ ((D i).take w)) o oz w k q m i lo hrp h0 (by split <;> omega) (by omega) (by omega) (by omega) (by omega) (by omega) (by omega) (by omega) rfl hk (bne_self_eq_false _) hzk hwz) hi hp hC3 (decide_eq_true (by omega)) (decide_eq_true (by omega)) (by omega) hl ((wrap_i64 (by omega)).trans (by simp))) (jR _ Z oz hzk hwz (by rw [p4]; omega))
  rcases Bool.eq_false_or_eq_true ((gW S i).f0 == 1) with h1 | h1
  · exact (ou_MM S X C D hC hR i hi20 Y Y ⟨[], 0, 0, 0⟩ ⟨[], 0, 0, 0⟩ o o m q lo lo (ta_M (gW S i).f0 (gW S i).f2 (IntKind.wrap .i64 (1 + (bits .and .i64 (gW S i).f2 3))) [] Y [] ⟨[], 0, 0, 0⟩ ⟨[], 0, 0, 0⟩ o 0 0 0 q m i lo h0 h1) (decide_eq_true (by omega)) (decide_eq_true (by omega)) (by omega) hi ((wrap_i64 (by omega)).trans (by simp))) (jM Y o lo hw (by omega))
  rcases Bool.eq_false_or_eq_true ((gW S i).f0 == 2) with h2 | h2
  · have hdp := dr_0' q lo (IntKind.wrap .i64 (1 + (bits .and .i64 (gW S i).f2 3))) (by split <;> omega) (by split <;> omega)
    have hrd := rde' Y o q lo (IntKind.wrap .i64 (1 + (bits .and .i64 (gW S i).f2 3)))
    exact (ou_MM S X C D hC hR i hi20 Y [] ⟨[], 0, 0, 0⟩ ⟨[], 0, 0, 0⟩ o 0 m q lo lo (dd_M (gW S i).f0 (gW S i).f2 (IntKind.wrap .i64 (1 + (bits .and .i64 (gW S i).f2 3))) [] Y [] ⟨[], 0, 0, 0⟩ ⟨[], 0, 0, 0⟩ o 0 0 0 q m i lo hdp hrd h0 h1 h2 rfl) (decide_eq_true (by omega)) (decide_eq_true (by omega)) (by omega) hi ((wrap_i64 (by omega)).trans (by simp))) (jM [] 0 lo ⟨by simp, rfl⟩ (by omega))
  rcases Bool.eq_false_or_eq_true ((gW S i).f0 == 3) with h3 | h3
  · exact (ou_MN S X C D hC hR i hi20 Y [] ⟨[], 0, 0, 0⟩ ⟨[], 0, 0, 0⟩ o 0 m q lo 0 (cr_M (gW S i).f0 (gW S i).f2 (IntKind.wrap .i64 (1 + (bits .and .i64 (gW S i).f2 3))) [] Y [] ⟨[], 0, 0, 0⟩ ⟨[], 0, 0, 0⟩ o 0 0 0 q m i lo h0 h1 h2 h3 (decide_eq_false (by omega)) (decide_eq_false (by omega))) (decide_eq_true (by omega)) (decide_eq_true (by omega)) (by omega) hi ((wrap_i64 (by omega)).trans (by simp))) (jN 0 (by omega))
  rcases Bool.eq_false_or_eq_true ((gW S i).f0 == 4) with h4 | h4
  · by_cases hq0 : q = 0
    · subst hq0
      exact (ou_MM S X C D hC hR i hi20 Y Y ⟨[], 0, 0, 0⟩ ⟨[], 0, 0, 0⟩ o o m 0 lo lo (fk0_M (gW S i).f0 (gW S i).f2 (IntKind.wrap .i64 (1 + (bits .and .i64 (gW S i).f2 3))) [] Y [] ⟨[], 0, 0, 0⟩ ⟨[], 0, 0, 0⟩ o 0 0 0 0 m i lo h0 h1 h2 h3 h4 rfl) (decide_eq_true (by omega)) (decide_eq_true (by omega)) (by omega) hi ((wrap_i64 (by omega)).trans (by simp))) (jM Y o lo hw (by omega))
    · exact (ou_MM S X C D hC hR i hi20 Y Y ⟨[], 0, 0, 0⟩ ⟨[], 0, 0, 0⟩ o o m q lo lo (fk1_M (gW S i).f0 (gW S i).f2 (IntKind.wrap .i64 (1 + (bits .and .i64 (gW S i).f2 3))) [] Y [] ⟨[], 0, 0, 0⟩ ⟨[], 0, 0, 0⟩ o 0 0 0 q m i lo h0 h1 h2 h3 h4 (by omega) (by omega) rfl) (decide_eq_true (by omega)) (decide_eq_true (by omega)) (by omega) hi ((wrap_i64 (by omega)).trans (by simp))) (jM Y o lo hw (by omega))
  · exact (ou_MM S X C D hC hR i hi20 Y Y ⟨[], 0, 0, 0⟩ ⟨[], 0, 0, 0⟩ o o m q lo lo (no_M (gW S i).f0 (gW S i).f2 (IntKind.wrap .i64 (1 + (bits .and .i64 (gW S i).f2 3))) [] Y [] ⟨[], 0, 0, 0⟩ ⟨[], 0, 0, 0⟩ o 0 0 0 q m i lo h0 h1 h2 h3 h4) (decide_eq_true (by omega)) (decide_eq_true (by omega)) (by omega) hi ((wrap_i64 (by omega)).trans (by simp))) (jM Y o lo hw (by omega))

theorem stepR (S : List WT) (X : List V) (C : Nat → List V) (D : Nat → List Int) (hC : ∀ k, plains (C k) = true) (hR : HR S X 60) (m q : Nat) (hm : S.length = min m 60) (hq : q ≤ 65536) (hr : Rows C D S) (i : Nat) (hi : i < S.length) (jN : (∀ lo : Int, 0 ≤ lo ∧ lo ≤ 10 * ((i + 1) : Nat) → LOK cfg none (lb 3 0) (u_ :: (.sl 3 (p_ 60) m) :: u_ :: u_ :: u_ :: (.ptr (p_ 62)) :: (.ptr (p_ 61)) :: (i6 (((i + 1) : Nat) : Int)) :: us 106) (hA C S X [c1 [(.sl 1 none 0), (n6 q), (i6 lo)], c1 [(.sl 0 none 0), (n6 q), (i6 0), (i6 0), (i6 lo)]]) (.exit 0) (us 114) (hA C S X [d_, d_]))) (jM : (∀ (Y : List Int) (o : Nat) (lo : Int), Win Y o 0 [] → 0 ≤ lo ∧ lo ≤ 10 * ((i + 1) : Nat) → LOK cfg none (lb 3 0) (u_ :: (.sl 3 (p_ 60) m) :: u_ :: u_ :: u_ :: (.ptr (p_ 62)) :: (.ptr (p_ 61)) :: (i6 (((i + 1) : Nat) : Int)) :: us 106) (hA C S X [c1 [(.sl 1 (some (63, o)) 0), (n6 q), (i6 lo)], c1 [(.sl 0 none 0), (n6 q), (i6 0), (i6 0), (i6 lo)], cI Y]) (.exit 0) (us 114) (hA C S X [d_, d_, d_]))) (jR : (∀ (s : Q) (Y : List Int) (o : Nat), s.Ok q → Win Y o s.n s.list → 0 ≤ s.lost ∧ s.lost ≤ 10 * ((i + 1) : Nat) → LOK cfg none (lb 3 0) (u_ :: (.sl 3 (p_ 60) m) :: u_ :: u_ :: u_ :: (.ptr (p_ 62)) :: (.ptr (p_ 61)) :: (i6 (((i + 1) : Nat) : Int)) :: us 106) (hA C S X [c1 [(.sl 1 (some (64, o)) s.n), (n6 q), (i6 s.lost)], c1 [(.sl 1 (p_ 63) s.R.length), (n6 q), (i6 ((s.f : Nat) : Int)), (i6 ((s.n : Nat) : Int)), (i6 s.lost)], cI s.R, cI Y]) (.exit 0) (us 114) (hA C S X [d_, d_, d_, d_]))) : (∀ (s : Q) (Y : List Int) (o : Nat), s.Ok q → Win Y o s.n s.list → 0 ≤ s.lost ∧ s.lost ≤ 10 * (i : Nat) → LOK cfg none (lb 3 0) (u_ :: (.sl 3 (p_ 60) m) :: u_ :: u_ :: u_ :: (.ptr (p_ 62)) :: (.ptr (p_ 61)) :: (n6 i) :: us 106) (hA C S X [c1 [(.sl 1 (some (64, o)) s.n), (n6 q), (i6 s.lost)], c1 [(.sl 1 (p_ 63) s.R.length), (n6 q), (i6 ((s.f : Nat) : Int)), (i6 ((s.n : Nat) : Int)), (i6 s.lost)], cI s.R, cI Y]) (.exit 0) (us 114) (hA C S X [d_, d_, d_, d_])) := by
  intro s Y o h hw hlo
  have hi20 : i < 60 := by omega
  have hql := h.ql
  have hle := hw.le
  have hll := list_len s
  rcases Bool.eq_false_or_eq_true ((gW S i).f0 == 0) with h0 | h0
  · rcases RowsIs S C D hr i hi with ⟨hp, hz, hd⟩ | ⟨hp, hl, hC3⟩
    · exact (on_RR S X C D hC hR i hi20 Y Y s s o o m q 0 0 (pn_R (gW S i).f0 (gW S i).f2 (IntKind.wrap .i64 (1 + (bits .and .i64 (gW S i).f2 3))) [] Y [] s ⟨[], 0, 0, 0⟩ o 0 0 0 q m i 0 h0 h (by omega) hw) hi hp hz (decide_eq_true (by omega)) (decide_eq_true (by omega)) (by omega) ((wrap_i64 (by omega)).trans (by simp))) (jR s Y o h hw (by omega))
    · obtain ⟨w, hww⟩ : ∃ w, w = min (D i).length 10 := ⟨_, rfl⟩
      by_cases hw0 : w = 0
      · have hd : D i = [] := List.eq_nil_of_length_eq_zero (by omega)
        exact (od_RR S X C D hC hR i hi20 Y Y s s o o m q 0 0 (by rw [hd]; exact (pe_R (gW S i).f0 (gW S i).f2 (IntKind.wrap .i64 (1 + (bits .and .i64 (gW S i).f2 3))) [] Y [] s ⟨[], 0, 0, 0⟩ o 0 0 0 q m i 0 h0 h (by omega) hw)) hi hp hC3 (decide_eq_true (by omega)) (decide_eq_true (by omega)) (by omega) hl ((wrap_i64 (by omega)).trans (by simp))) (jR s Y o h hw (by omega))
      · obtain ⟨Z, oz, wz, lz, cz, k, e1, e2, e3, e4, e5, kk⟩ := rp_all (D i) q w (by omega) (by omega) hq w 0 Y o s.n s.list s.lost 0 (by omega) hw (by omega) (by omega) (by omega)
        have hrp := rpbb' (D i) Y Z o s.n oz wz q w s.lost lz cz kk
        rw [List.drop_zero] at e2
        obtain ⟨hzk, p2, p3, p4⟩ := puts_k ((D i).take w) h
        have hwl : ((D i).take w).length = w := by rw [List.length_take]; omega
        rw [hwl] at p2 p3 p4
        rw [← e1] at p2 p3 p4
        have hk : (puts q s ((D i).take w)).n = s.n + k := p2
        have hwz : Win Z oz (puts q s ((D i).take w)).n (puts q s ((D i).take w)).list := by
          rw [e3] at e2
          rw [hk, p3]
          exact e2
        rw [show wz = (puts q s ((D i).take w)).n by omega, show lz = (puts q s ((D i).take w)).lost by rw [p4, e4], show cz = ((k : Nat) : Int) by omega] at hrp
        exact (od_RR S X C D hC hR i hi20 Y Z s (puts q s ((D i).take w)) o oz m q 0 0 (pp_R (gW S i).f0 (gW S i).f2 (IntKind.wrap .i64 (1 + (bits .and .i64 (gW S i).f2 3))) (D i) Y Z s (puts q s ((D i).take w)) o oz w k q m i 0 hrp h0 (by split <;> omega) (by omega) (by omega) (by omega) h (by omega) (by omega) rfl hk (bne_self_eq_false _) hzk hwz) hi hp hC3 (decide_eq_true (by omega)) (decide_eq_true (by omega)) (by omega) hl ((wrap_i64 (by omega)).trans (by simp))) (jR _ Z oz hzk hwz (by rw [p4]; omega))
  rcases Bool.eq_false_or_eq_true ((gW S i).f0 == 1) with h1 | h1
  · by_cases hn : s.n = 0
    · exact (ou_RR S X C D hC hR i hi20 Y Y s s o o m q 0 0 (ta_R (gW S i).f0 (gW S i).f2 (IntKind.wrap .i64 (1 + (bits .and .i64 (gW S i).f2 3))) [] Y [] s ⟨[], 0, 0, 0⟩ o 0 0 0 q m i 0 h0 h1 (beq_iff_eq.2 (by omega)) h (by omega) hw) (decide_eq_true (by omega)) (decide_eq_true (by omega)) (by omega) hi ((wrap_i64 (by omega)).trans (by simp))) (jR s Y o h hw (by omega))
    · have hat : s.at 0 = (Y).getD (o + 0) 0 := by
        rw [hw.get (by omega), take_list h (by omega)]
        rfl
      have hwt : Win Y (o + 1) s.take.n s.take.list := by
        refine ⟨by show o + 1 + (s.n - 1) ≤ _; omega, ?_⟩
        have e := hw.eq
        rw [take_list h (by omega), show s.n = (s.n - 1) + 1 by omega, List.drop_eq_getElem_cons (show o < Y.length by omega), List.take_succ_cons] at e
        injection e
      exact (ou_RR S X C D hC hR i hi20 Y Y s s.take o (o + 1) m q 0 0 (ta_y (gW S i).f0 (gW S i).f2 (IntKind.wrap .i64 (1 + (bits .and .i64 (gW S i).f2 3))) [] Y [] s ⟨[], 0, 0, 0⟩ o 0 0 0 q m i 0 h0 h1 h (by omega) (by omega) (beq_eq_false_iff_ne.2 (by omega)) (by omega) (by omega) (by omega) (bne_eq_false_iff_eq.2 hat) (take_ok h (by omega)) hwt rfl rfl rfl rfl) (decide_eq_true (by omega)) (decide_eq_true (by omega)) (by omega) hi ((wrap_i64 (by omega)).trans (by simp))) (jR s.take Y (o + 1) (take_ok h (by omega)) hwt (by show 0 ≤ s.lost ∧ s.lost ≤ _; omega))
  rcases Bool.eq_false_or_eq_true ((gW S i).f0 == 2) with h2 | h2
  · have hy := y_ok (gW S i).f2
    have hl0 := rd_all Y o s.n q s.lost (IntKind.wrap .i64 (1 + (bits .and .i64 (gW S i).f2 3))) hy s.list hw (by omega) s.n 0 [] (by omega) (by simp)
    rw [List.drop_zero, List.nil_append] at hl0
    have hrd0 := rdf' Y (keepY s.list (IntKind.wrap .i64 (1 + (bits .and .i64 (gW S i).f2 3)))) o s.n q s.lost (IntKind.wrap .i64 (1 + (bits .and .i64 (gW S i).f2 3))) hl0 rfl rfl
    have hkl : (keepY s.list (IntKind.wrap .i64 (1 + (bits .and .i64 (gW S i).f2 3)))).length ≤ s.n := by rw [← hll]; exact List.length_filter_le _ _
    by_cases hke : keepY s.list (IntKind.wrap .i64 (1 + (bits .and .i64 (gW S i).f2 3))) = []
    · rw [hke] at hrd0
      have hrd1 := OK.eqv hrd0 (show _ = V.tup [_, .int .i64 ((s.n : Nat) : Int)] by rw [show IntKind.wrap .i64 (((s.n : Nat) : Int) - ((([] : List Int).length : Nat) : Int)) = ((s.n : Nat) : Int) from (wrap_i64 (by simp; omega)).trans (by simp)])
      have hrd := hrd1
      have hdp : OK cfg (.fn 12 []) [(.ptr (p_ 1)), (.fn 13 [(.ptr (p_ 0))])] [.cells false [.int .i64 (IntKind.wrap .i64 (1 + (bits .and .i64 (gW S i).f2 3)))], c1 [(.sl 1 (p_ 2) s.R.length), (n6 q), (i6 ((s.f : Nat) : Int)), (i6 ((s.n : Nat) : Int)), (i6 s.lost)], cI s.R] (i6 ((s.n : Nat) : Int)) [.cells false [.int .i64 (IntKind.wrap .i64 (1 + (bits .and .i64 (gW S i).f2 3)))], c1 [(.sl 1 none 0), (n6 q), (i6 0), (i6 0), (i6 s.lost)], cI s.R] := by
        have e : IntKind.wrap .i64 (((s.n : Nat) : Int) - 0) = ((s.n : Nat) : Int) := (wrap_i64 (by omega)).trans (by omega)
        by_cases hn : 0 < s.n
        · rcases dpn_all s.list s q (IntKind.wrap .i64 (1 + (bits .and .i64 (gW S i).f2 3))) hy (by omega) hq s.list.length 0 (by omega) (by omega) with ⟨_, kk⟩ | ⟨e2, _⟩
          · have := dr_n' s ⟨[], 0, 0, 0⟩ q (IntKind.wrap .i64 (1 + (bits .and .i64 (gW S i).f2 3))) kk (by split <;> omega) (by split <;> omega) h hq hn
            rw [e] at this
            exact this
          · rw [List.drop_zero] at e2
            exact absurd hke e2
        · have := dr_e' s q (IntKind.wrap .i64 (1 + (bits .and .i64 (gW S i).f2 3))) (by split <;> omega) (by split <;> omega) (decide_eq_false (by omega))
          rw [e] at this
          exact this
      exact (ou_RM S X C D hC hR i hi20 Y [] s ⟨[], 0, 0, 0⟩ o 0 m q 0 s.lost (dd_R (gW S i).f0 (gW S i).f2 (IntKind.wrap .i64 (1 + (bits .and .i64 (gW S i).f2 3))) [] Y [] s ⟨[], 0, 0, 0⟩ o 0 0 s.n q m i 0 hdp hrd h0 h1 h2 rfl (bne_self_eq_false _)) (decide_eq_true (by omega)) (decide_eq_true (by omega)) (by omega) hi ((wrap_i64 (by omega)).trans (by simp))) (jM [] 0 s.lost ⟨by simp, rfl⟩ (by omega))
    · have hn : 0 < s.n := by
        rcases Nat.eq_zero_or_pos s.n with h0' | h0'
        · exact absurd (List.eq_nil_of_length_eq_zero (by omega)) hke
        · exact h0'
      have hN : (⟨[], 0, 0, 0⟩ : Q).Ok q := ⟨by simp, .inl ⟨rfl, rfl⟩, by simp, by simp⟩
      obtain ⟨r1, r2, r3, r4⟩ := puts_room (keepY s.list (IntKind.wrap .i64 (1 + (bits .and .i64 (gW S i).f2 3)))) hN (by simp only; omega)
      generalize hz0 : puts q ⟨[], 0, 0, 0⟩ (keepY s.list (IntKind.wrap .i64 (1 + (bits .and .i64 (gW S i).f2 3)))) = z0 at r1 r2 r3 r4
      have hzl0 : z0.list = keepY s.list (IntKind.wrap .i64 (1 + (bits .and .i64 (gW S i).f2 3))) := by rw [r2]; rfl
      have hzn : z0.n = (keepY s.list (IntKind.wrap .i64 (1 + (bits .and .i64 (gW S i).f2 3)))).length := by rw [r3]; simp
      have hzk : (⟨z0.R, z0.f, z0.n, s.lost⟩ : Q).Ok q := ⟨r1.n, r1.f, r1.ql, r1.r⟩
      have hwz : Win (keepY s.list (IntKind.wrap .i64 (1 + (bits .and .i64 (gW S i).f2 3)))) 0 (⟨z0.R, z0.f, z0.n, s.lost⟩ : Q).n (⟨z0.R, z0.f, z0.n, s.lost⟩ : Q).list := by
        have e : (⟨z0.R, z0.f, z0.n, s.lost⟩ : Q).list = keepY s.list (IntKind.wrap .i64 (1 + (bits .and .i64 (gW S i).f2 3))) := hzl0
        rw [e]
        show Win _ 0 z0.n _
        rw [hzn]
        exact Win.all _
      have ek : IntKind.wrap .i64 (((s.n : Nat) : Int) - ((z0.n : Nat) : Int)) = ((s.n - z0.n : Nat) : Int) := (wrap_i64 (by omega)).trans (by omega)
      have hdp : OK cfg (.fn 12 []) [(.ptr (p_ 1)), (.fn 13 [(.ptr (p_ 0))])] [.cells false [.int .i64 (IntKind.wrap .i64 (1 + (bits .and .i64 (gW S i).f2 3)))], c1 [(.sl 1 (p_ 2) s.R.length), (n6 q), (i6 ((s.f : Nat) : Int)), (i6 ((s.n : Nat) : Int)), (i6 s.lost)], cI s.R] (i6 ((s.n - z0.n : Nat) : Int)) [.cells false [.int .i64 (IntKind.wrap .i64 (1 + (bits .and .i64 (gW S i).f2 3)))], c1 [(.sl 1 (p_ 3) (⟨z0.R, z0.f, z0.n, s.lost⟩ : Q).R.length), (n6 q), (i6 (((⟨z0.R, z0.f, z0.n, s.lost⟩ : Q).f : Nat) : Int)), (i6 (((⟨z0.R, z0.f, z0.n, s.lost⟩ : Q).n : Nat) : Int)), (i6 (⟨z0.R, z0.f, z0.n, s.lost⟩ : Q).lost)], cI s.R, .cells true (((⟨z0.R, z0.f, z0.n, s.lost⟩ : Q).R).map (V.int .i64))] := by
        rcases dpn_all s.list s q (IntKind.wrap .i64 (1 + (bits .and .i64 (gW S i).f2 3))) hy (by omega) hq s.list.length 0 (by omega) (by omega) with ⟨e2, _⟩ | ⟨_, kk⟩
        · rw [List.drop_zero] at e2
          exact absurd e2 hke
        · rw [List.drop_zero, hz0] at kk
          have := dr_r' s z0 q (IntKind.wrap .i64 (1 + (bits .and .i64 (gW S i).f2 3))) kk (by split <;> omega) (by split <;> omega) h hq hn
          rw [ek] at this
          exact this
      rw [← hzn] at hrd0
      have hrd := OK.eqv hrd0 (show _ = V.tup [_, .int .i64 ((s.n - z0.n : Nat) : Int)] by rw [ek])
      exact (ou_RR S X C D hC hR i hi20 Y (keepY s.list (IntKind.wrap .i64 (1 + (bits .and .i64 (gW S i).f2 3)))) s (⟨z0.R, z0.f, z0.n, s.lost⟩ : Q) o 0 m q 0 0 (dd_y (gW S i).f0 (gW S i).f2 (IntKind.wrap .i64 (1 + (bits .and .i64 (gW S i).f2 3))) [] Y (keepY s.list (IntKind.wrap .i64 (1 + (bits .and .i64 (gW S i).f2 3)))) s (⟨z0.R, z0.f, z0.n, s.lost⟩ : Q) o 0 0 (s.n - z0.n) q m i 0 hdp hrd h0 h1 h2 rfl (bne_self_eq_false _) hzk (by omega) hwz rfl rfl) (decide_eq_true (by omega)) (decide_eq_true (by omega)) (by omega) hi ((wrap_i64 (by omega)).trans (by simp))) (jR _ (keepY s.list (IntKind.wrap .i64 (1 + (bits .and .i64 (gW S i).f2 3)))) 0 hzk hwz (by show 0 ≤ s.lost ∧ s.lost ≤ _; omega))
  rcases Bool.eq_false_or_eq_true ((gW S i).f0 == 3) with h3 | h3
  · exact (ou_RN S X C D hC hR i hi20 Y [] s ⟨[], 0, 0, 0⟩ o 0 m q 0 0 (cr_R (gW S i).f0 (gW S i).f2 (IntKind.wrap .i64 (1 + (bits .and .i64 (gW S i).f2 3))) [] Y [] s ⟨[], 0, 0, 0⟩ o 0 0 0 q m i 0 h0 h1 h2 h3 (decide_eq_false (by omega)) (decide_eq_false (by omega))) (decide_eq_true (by omega)) (decide_eq_true (by omega)) (by omega) hi ((wrap_i64 (by omega)).trans (by simp))) (jN 0 (by omega))
  rcases Bool.eq_false_or_eq_true ((gW S i).f0 == 4) with h4 | h4
  · by_cases hn : s.n = 0
    · have hw0 : Win Y o 0 [] := by
        have e : s.list = [] := List.eq_nil_of_length_eq_zero (by omega)
        rw [e, hn] at hw
        exact hw
      by_cases hq0 : q = 0
      · subst hq0
        exact (ou_RM S X C D hC hR i hi20 Y Y s ⟨[], 0, 0, 0⟩ o o m 0 0 s.lost (fk0_R (gW S i).f0 (gW S i).f2 (IntKind.wrap .i64 (1 + (bits .and .i64 (gW S i).f2 3))) [] Y [] s ⟨[], 0, 0, 0⟩ o 0 0 0 0 m i 0 h0 h1 h2 h3 h4 (decide_eq_false (by omega)) rfl (by omega) (by omega)) (decide_eq_true (by omega)) (decide_eq_true (by omega)) (by omega) hi ((wrap_i64 (by omega)).trans (by simp))) (jM Y o s.lost hw0 (by omega))
      · exact (ou_RM S X C D hC hR i hi20 Y Y s ⟨[], 0, 0, 0⟩ o o m q 0 s.lost (fk1_R (gW S i).f0 (gW S i).f2 (IntKind.wrap .i64 (1 + (bits .and .i64 (gW S i).f2 3))) [] Y [] s ⟨[], 0, 0, 0⟩ o 0 0 0 q m i 0 h0 h1 h2 h3 h4 (decide_eq_false (by omega)) (by omega) (by omega) rfl (by omega) (by omega)) (decide_eq_true (by omega)) (decide_eq_true (by omega)) (by omega) hi ((wrap_i64 (by omega)).trans (by simp))) (jM Y o s.lost hw0 (by omega))
    · obtain ⟨hfk, hfl⟩ := fkq_ok h
      have hfw : Win Y o (⟨s.list, 0, s.list.length, s.lost⟩ : Q).n (⟨s.list, 0, s.list.length, s.lost⟩ : Q).list := by
        rw [hfl]
        show Win Y o s.list.length s.list
        rw [hll]
        exact hw
      exact (ou_RR S X C D hC hR i hi20 Y Y s (⟨s.list, 0, s.list.length, s.lost⟩ : Q) o o m q 0 0 (fk_y (gW S i).f0 (gW S i).f2 (IntKind.wrap .i64 (1 + (bits .and .i64 (gW S i).f2 3))) [] Y [] s ⟨[], 0, 0, 0⟩ o 0 0 0 q m i 0 h0 h1 h2 h3 h4 h (by omega) (by omega) (by omega) rfl hfk hfw rfl (list_len s).symm rfl (list_len s)) (decide_eq_true (by omega)) (decide_eq_true (by omega)) (by omega) hi ((wrap_i64 (by omega)).trans (by simp))) (jR _ Y o hfk hfw (by show 0 ≤ s.lost ∧ s.lost ≤ _; omega))
  · exact (ou_RR S X C D hC hR i hi20 Y Y s s o o m q 0 0 (no_R (gW S i).f0 (gW S i).f2 (IntKind.wrap .i64 (1 + (bits .and .i64 (gW S i).f2 3))) [] Y [] s ⟨[], 0, 0, 0⟩ o 0 0 0 q m i 0 h0 h1 h2 h3 h4 h (by omega) hw) (decide_eq_true (by omega)) (decide_eq_true (by omega)) (by omega) hi ((wrap_i64 (by omega)).trans (by simp))) (jR s Y o h hw (by omega))

end Go.Proofs.Ytfhjdnekidhjnaa.fifo

set_option linter.unusedVariables false
set_option linter.unusedSimpArgs false
set_option maxRecDepth 100000
namespace Go.Proofs.Ytfhjdnekidhjnaa.fifo
open Go Go.Vm Go.Ring

theorem live_run : ∃ H', OK cfg (.fn 18 []) [] [] (.bool true) H' := ok_run hmix 300 (by kernel_rfl)
theorem live_ok (H : Heap) : OK cfg (.fn 18 []) [] H (.bool true) H := by
  obtain ⟨H', h⟩ := live_run
  exact OK.anyH h rfl (.inl rfl) H
theorem plays (S : List WT) (X : List V) (C : Nat → List V) (D : Nat → List Int) (hC : ∀ k, plains (C k) = true) (hR : HR S X 60) (m q : Nat) (hm : S.length = min m 60) (hq : q ≤ 65536) (hr : Rows C D S) : ∀ (d i : Nat), i + d = S.length → (∀ lo : Int, 0 ≤ lo ∧ lo ≤ 10 * (i : Nat) → LOK cfg none (lb 3 0) (u_ :: (.sl 3 (p_ 60) m) :: u_ :: u_ :: u_ :: (.ptr (p_ 62)) :: (.ptr (p_ 61)) :: (n6 i) :: us 106) (hA C S X [c1 [(.sl 1 none 0), (n6 q), (i6 lo)], c1 [(.sl 0 none 0), (n6 q), (i6 0), (i6 0), (i6 lo)]]) (.exit 0) (us 114) (hA C S X [d_, d_])) ∧ (∀ (Y : List Int) (o : Nat) (lo : Int), Win Y o 0 [] → 0 ≤ lo ∧ lo ≤ 10 * (i : Nat) → LOK cfg none (lb 3 0) (u_ :: (.sl 3 (p_ 60) m) :: u_ :: u_ :: u_ :: (.ptr (p_ 62)) :: (.ptr (p_ 61)) :: (n6 i) :: us 106) (hA C S X [c1 [(.sl 1 (some (63, o)) 0), (n6 q), (i6 lo)], c1 [(.sl 0 none 0), (n6 q), (i6 0), (i6 0), (i6 lo)], cI Y]) (.exit 0) (us 114) (hA C S X [d_, d_, d_])) ∧ (∀ (s : Q) (Y : List Int) (o : Nat), s.Ok q → Win Y o s.n s.list → 0 ≤ s.lost ∧ s.lost ≤ 10 * (i : Nat) → LOK cfg none (lb 3 0) (u_ :: (.sl 3 (p_ 60) m) :: u_ :: u_ :: u_ :: (.ptr (p_ 62)) :: (.ptr (p_ 61)) :: (n6 i) :: us 106) (hA C S X [c1 [(.sl 1 (some (64, o)) s.n), (n6 q), (i6 s.lost)], c1 [(.sl 1 (p_ 63) s.R.length), (n6 q), (i6 ((s.f : Nat) : Int)), (i6 ((s.n : Nat) : Int)), (i6 s.lost)], cI s.R, cI Y]) (.exit 0) (us 114) (hA C S X [d_, d_, d_, d_])) := by
  intro d
  induction d with
  | zero =>
    intro i hi
    refine ⟨fun lo hlo => ?_, fun Y o lo hw hlo => ?_, fun s Y o h hw hlo => ?_⟩
    · by_cases h60 : i < m
      · exact (oy_N S X C D hC hR i [] [] ⟨[], 0, 0, 0⟩ ⟨[], 0, 0, 0⟩ 0 0 m q lo 0  (decide_eq_true (by omega)) (decide_eq_false (by omega)))
      · exact (ox_N S X C D hC hR i [] [] ⟨[], 0, 0, 0⟩ ⟨[], 0, 0, 0⟩ 0 0 m q lo 0  (decide_eq_false (by omega)))
    · by_cases h60 : i < m
      · exact (oy_M S X C D hC hR i Y [] ⟨[], 0, 0, 0⟩ ⟨[], 0, 0, 0⟩ o 0 m q lo 0  (decide_eq_true (by omega)) (decide_eq_false (by omega)))
      · exact (ox_M S X C D hC hR i Y [] ⟨[], 0, 0, 0⟩ ⟨[], 0, 0, 0⟩ o 0 m q lo 0  (decide_eq_false (by omega)))
    · by_cases h60 : i < m
      · exact (oy_R S X C D hC hR i Y [] s ⟨[], 0, 0, 0⟩ o 0 m q 0 0  (decide_eq_true (by omega)) (decide_eq_false (by omega)))
      · exact (ox_R S X C D hC hR i Y [] s ⟨[], 0, 0, 0⟩ o 0 m q 0 0  (decide_eq_false (by omega)))
  | succ d IH =>
    intro i hi
    obtain ⟨jN, jM, jR⟩ := IH (i + 1) (by omega)
    have hi' : i < S.length := by omega
    exact ⟨stepN S X C D hC hR m q hm hq hr i hi' jN jM jR, stepM S X C D hC hR m q hm hq hr i hi' jN jM jR, stepR S X C D hC hR m q hm hq hr i hi' jN jM jR⟩

noncomputable abbrev p10b0 : Blk := c1 [(.sl 1 none 0), (i6 0), (i6 0)]
noncomputable abbrev p10b1 : Blk := c1 [(.sl 0 none 0), (i6 0), (i6 0), (i6 0), (i6 0)]
theorem lw_lo_q_1 (S : List WT) (X : List V) (C : Nat → List V) (D : Nat → List Int) (hC : ∀ k, plains (C k) = true) (hR : HR S X 60) (a : Int) (m q : Nat) (hl : LOK cfg none (lb 3 0) (u_ :: (.sl 3 (p_ 60) m) :: u_ :: u_ :: u_ :: (.ptr (p_ 62)) :: (.ptr (p_ 61)) :: (i6 0) :: us 106) (hA C S X [p10b0, p10b1]) (.exit 0) (us 114) (hA C S X [d_, d_])) (h0 : ((if 0 > a then 0 else a) : Int) = 0) : OK cfg (.fn 6 []) [(i6 a)] (hA C S X []) (.ptr (p_ 61)) (hA C S X [p10b1]) :=
  ok_fn' hmix (n := 40) (os := (.c :: .c :: .v (i6 0) :: cc 4 ([]))) (by kernel_rfl) (a_ r_ (a_ (fix_int (k := .i64) (H := (hA C S X [])) h0) (a_ r_ (Eq.refl (((.ptr (p_ 61)) : V), ((hA C S X [p10b1]) : Heap))))))

noncomputable abbrev p10b2 : Blk := c1 [(.sl 0 none 0), (i6 0), (i6 0)]
theorem lw_lo_q_2 (S : List WT) (X : List V) (C : Nat → List V) (D : Nat → List Int) (hC : ∀ k, plains (C k) = true) (hR : HR S X 60) (a : Int) (m q : Nat) (hl : LOK cfg none (lb 3 0) (u_ :: (.sl 3 (p_ 60) m) :: u_ :: u_ :: u_ :: (.ptr (p_ 62)) :: (.ptr (p_ 61)) :: (i6 0) :: us 106) (hA C S X [p10b0, p10b1]) (.exit 0) (us 114) (hA C S X [d_, d_])) (h0 : (decide ((a : Int) < 0)) = true) : OK cfg (.fn 7 []) [(i6 a)] (hA C S X [p10b1, d_]) (.agg [(.sl 1 none 0), (i6 0), (i6 0)]) (hA C S X [p10b1, d_, p10b2]) :=
  ok_fn' hmix (n := 40) (os := (cc 3 (.t :: cc 7 ([])))) (by kernel_rfl) (a_ r_ (a_ r_ (a_ h0 (a_ r_ (a_ r_ (a_ r_ (Eq.refl (((.agg [(.sl 1 none 0), (i6 0), (i6 0)]) : V), ((hA C S X [p10b1, d_, p10b2]) : Heap)))))))))

theorem lw_lo (S : List WT) (X : List V) (C : Nat → List V) (D : Nat → List Int) (hC : ∀ k, plains (C k) = true) (hR : HR S X 60) (a : Int) (m q : Nat) (hl : LOK cfg none (lb 3 0) (u_ :: (.sl 3 (p_ 60) m) :: u_ :: u_ :: u_ :: (.ptr (p_ 62)) :: (.ptr (p_ 61)) :: (i6 0) :: us 106) (hA C S X [c1 [(.sl 1 none 0), (i6 0), (i6 0)], c1 [(.sl 0 none 0), (i6 0), (i6 0), (i6 0), (i6 0)]]) (.exit 0) (us 114) (hA C S X [d_, d_])) (h0 : ((if 0 > a then 0 else a) : Int) = 0) (h1 : (decide ((a : Int) < 0)) = true) : OK cfg (.fn 3 []) [(i6 a), (.sl 3 (p_ 60) m)] (hA C S X []) (.bool true) (hA C S X [d_, d_, c1 [(.sl 0 none 0), (i6 0), (i6 0)], d_, d_, d_]) :=
  ok_fn' hmix (n := 40) (os := (.c :: .c :: .r (.ptr (p_ 61)) (hA C S X [p10b1, d_]) :: .c :: .c :: .r (.agg [(.sl 1 none 0), (i6 0), (i6 0)]) (hA C S X [p10b1, d_, p10b2, d_]) :: cc 3 (.l (.exit 0) (us 114) (hA C S X [d_, d_, p10b2, d_, d_]) :: .r (.bool true) (hA C S X [d_, d_, p10b2, d_, d_, d_]) :: .c :: []))) (by kernel_rfl) (a_ r_ (a_ (OK.pad (lw_lo_q_1 S X C D hC hR a m q hl h0)) (a_ r_ (a_ (OK.pad (lw_lo_q_2 S X C D hC hR a m q hl h1)) (a_ r_ (a_ r_ (a_ (LOK.at (rd := none) (rd1 := none) (st1 := ((i6 a) :: (.sl 3 (p_ 60) m) :: t_ :: t_ :: (.bool false) :: (.ptr (p_ 61)) :: (.ptr (p_ 65)) :: (i6 0) :: t_ :: t_ :: t_ :: t_ :: t_ :: t_ :: t_ :: t_ :: (i6 a) :: (.ptr (p_ 61)) :: (i6 a) :: (.agg [(.sl 1 none 0), (i6 0), (i6 0)]) :: t_ :: t_ :: t_ :: t_ :: t_ :: t_ :: t_ :: t_ :: t_ :: t_ :: t_ :: t_ :: t_ :: t_ :: t_ :: t_ :: t_ :: t_ :: t_ :: t_ :: t_ :: t_ :: t_ :: t_ :: t_ :: t_ :: t_ :: t_ :: t_ :: t_ :: t_ :: t_ :: t_ :: t_ :: t_ :: t_ :: t_ :: t_ :: t_ :: t_ :: t_ :: t_ :: t_ :: t_ :: t_ :: t_ :: t_ :: t_ :: t_ :: t_ :: t_ :: t_ :: t_ :: t_ :: t_ :: t_ :: t_ :: t_ :: t_ :: t_ :: t_ :: t_ :: t_ :: t_ :: t_ :: t_ :: t_ :: t_ :: t_ :: [t_, t_, t_, t_, t_, t_, t_, t_, t_, t_, t_, t_, t_, t_, t_, t_, t_, t_, t_, t_, t_, t_, t_, t_, t_])) (st1' := (us 114)) hl (pr 0 61 (p_ 65 :: p_ 61 :: [])) (pr 0 61 (none :: none :: [])) [] (hA C S X [p10b1, d_, p10b2, d_, p10b0]) (hA C S X [d_, d_, p10b2, d_, d_]) True.intro (by kernel_rfl) (by kernel_rfl) (embA0 hC hR (sg_id (n := 61) (by kernel_rfl)) ⟨⟨65, [(.sl 1 none 0), (i6 0), (i6 0)], rfl, rfl, VEL.P⟩, ⟨⟨61, [(.sl 0 none 0), (i6 0), (i6 0), (i6 0), (i6 0)], rfl, rfl, VEL.P⟩, trivial⟩⟩) (.us 61 (by kernel_rfl) (by kernel_rfl) ⟨.inl rfl, (.us 3 (by kernel_rfl) (by kernel_rfl) ⟨.inl rfl, trivial⟩)⟩) (.c .q (.c VE.R (.c .q (.c .q (.c .q (.c VE.R (.c VE.R (.c VE.R (VEL.qs (by kernel_rfl)))))))))) VEL.R) (a_ (OK.pad (live_ok (hA C S X [d_, d_, p10b2, d_, d_]))) (a_ r_ (Eq.refl (((.bool true) : V), ((hA C S X [d_, d_, p10b2, d_, d_, d_]) : Heap))))))))))))

theorem ln_lo_q_1 (a : Int) (q : Nat) (h0 : ((if 0 > a then 0 else a) : Int) = 0) : OK cfg (.fn 6 []) [(i6 a)] [] (.ptr (p_ 0)) [p10b1] :=
  ok_fn' hmix (n := 40) (os := (.c :: .c :: .v (i6 0) :: cc 4 ([]))) (by kernel_rfl) (a_ r_ (a_ (fix_int (k := .i64) (H := []) h0) (a_ r_ (Eq.refl (((.ptr (p_ 0)) : V), ([p10b1] : Heap))))))

theorem ln_lo_q_2 (a : Int) (q : Nat) (h0 : (decide ((a : Int) < 0)) = true) : OK cfg (.fn 7 []) [(i6 a)] [p10b1, d_] (.agg [(.sl 1 none 0), (i6 0), (i6 0)]) [p10b1, d_, p10b2] :=
  ok_fn' hmix (n := 40) (os := (cc 3 (.t :: cc 7 ([])))) (by kernel_rfl) (a_ r_ (a_ r_ (a_ h0 (a_ r_ (a_ r_ (a_ r_ (Eq.refl (((.agg [(.sl 1 none 0), (i6 0), (i6 0)]) : V), ([p10b1, d_, p10b2] : Heap)))))))))

theorem ln_lo (a : Int) (q : Nat) (h0 : ((if 0 > a then 0 else a) : Int) = 0) (h1 : (decide ((a : Int) < 0)) = true) : OK cfg (.fn 3 []) [(i6 a), (.sl 3 none 0)] [] (.bool true) [c1 [(.sl 0 none 0), (i6 0), (i6 0), (i6 0), (i6 0)], d_, c1 [(.sl 0 none 0), (i6 0), (i6 0)], d_, c1 [(.sl 1 none 0), (i6 0), (i6 0)], d_] :=
  ok_fn' hmix (n := 40) (os := (.c :: .c :: .r (.ptr (p_ 0)) [p10b1, d_] :: .c :: .c :: .r (.agg [(.sl 1 none 0), (i6 0), (i6 0)]) [p10b1, d_, p10b2, d_] :: cc 3 (.a :: cc 9 (.r (.bool true) [p10b1, d_, p10b2, d_, p10b0, d_] :: .c :: [])))) (by kernel_rfl) (a_ r_ (a_ (OK.pad (ln_lo_q_1 a q h0)) (a_ r_ (a_ (OK.pad (ln_lo_q_2 a q h1)) (a_ r_ (a_ r_ (a_ r_ (a_ (OK.pad (live_ok [p10b1, d_, p10b2, d_, p10b0])) (a_ r_ (Eq.refl (((.bool true) : V), ([p10b1, d_, p10b2, d_, p10b0, d_] : Heap))))))))))))

theorem lv_lo_q_1 (a : Int) (q : Nat) (h0 : ((if 0 > a then 0 else a) : Int) = 0) : OK cfg (.fn 6 []) [(i6 a)] [.void] (.ptr (p_ 1)) [.void, p10b1] :=
  ok_fn' hmix (n := 40) (os := (.c :: .c :: .v (i6 0) :: cc 4 ([]))) (by kernel_rfl) (a_ r_ (a_ (fix_int (k := .i64) (H := [.void]) h0) (a_ r_ (Eq.refl (((.ptr (p_ 1)) : V), ([.void, p10b1] : Heap))))))

theorem lv_lo_q_2 (a : Int) (q : Nat) (h0 : (decide ((a : Int) < 0)) = true) : OK cfg (.fn 7 []) [(i6 a)] [.void, p10b1, d_] (.agg [(.sl 1 none 0), (i6 0), (i6 0)]) [.void, p10b1, d_, p10b2] :=
  ok_fn' hmix (n := 40) (os := (cc 3 (.t :: cc 7 ([])))) (by kernel_rfl) (a_ r_ (a_ r_ (a_ h0 (a_ r_ (a_ r_ (a_ r_ (Eq.refl (((.agg [(.sl 1 none 0), (i6 0), (i6 0)]) : V), ([.void, p10b1, d_, p10b2] : Heap)))))))))

noncomputable abbrev p10h8 : Heap := [.void, p10b1, d_, p10b2, d_, p10b0, d_]
theorem lv_lo (a : Int) (q : Nat) (h0 : ((if 0 > a then 0 else a) : Int) = 0) (h1 : (decide ((a : Int) < 0)) = true) : OK cfg (.fn 3 []) [(i6 a), (.sl 3 (p_ 0) 0)] [.void] (.bool true) [.void, c1 [(.sl 0 none 0), (i6 0), (i6 0), (i6 0), (i6 0)], d_, c1 [(.sl 0 none 0), (i6 0), (i6 0)], d_, c1 [(.sl 1 none 0), (i6 0), (i6 0)], d_] :=
  ok_fn' hmix (n := 40) (os := (.c :: .c :: .r (.ptr (p_ 1)) [.void, p10b1, d_] :: .c :: .c :: .r (.agg [(.sl 1 none 0), (i6 0), (i6 0)]) [.void, p10b1, d_, p10b2, d_] :: cc 3 (.a :: cc 9 (.r (.bool true) p10h8 :: .c :: [])))) (by kernel_rfl) (a_ r_ (a_ (OK.pad (lv_lo_q_1 a q h0)) (a_ r_ (a_ (OK.pad (lv_lo_q_2 a q h1)) (a_ r_ (a_ r_ (a_ r_ (a_ (OK.pad (live_ok [.void, p10b1, d_, p10b2, d_, p10b0])) (a_ r_ (Eq.refl (((.bool true) : V), (p10h8 : Heap))))))))))))

noncomputable abbrev p10b3 : Blk := c1 [(.sl 1 none 0), (i6 65536), (i6 0)]
noncomputable abbrev p10b4 : Blk := c1 [(.sl 0 none 0), (i6 65536), (i6 0), (i6 0), (i6 0)]
theorem lw_hi_q_1 (S : List WT) (X : List V) (C : Nat → List V) (D : Nat → List Int) (hC : ∀ k, plains (C k) = true) (hR : HR S X 60) (a : Int) (m q : Nat) (hl : LOK cfg none (lb 3 0) (u_ :: (.sl 3 (p_ 60) m) :: u_ :: u_ :: u_ :: (.ptr (p_ 62)) :: (.ptr (p_ 61)) :: (i6 0) :: us 106) (hA C S X [p10b3, p10b4]) (.exit 0) (us 114) (hA C S X [d_, d_])) (h0 : ((if 0 > a then 0 else a) : Int) = a) (h1 : ((if 65536 < a then 65536 else a) : Int) = 65536) : OK cfg (.fn 6 []) [(i6 a)] (hA C S X []) (.ptr (p_ 61)) (hA C S X [p10b4]) :=
  ok_fn' hmix (n := 40) (os := (.c :: .c :: .v (i6 a) :: .v (i6 65536) :: cc 3 ([]))) (by kernel_rfl) (a_ r_ (a_ (fix_int (k := .i64) (H := (hA C S X [])) h0) (a_ (fix_int (k := .i64) (H := (hA C S X [])) h1) (a_ r_ (Eq.refl (((.ptr (p_ 61)) : V), ((hA C S X [p10b4]) : Heap)))))))

noncomputable abbrev p10b5 : Blk := c1 [(.sl 0 none 0), (i6 65536), (i6 0)]
theorem lw_hi_q_2 (S : List WT) (X : List V) (C : Nat → List V) (D : Nat → List Int) (hC : ∀ k, plains (C k) = true) (hR : HR S X 60) (a : Int) (m q : Nat) (hl : LOK cfg none (lb 3 0) (u_ :: (.sl 3 (p_ 60) m) :: u_ :: u_ :: u_ :: (.ptr (p_ 62)) :: (.ptr (p_ 61)) :: (i6 0) :: us 106) (hA C S X [p10b3, p10b4]) (.exit 0) (us 114) (hA C S X [d_, d_])) (h0 : (decide ((a : Int) < 0)) = false) (h1 : (decide ((a : Int) > 65536)) = true) : OK cfg (.fn 7 []) [(i6 a)] (hA C S X [p10b4, d_]) (.agg [(.sl 1 none 0), (i6 65536), (i6 0)]) (hA C S X [p10b4, d_, p10b5]) :=
  ok_fn' hmix (n := 40) (os := (cc 3 (.f :: .c :: .c :: .t :: cc 4 ([])))) (by kernel_rfl) (a_ r_ (a_ r_ (a_ h0 (a_ r_ (a_ h1 (a_ r_ (a_ r_ (Eq.refl (((.agg [(.sl 1 none 0), (i6 65536), (i6 0)]) : V), ((hA C S X [p10b4, d_, p10b5]) : Heap))))))))))

theorem lw_hi (S : List WT) (X : List V) (C : Nat → List V) (D : Nat → List Int) (hC : ∀ k, plains (C k) = true) (hR : HR S X 60) (a : Int) (m q : Nat) (hl : LOK cfg none (lb 3 0) (u_ :: (.sl 3 (p_ 60) m) :: u_ :: u_ :: u_ :: (.ptr (p_ 62)) :: (.ptr (p_ 61)) :: (i6 0) :: us 106) (hA C S X [c1 [(.sl 1 none 0), (i6 65536), (i6 0)], c1 [(.sl 0 none 0), (i6 65536), (i6 0), (i6 0), (i6 0)]]) (.exit 0) (us 114) (hA C S X [d_, d_])) (h0 : ((if 0 > a then 0 else a) : Int) = a) (h1 : ((if 65536 < a then 65536 else a) : Int) = 65536) (h2 : (decide ((a : Int) < 0)) = false) (h3 : (decide ((a : Int) > 65536)) = true) : OK cfg (.fn 3 []) [(i6 a), (.sl 3 (p_ 60) m)] (hA C S X []) (.bool true) (hA C S X [d_, d_, c1 [(.sl 0 none 0), (i6 65536), (i6 0)], d_, d_, d_]) :=
  ok_fn' hmix (n := 40) (os := (.c :: .c :: .r (.ptr (p_ 61)) (hA C S X [p10b4, d_]) :: .c :: .c :: .r (.agg [(.sl 1 none 0), (i6 65536), (i6 0)]) (hA C S X [p10b4, d_, p10b5, d_]) :: cc 3 (.l (.exit 0) (us 114) (hA C S X [d_, d_, p10b5, d_, d_]) :: .r (.bool true) (hA C S X [d_, d_, p10b5, d_, d_, d_]) :: .c :: []))) (by kernel_rfl) (a_ r_ (a_ (OK.pad (lw_hi_q_1 S X C D hC hR a m q hl h0 h1)) (a_ r_ (a_ (OK.pad (lw_hi_q_2 S X C D hC hR a m q hl h2 h3)) (a_ r_ (a_ r_ (a_ (LOK.at (rd := none) (rd1 := none) (st1 := ((i6 a) :: (.sl 3 (p_ 60) m) :: t_ :: t_ :: (.bool false) :: (.ptr (p_ 61)) :: (.ptr (p_ 65)) :: (i6 0) :: t_ :: t_ :: t_ :: t_ :: t_ :: t_ :: t_ :: t_ :: (i6 a) :: (.ptr (p_ 61)) :: (i6 a) :: (.agg [(.sl 1 none 0), (i6 65536), (i6 0)]) :: t_ :: t_ :: t_ :: t_ :: t_ :: t_ :: t_ :: t_ :: t_ :: t_ :: t_ :: t_ :: t_ :: t_ :: t_ :: t_ :: t_ :: t_ :: t_ :: t_ :: t_ :: t_ :: t_ :: t_ :: t_ :: t_ :: t_ :: t_ :: t_ :: t_ :: t_ :: t_ :: t_ :: t_ :: t_ :: t_ :: t_ :: t_ :: t_ :: t_ :: t_ :: t_ :: t_ :: t_ :: t_ :: t_ :: t_ :: t_ :: t_ :: t_ :: t_ :: t_ :: t_ :: t_ :: t_ :: t_ :: t_ :: t_ :: t_ :: t_ :: t_ :: t_ :: t_ :: t_ :: t_ :: t_ :: t_ :: t_ :: t_ :: [t_, t_, t_, t_, t_, t_, t_, t_, t_, t_, t_, t_, t_, t_, t_, t_, t_, t_, t_, t_, t_, t_, t_, t_, t_])) (st1' := (us 114)) hl (pr 0 61 (p_ 65 :: p_ 61 :: [])) (pr 0 61 (none :: none :: [])) [] (hA C S X [p10b4, d_, p10b5, d_, p10b3]) (hA C S X [d_, d_, p10b5, d_, d_]) True.intro (by kernel_rfl) (by kernel_rfl) (embA0 hC hR (sg_id (n := 61) (by kernel_rfl)) ⟨⟨65, [(.sl 1 none 0), (i6 65536), (i6 0)], rfl, rfl, VEL.P⟩, ⟨⟨61, [(.sl 0 none 0), (i6 65536), (i6 0), (i6 0), (i6 0)], rfl, rfl, VEL.P⟩, trivial⟩⟩) (.us 61 (by kernel_rfl) (by kernel_rfl) ⟨.inl rfl, (.us 3 (by kernel_rfl) (by kernel_rfl) ⟨.inl rfl, trivial⟩)⟩) (.c .q (.c VE.R (.c .q (.c .q (.c .q (.c VE.R (.c VE.R (.c VE.R (VEL.qs (by kernel_rfl)))))))))) VEL.R) (a_ (OK.pad (live_ok (hA C S X [d_, d_, p10b5, d_, d_]))) (a_ r_ (Eq.refl (((.bool true) : V), ((hA C S X [d_, d_, p10b5, d_, d_, d_]) : Heap))))))))))))

theorem ln_hi_q_1 (a : Int) (q : Nat) (h0 : ((if 0 > a then 0 else a) : Int) = a) (h1 : ((if 65536 < a then 65536 else a) : Int) = 65536) : OK cfg (.fn 6 []) [(i6 a)] [] (.ptr (p_ 0)) [p10b4] :=
  ok_fn' hmix (n := 40) (os := (.c :: .c :: .v (i6 a) :: .v (i6 65536) :: cc 3 ([]))) (by kernel_rfl) (a_ r_ (a_ (fix_int (k := .i64) (H := []) h0) (a_ (fix_int (k := .i64) (H := []) h1) (a_ r_ (Eq.refl (((.ptr (p_ 0)) : V), ([p10b4] : Heap)))))))

theorem ln_hi_q_2 (a : Int) (q : Nat) (h0 : (decide ((a : Int) < 0)) = false) (h1 : (decide ((a : Int) > 65536)) = true) : OK cfg (.fn 7 []) [(i6 a)] [p10b4, d_] (.agg [(.sl 1 none 0), (i6 65536), (i6 0)]) [p10b4, d_, p10b5] :=
  ok_fn' hmix (n := 40) (os := (cc 3 (.f :: .c :: .c :: .t :: cc 4 ([])))) (by kernel_rfl) (a_ r_ (a_ r_ (a_ h0 (a_ r_ (a_ h1 (a_ r_ (a_ r_ (Eq.refl (((.agg [(.sl 1 none 0), (i6 65536), (i6 0)]) : V), ([p10b4, d_, p10b5] : Heap))))))))))

theorem ln_hi (a : Int) (q : Nat) (h0 : ((if 0 > a then 0 else a) : Int) = a) (h1 : ((if 65536 < a then 65536 else a) : Int) = 65536) (h2 : (decide ((a : Int) < 0)) = false) (h3 : (decide ((a : Int) > 65536)) = true) : OK cfg (.fn 3 []) [(i6 a), (.sl 3 none 0)] [] (.bool true) [c1 [(.sl 0 none 0), (i6 65536), (i6 0), (i6 0), (i6 0)], d_, c1 [(.sl 0 none 0), (i6 65536), (i6 0)], d_, c1 [(.sl 1 none 0), (i6 65536), (i6 0)], d_] :=
  ok_fn' hmix (n := 40) (os := (.c :: .c :: .r (.ptr (p_ 0)) [p10b4, d_] :: .c :: .c :: .r (.agg [(.sl 1 none 0), (i6 65536), (i6 0)]) [p10b4, d_, p10b5, d_] :: cc 3 (.a :: cc 9 (.r (.bool true) [p10b4, d_, p10b5, d_, p10b3, d_] :: .c :: [])))) (by kernel_rfl) (a_ r_ (a_ (OK.pad (ln_hi_q_1 a q h0 h1)) (a_ r_ (a_ (OK.pad (ln_hi_q_2 a q h2 h3)) (a_ r_ (a_ r_ (a_ r_ (a_ (OK.pad (live_ok [p10b4, d_, p10b5, d_, p10b3])) (a_ r_ (Eq.refl (((.bool true) : V), ([p10b4, d_, p10b5, d_, p10b3, d_] : Heap))))))))))))

theorem lv_hi_q_1 (a : Int) (q : Nat) (h0 : ((if 0 > a then 0 else a) : Int) = a) (h1 : ((if 65536 < a then 65536 else a) : Int) = 65536) : OK cfg (.fn 6 []) [(i6 a)] [.void] (.ptr (p_ 1)) [.void, p10b4] :=
  ok_fn' hmix (n := 40) (os := (.c :: .c :: .v (i6 a) :: .v (i6 65536) :: cc 3 ([]))) (by kernel_rfl) (a_ r_ (a_ (fix_int (k := .i64) (H := [.void]) h0) (a_ (fix_int (k := .i64) (H := [.void]) h1) (a_ r_ (Eq.refl (((.ptr (p_ 1)) : V), ([.void, p10b4] : Heap)))))))

theorem lv_hi_q_2 (a : Int) (q : Nat) (h0 : (decide ((a : Int) < 0)) = false) (h1 : (decide ((a : Int) > 65536)) = true) : OK cfg (.fn 7 []) [(i6 a)] [.void, p10b4, d_] (.agg [(.sl 1 none 0), (i6 65536), (i6 0)]) [.void, p10b4, d_, p10b5] :=
  ok_fn' hmix (n := 40) (os := (cc 3 (.f :: .c :: .c :: .t :: cc 4 ([])))) (by kernel_rfl) (a_ r_ (a_ r_ (a_ h0 (a_ r_ (a_ h1 (a_ r_ (a_ r_ (Eq.refl (((.agg [(.sl 1 none 0), (i6 65536), (i6 0)]) : V), ([.void, p10b4, d_, p10b5] : Heap))))))))))

noncomputable abbrev p10h9 : Heap := [.void, p10b4, d_, p10b5, d_, p10b3, d_]
theorem lv_hi (a : Int) (q : Nat) (h0 : ((if 0 > a then 0 else a) : Int) = a) (h1 : ((if 65536 < a then 65536 else a) : Int) = 65536) (h2 : (decide ((a : Int) < 0)) = false) (h3 : (decide ((a : Int) > 65536)) = true) : OK cfg (.fn 3 []) [(i6 a), (.sl 3 (p_ 0) 0)] [.void] (.bool true) [.void, c1 [(.sl 0 none 0), (i6 65536), (i6 0), (i6 0), (i6 0)], d_, c1 [(.sl 0 none 0), (i6 65536), (i6 0)], d_, c1 [(.sl 1 none 0), (i6 65536), (i6 0)], d_] :=
  ok_fn' hmix (n := 40) (os := (.c :: .c :: .r (.ptr (p_ 1)) [.void, p10b4, d_] :: .c :: .c :: .r (.agg [(.sl 1 none 0), (i6 65536), (i6 0)]) [.void, p10b4, d_, p10b5, d_] :: cc 3 (.a :: cc 9 (.r (.bool true) p10h9 :: .c :: [])))) (by kernel_rfl) (a_ r_ (a_ (OK.pad (lv_hi_q_1 a q h0 h1)) (a_ r_ (a_ (OK.pad (lv_hi_q_2 a q h2 h3)) (a_ r_ (a_ r_ (a_ r_ (a_ (OK.pad (live_ok [.void, p10b4, d_, p10b5, d_, p10b3])) (a_ r_ (Eq.refl (((.bool true) : V), (p10h9 : Heap))))))))))))

noncomputable abbrev p10b6 (q : Nat) : Blk := c1 [(.sl 1 none 0), (n6 q), (i6 0)]
noncomputable abbrev p10b7 (q : Nat) : Blk := c1 [(.sl 0 none 0), (n6 q), (i6 0), (i6 0), (i6 0)]
theorem lw_md_q_1 (S : List WT) (X : List V) (C : Nat → List V) (D : Nat → List Int) (hC : ∀ k, plains (C k) = true) (hR : HR S X 60) (a : Int) (m q : Nat) (hl : LOK cfg none (lb 3 0) (u_ :: (.sl 3 (p_ 60) m) :: u_ :: u_ :: u_ :: (.ptr (p_ 62)) :: (.ptr (p_ 61)) :: (i6 0) :: us 106) (hA C S X [(p10b6 q), (p10b7 q)]) (.exit 0) (us 114) (hA C S X [d_, d_])) (h0 : ((if 0 > ((q : Nat) : Int) then 0 else ((q : Nat) : Int)) : Int) = ((q : Nat) : Int)) (h1 : ((if 65536 < ((q : Nat) : Int) then 65536 else ((q : Nat) : Int)) : Int) = ((q : Nat) : Int)) : OK cfg (.fn 6 []) [(n6 q)] (hA C S X []) (.ptr (p_ 61)) (hA C S X [(p10b7 q)]) :=
  ok_fn' hmix (n := 40) (os := (.c :: .c :: .v (n6 q) :: .v (n6 q) :: cc 3 ([]))) (by kernel_rfl) (a_ r_ (a_ (fix_int (k := .i64) (H := (hA C S X [])) h0) (a_ (fix_int (k := .i64) (H := (hA C S X [])) h1) (a_ r_ (Eq.refl (((.ptr (p_ 61)) : V), ((hA C S X [(p10b7 q)]) : Heap)))))))

theorem lw_md (S : List WT) (X : List V) (C : Nat → List V) (D : Nat → List Int) (hC : ∀ k, plains (C k) = true) (hR : HR S X 60) (a : Int) (m q : Nat) (hl : LOK cfg none (lb 3 0) (u_ :: (.sl 3 (p_ 60) m) :: u_ :: u_ :: u_ :: (.ptr (p_ 62)) :: (.ptr (p_ 61)) :: (i6 0) :: us 106) (hA C S X [c1 [(.sl 1 none 0), (n6 q), (i6 0)], c1 [(.sl 0 none 0), (n6 q), (i6 0), (i6 0), (i6 0)]]) (.exit 0) (us 114) (hA C S X [d_, d_])) (h0 : ((if 0 > ((q : Nat) : Int) then 0 else ((q : Nat) : Int)) : Int) = ((q : Nat) : Int)) (h1 : ((if 65536 < ((q : Nat) : Int) then 65536 else ((q : Nat) : Int)) : Int) = ((q : Nat) : Int)) (h2 : (decide ((((q : Nat) : Int) : Int) < 0)) = false) (h3 : (decide ((((q : Nat) : Int) : Int) > 65536)) = false) : OK cfg (.fn 3 []) [(n6 q), (.sl 3 (p_ 60) m)] (hA C S X []) (.bool true) (hA C S X [d_, d_, d_, d_, d_]) :=
  ok_fn' hmix (n := 40) (os := (.c :: .c :: .r (.ptr (p_ 61)) (hA C S X [(p10b7 q), d_]) :: .c :: .c :: .r (.agg [(.sl 1 none 0), (n6 q), (i6 0)]) (hA C S X [(p10b7 q), d_, d_]) :: cc 3 (.l (.exit 0) (us 114) (hA C S X [d_, d_, d_, d_]) :: .r (.bool true) (hA C S X [d_, d_, d_, d_, d_]) :: .c :: []))) (by kernel_rfl) (a_ r_ (a_ (OK.pad (lw_md_q_1 S X C D hC hR a m q hl h0 h1)) (a_ r_ (a_ (OK.pad (OK.rd (fv1 := (.fn 7 [])) (args1 := [(n6 q)]) (v1 := (.agg [(.sl 1 none 0), (n6 q), (i6 0)])) (rnew' q h2 h3) [] [] (hA C S X [(p10b7 q), d_]) (by kernel_rfl) (by kernel_rfl) (by kernel_rfl) trivial VE.R VEL.P VE.R)) (a_ r_ (a_ r_ (a_ (LOK.at (rd := none) (rd1 := none) (st1 := ((n6 q) :: (.sl 3 (p_ 60) m) :: t_ :: t_ :: (.bool false) :: (.ptr (p_ 61)) :: (.ptr (p_ 64)) :: (i6 0) :: t_ :: t_ :: t_ :: t_ :: t_ :: t_ :: t_ :: t_ :: (n6 q) :: (.ptr (p_ 61)) :: (n6 q) :: (.agg [(.sl 1 none 0), (n6 q), (i6 0)]) :: t_ :: t_ :: t_ :: t_ :: t_ :: t_ :: t_ :: t_ :: t_ :: t_ :: t_ :: t_ :: t_ :: t_ :: t_ :: t_ :: t_ :: t_ :: t_ :: t_ :: t_ :: t_ :: t_ :: t_ :: t_ :: t_ :: t_ :: t_ :: t_ :: t_ :: t_ :: t_ :: t_ :: t_ :: t_ :: t_ :: t_ :: t_ :: t_ :: t_ :: t_ :: t_ :: t_ :: t_ :: t_ :: t_ :: t_ :: t_ :: t_ :: t_ :: t_ :: t_ :: t_ :: t_ :: t_ :: t_ :: t_ :: t_ :: t_ :: t_ :: t_ :: t_ :: t_ :: t_ :: t_ :: t_ :: t_ :: t_ :: t_ :: [t_, t_, t_, t_, t_, t_, t_, t_, t_, t_, t_, t_, t_, t_, t_, t_, t_, t_, t_, t_, t_, t_, t_, t_, t_])) (st1' := (us 114)) hl (pr 0 61 (p_ 64 :: p_ 61 :: [])) (pr 0 61 (none :: none :: [])) [] (hA C S X [(p10b7 q), d_, d_, (p10b6 q)]) (hA C S X [d_, d_, d_, d_]) True.intro (by kernel_rfl) (by kernel_rfl) (embA0 hC hR (sg_id (n := 61) (by kernel_rfl)) ⟨⟨64, [(.sl 1 none 0), (n6 q), (i6 0)], rfl, rfl, VEL.P⟩, ⟨⟨61, [(.sl 0 none 0), (n6 q), (i6 0), (i6 0), (i6 0)], rfl, rfl, VEL.P⟩, trivial⟩⟩) (.us 61 (by kernel_rfl) (by kernel_rfl) ⟨.inl rfl, (.us 2 (by kernel_rfl) (by kernel_rfl) ⟨.inl rfl, trivial⟩)⟩) (.c .q (.c VE.R (.c .q (.c .q (.c .q (.c VE.R (.c VE.R (.c VE.R (VEL.qs (by kernel_rfl)))))))))) VEL.R) (a_ (OK.pad (live_ok (hA C S X [d_, d_, d_, d_]))) (a_ r_ (Eq.refl (((.bool true) : V), ((hA C S X [d_, d_, d_, d_, d_]) : Heap))))))))))))

theorem ln_md_q_1 (a : Int) (q : Nat) (h0 : ((if 0 > ((q : Nat) : Int) then 0 else ((q : Nat) : Int)) : Int) = ((q : Nat) : Int)) (h1 : ((if 65536 < ((q : Nat) : Int) then 65536 else ((q : Nat) : Int)) : Int) = ((q : Nat) : Int)) : OK cfg (.fn 6 []) [(n6 q)] [] (.ptr (p_ 0)) [(p10b7 q)] :=
  ok_fn' hmix (n := 40) (os := (.c :: .c :: .v (n6 q) :: .v (n6 q) :: cc 3 ([]))) (by kernel_rfl) (a_ r_ (a_ (fix_int (k := .i64) (H := []) h0) (a_ (fix_int (k := .i64) (H := []) h1) (a_ r_ (Eq.refl (((.ptr (p_ 0)) : V), ([(p10b7 q)] : Heap)))))))

theorem ln_md (a : Int) (q : Nat) (h0 : ((if 0 > ((q : Nat) : Int) then 0 else ((q : Nat) : Int)) : Int) = ((q : Nat) : Int)) (h1 : ((if 65536 < ((q : Nat) : Int) then 65536 else ((q : Nat) : Int)) : Int) = ((q : Nat) : Int)) (h2 : (decide ((((q : Nat) : Int) : Int) < 0)) = false) (h3 : (decide ((((q : Nat) : Int) : Int) > 65536)) = false) : OK cfg (.fn 3 []) [(n6 q), (.sl 3 none 0)] [] (.bool true) [c1 [(.sl 0 none 0), (n6 q), (i6 0), (i6 0), (i6 0)], d_, d_, c1 [(.sl 1 none 0), (n6 q), (i6 0)], d_] :=
  ok_fn' hmix (n := 40) (os := (.c :: .c :: .r (.ptr (p_ 0)) [(p10b7 q), d_] :: .c :: .c :: .r (.agg [(.sl 1 none 0), (n6 q), (i6 0)]) [(p10b7 q), d_, d_] :: cc 3 (.a :: cc 9 (.r (.bool true) [(p10b7 q), d_, d_, (p10b6 q), d_] :: .c :: [])))) (by kernel_rfl) (a_ r_ (a_ (OK.pad (ln_md_q_1 a q h0 h1)) (a_ r_ (a_ (OK.pad (OK.rd (fv1 := (.fn 7 [])) (args1 := [(n6 q)]) (v1 := (.agg [(.sl 1 none 0), (n6 q), (i6 0)])) (rnew' q h2 h3) [] [] [(p10b7 q), d_] (by kernel_rfl) (by kernel_rfl) (by kernel_rfl) trivial VE.R VEL.P VE.R)) (a_ r_ (a_ r_ (a_ r_ (a_ (OK.pad (live_ok [(p10b7 q), d_, d_, (p10b6 q)])) (a_ r_ (Eq.refl (((.bool true) : V), ([(p10b7 q), d_, d_, (p10b6 q), d_] : Heap))))))))))))

theorem lv_md_q_1 (a : Int) (q : Nat) (h0 : ((if 0 > ((q : Nat) : Int) then 0 else ((q : Nat) : Int)) : Int) = ((q : Nat) : Int)) (h1 : ((if 65536 < ((q : Nat) : Int) then 65536 else ((q : Nat) : Int)) : Int) = ((q : Nat) : Int)) : OK cfg (.fn 6 []) [(n6 q)] [.void] (.ptr (p_ 1)) [.void, (p10b7 q)] :=
  ok_fn' hmix (n := 40) (os := (.c :: .c :: .v (n6 q) :: .v (n6 q) :: cc 3 ([]))) (by kernel_rfl) (a_ r_ (a_ (fix_int (k := .i64) (H := [.void]) h0) (a_ (fix_int (k := .i64) (H := [.void]) h1) (a_ r_ (Eq.refl (((.ptr (p_ 1)) : V), ([.void, (p10b7 q)] : Heap)))))))

theorem lv_md (a : Int) (q : Nat) (h0 : ((if 0 > ((q : Nat) : Int) then 0 else ((q : Nat) : Int)) : Int) = ((q : Nat) : Int)) (h1 : ((if 65536 < ((q : Nat) : Int) then 65536 else ((q : Nat) : Int)) : Int) = ((q : Nat) : Int)) (h2 : (decide ((((q : Nat) : Int) : Int) < 0)) = false) (h3 : (decide ((((q : Nat) : Int) : Int) > 65536)) = false) : OK cfg (.fn 3 []) [(n6 q), (.sl 3 (p_ 0) 0)] [.void] (.bool true) [.void, c1 [(.sl 0 none 0), (n6 q), (i6 0), (i6 0), (i6 0)], d_, d_, c1 [(.sl 1 none 0), (n6 q), (i6 0)], d_] :=
  ok_fn' hmix (n := 40) (os := (.c :: .c :: .r (.ptr (p_ 1)) [.void, (p10b7 q), d_] :: .c :: .c :: .r (.agg [(.sl 1 none 0), (n6 q), (i6 0)]) [.void, (p10b7 q), d_, d_] :: cc 3 (.a :: cc 9 (.r (.bool true) [.void, (p10b7 q), d_, d_, (p10b6 q), d_] :: .c :: [])))) (by kernel_rfl) (a_ r_ (a_ (OK.pad (lv_md_q_1 a q h0 h1)) (a_ r_ (a_ (OK.pad (OK.rd (fv1 := (.fn 7 [])) (args1 := [(n6 q)]) (v1 := (.agg [(.sl 1 none 0), (n6 q), (i6 0)])) (rnew' q h2 h3) [] [] [.void, (p10b7 q), d_] (by kernel_rfl) (by kernel_rfl) (by kernel_rfl) trivial VE.R VEL.P VE.R)) (a_ r_ (a_ r_ (a_ r_ (a_ (OK.pad (live_ok [.void, (p10b7 q), d_, d_, (p10b6 q)])) (a_ r_ (Eq.refl (((.bool true) : V), ([.void, (p10b7 q), d_, d_, (p10b6 q), d_] : Heap))))))))))))

theorem p_d (C : Nat → List V) (rows : List (List V)) (hC : ∀ k, plains (C k) = true) (hu : ∀ i r, 60 ≤ i → rows[i]? = some r → r = List.replicate (esOf Try.prog 30) V.undef) (ht : ∀ i r, i < 60 → rows[i]? = some r → TypedF (([] : Heap) ++ AA C 60 rows.flatten) (0 + i * nsl (leavesN Try.prog 4 30)) (leavesN Try.prog 4 30) r) (a : Int) :
    ∃ H', OK cfg (.fn 3 []) [.int .i64 a, .sl 3 (p_ 60) rows.length] (AA C 60 rows.flatten) (.bool true) H' := by
  obtain ⟨S, X, D, e1, e2, hR, hr⟩ := rows_of2 C rows hu ht
  rw [e1]
  by_cases h0 : a < 0
  · have hl := (plays S X C D hC hR rows.length 0 e2 (by omega) hr S.length 0 (by omega)).1 0 (by omega)
    exact ⟨_, lw_lo S X C D hC hR a rows.length 0 hl (by split <;> omega) (decide_eq_true (by omega))⟩
  by_cases h1 : a > 65536
  · have hl := (plays S X C D hC hR rows.length 65536 e2 (by omega) hr S.length 0 (by omega)).1 0 (by omega)
    exact ⟨_, lw_hi S X C D hC hR a rows.length 0 hl (by split <;> omega) (by split <;> omega) (decide_eq_false (by omega)) (decide_eq_true (by omega))⟩
  · obtain ⟨q, rfl⟩ : ∃ q : Nat, a = ((q : Nat) : Int) := ⟨a.toNat, by omega⟩
    have hl := (plays S X C D hC hR rows.length q e2 (by omega) hr S.length 0 (by omega)).1 0 (by omega)
    exact ⟨_, lw_md S X C D hC hR 0 rows.length q hl (by split <;> omega) (by split <;> omega) (decide_eq_false (by omega)) (decide_eq_false (by omega))⟩
theorem x_n (a : Int) : ∃ H', OK cfg (.fn 3 []) [.int .i64 a, .sl 3 none 0] [] (.bool true) H' := by
  by_cases h0 : a < 0
  · exact ⟨_, ln_lo a 0 (by split <;> omega) (decide_eq_true (by omega))⟩
  by_cases h1 : a > 65536
  · exact ⟨_, ln_hi a 0 (by split <;> omega) (by split <;> omega) (decide_eq_false (by omega)) (decide_eq_true (by omega))⟩
  · obtain ⟨q, rfl⟩ : ∃ q : Nat, a = ((q : Nat) : Int) := ⟨a.toNat, by omega⟩
    exact ⟨_, ln_md 0 q (by split <;> omega) (by split <;> omega) (decide_eq_false (by omega)) (decide_eq_false (by omega))⟩
theorem x_v (a : Int) : ∃ H', OK cfg (.fn 3 []) [.int .i64 a, .sl 3 (p_ 0) 0] [.void] (.bool true) H' := by
  by_cases h0 : a < 0
  · exact ⟨_, lv_lo a 0 (by split <;> omega) (decide_eq_true (by omega))⟩
  by_cases h1 : a > 65536
  · exact ⟨_, lv_hi a 0 (by split <;> omega) (by split <;> omega) (decide_eq_false (by omega)) (decide_eq_true (by omega))⟩
  · obtain ⟨q, rfl⟩ : ∃ q : Nat, a = ((q : Nat) : Int) := ⟨a.toNat, by omega⟩
    exact ⟨_, lv_md 0 q (by split <;> omega) (by split <;> omega) (decide_eq_false (by omega)) (decide_eq_false (by omega))⟩
end Go.Proofs.Ytfhjdnekidhjnaa.fifo
namespace Go.Proofs.Ytfhjdnekidhjnaa.fifoPlays
open Go Go.Vm
noncomputable abbrev cfg : Cfg := fifo.cfg
theorem law_n (a : Int) (wx : (Lit.int .i64 a).wf = true) : ∃ H', OK cfg (.fn 3 []) [.int .i64 a, .sl (esOf Try.prog 30) none 0] [] (.bool true) H' := by
  rw [fifo.es_eq]
  exact fifo.x_n a
theorem law_v (a : Int) (wx : (Lit.int .i64 a).wf = true) : ∃ H', OK cfg (.fn 3 []) [.int .i64 a, .sl (esOf Try.prog 30) (p_ 0) 0] [.void] (.bool true) H' := by
  rw [fifo.es_eq]
  exact fifo.x_v a
theorem law_d (a : Int) (wx : (Lit.int .i64 a).wf = true) (C : Nat → List V) (rows : List (List V)) (hC : ∀ k, plains (C k) = true) (hl : ∀ r ∈ rows, r.length = esOf Try.prog 30) (hu : ∀ i r, 60 ≤ i → rows[i]? = some r → r = List.replicate (esOf Try.prog 30) V.undef) (ht : ∀ i r, i < 60 → rows[i]? = some r → TypedF ([] ++ AA C (60 * nsl (leavesN Try.prog 4 30)) rows.flatten) (([] : Heap).length + i * nsl (leavesN Try.prog 4 30)) (leavesN Try.prog 4 30) r) :
    ∃ H', OK cfg (.fn 3 []) [.int .i64 a, .sl (esOf Try.prog 30) (some (([] : Heap).length + 60 * nsl (leavesN Try.prog 4 30), 0)) rows.length] ([] ++ AA C (60 * nsl (leavesN Try.prog 4 30)) rows.flatten) (.bool true) H' := by
  have := fifo.p_d C rows hC hu (fun i r hi hr => by
    have h := ht i r hi hr
    rw [fifo.aa_len] at h
    exact h) a
  rw [fifo.aa_len, fifo.es_eq]
  exact this

end Go.Proofs.Ytfhjdnekidhjnaa.fifoPlays
