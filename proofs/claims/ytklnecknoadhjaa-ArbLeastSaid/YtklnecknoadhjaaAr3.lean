/-
  Who is left behind a round: loops as wholes.
-/
import Derived.Test.YtklnecknoadhjaaAr2
set_option linter.unusedVariables false
set_option linter.unusedSimpArgs false
set_option maxRecDepth 100000
namespace Go.Proofs.Ytklnecknoadhjaa.arb
open Go Go.Vm

/-- Is a place given up in a round? -/
def dl (S : List FT) (k : Nat) (low x : Int) : Bool := decide (bitV (rI S x) k > low)
/-- Places that stay. -/
def stay (S : List FT) (k : Nat) (low : Int) (N : List Int) : List Int := N.filter (fun x => !dl S k low x)
/-- Places of frames that may be. -/
def Pl (S : List FT) (m : Nat) (N : List Int) : Prop := ∀ x ∈ N, 0 ≤ x ∧ x < (m : Int) ∧ cF (gF S x.toNat) = 0
theorem getD_mem0 {N : List Int} {j : Nat} (h : j < N.length) : N.getD (0 + (j * 1)) 0 ∈ N := by
  rw [show 0 + j * 1 = j by omega]
  simp [List.getD_eq_getElem?_getD, List.getElem?_eq_getElem h]
theorem getD_0 {N : List Int} {j : Nat} : N.getD (0 + (j * 1)) 0 = N.getD j 0 := by rw [show 0 + j * 1 = j by omega]
theorem first (p : Nat → Bool) : ∀ n, (∀ j, j < n → p j = false) ∨ ∃ i, i < n ∧ p i = true ∧ ∀ j, j < i → p j = false
  | 0 => .inl fun j h => by omega
  | n + 1 => by
    rcases first p n with h | ⟨i, h1, h2, h3⟩
    · cases e : p n with
      | false =>
        refine .inl fun j hj => ?_
        by_cases hj' : j = n
        · rw [hj']; exact e
        · exact h j (by omega)
      | true => exact .inr ⟨n, by omega, e, h⟩
    · exact .inr ⟨i, by omega, h2, h3⟩
theorem take_set_succ {W : List Int} {i : Nat} (a : Int) (h : i < W.length) : (W.set i a).take (i + 1) = W.take i ++ [a] := by
  rw [List.take_add_one, List.getElem?_set_self h]
  congr 1
  exact List.take_set_of_le (Nat.le_refl i)
theorem ix_all (S : List FT) (m k : Nat) (low : Int) (hm : m ≤ S.length) (hk : k < 12) (N : List Int) (hb : N.length ≤ 1000) (hN : Pl S m N) (i : Nat) (hi : i < N.length) (hy : dl S k low (N.getD i 0) = true) : ∀ (d j : Nat), j + d = i → (∀ j', j ≤ j' → j' < i → dl S k low (N.getD j' 0) = false) → LOK cfg none (lb 46 0) ((.sl 1 (some (0, 0)) N.length) :: (.fn 43 [(.ptr (some (2, 0))), (.ptr (some (3, 0))), (.ptr (some (4, 0)))]) :: u_ :: u_ :: u_ :: u_ :: u_ :: (i6 ((N.length : Nat) : Int)) :: (i6 ((j : Nat) : Int)) :: us 10) [.cells true ((N).map (V.int .i64)), fb S, c1 [(.sl 11 (some (1, 0)) m)], c1 [(i6 ((k : Nat) : Int))], c1 [(i6 low)]] .ret (u_ :: u_ :: u_ :: u_ :: (i6 ((i : Nat) : Int)) :: us 14) [.cells true ((N).map (V.int .i64)), fb S, c1 [(.sl 11 (some (1, 0)) m)], c1 [(i6 ((k : Nat) : Int))], c1 [(i6 low)]] := by
  intro d
  induction d with
  | zero =>
    intro j hj hn
    have : j = i := by omega
    subst this
    obtain ⟨vB1, vB2, vC⟩ := hN _ (getD_mem0 hi)
    have vB := And.intro vB1 vB2
    have vL : ((N.getD (0 + (j * 1)) 0)).toNat < S.length := by omega
    have hp : decide (bitV (rI S (N.getD (0 + (j * 1)) 0)) k > low) = true := by rw [getD_0]; exact hy
    exact ix_f S m k low N 0 j 0 (decide_eq_true (by omega)) (by omega) (by omega) vB vL vC (by omega) hp
  | succ d IH =>
    intro j hj hn
    have hj' : j < N.length := by omega
    obtain ⟨vB1, vB2, vC⟩ := hN _ (getD_mem0 hj')
    have vB := And.intro vB1 vB2
    have vL : ((N.getD (0 + (j * 1)) 0)).toNat < S.length := by omega
    have hp : decide (bitV (rI S (N.getD (0 + (j * 1)) 0)) k > low) = false := by rw [getD_0]; exact hn j (by omega) (by omega)
    exact ix_s S m k low N 0 j i (decide_eq_true (by omega)) (by omega) (by omega) vB vL vC (by omega) hp ((wrap_i64 (by omega)).trans (by omega)) (IH (j + 1) (by omega) (fun j' a b => hn j' (by omega) b))
theorem iy_all (S : List FT) (m k : Nat) (low : Int) (hm : m ≤ S.length) (hk : k < 12) (N : List Int) (hb : N.length ≤ 1000) (hN : Pl S m N) (hy : ∀ j, j < N.length → dl S k low (N.getD j 0) = false) : ∀ (d j : Nat), j + d = N.length → LOK cfg none (lb 46 0) ((.sl 1 (some (0, 0)) N.length) :: (.fn 43 [(.ptr (some (2, 0))), (.ptr (some (3, 0))), (.ptr (some (4, 0)))]) :: u_ :: u_ :: u_ :: u_ :: u_ :: (i6 ((N.length : Nat) : Int)) :: (i6 ((j : Nat) : Int)) :: us 10) [.cells true ((N).map (V.int .i64)), fb S, c1 [(.sl 11 (some (1, 0)) m)], c1 [(i6 ((k : Nat) : Int))], c1 [(i6 low)]] (.exit 0) (us 19) [.cells true ((N).map (V.int .i64)), fb S, c1 [(.sl 11 (some (1, 0)) m)], c1 [(i6 ((k : Nat) : Int))], c1 [(i6 low)]] := by
  intro d
  induction d with
  | zero =>
    intro j hj
    exact iy_x S m k low N 0 j 0 (decide_eq_false (by omega))
  | succ d IH =>
    intro j hj
    have hj' : j < N.length := by omega
    obtain ⟨vB1, vB2, vC⟩ := hN _ (getD_mem0 hj')
    have vB := And.intro vB1 vB2
    have vL : ((N.getD (0 + (j * 1)) 0)).toNat < S.length := by omega
    have hp : decide (bitV (rI S (N.getD (0 + (j * 1)) 0)) k > low) = false := by rw [getD_0]; exact hy j hj'
    exact iy_s S m k low N 0 j 0 (decide_eq_true (by omega)) (by omega) (by omega) vB vL vC (by omega) hp ((wrap_i64 (by omega)).trans (by omega)) (IH (j + 1) (by omega))
theorem df_all (S : List FT) (m k : Nat) (low : Int) (hm : m ≤ S.length) (hk : k < 12) (N : List Int) (hb : N.length ≤ 1000) (hN : Pl S m N) : ∀ (d i j : Nat) (W : List Int), j + d = N.length → i < j → W.length = N.length → W.drop j = N.drop j → W.take i = stay S k low (N.take j) → ∃ (Z : List Int) (e : Nat), Z.length = N.length ∧ e ≤ N.length ∧ Z.take e = stay S k low N ∧ LOK cfg none (lb 42 0) ((.sl 1 (some (0, 0)) N.length) :: (.fn 43 [(.ptr (some (2, 0))), (.ptr (some (3, 0))), (.ptr (some (4, 0)))]) :: u_ :: u_ :: u_ :: (i6 ((i : Nat) : Int)) :: (i6 ((j : Nat) : Int)) :: us 35) [.cells true ((W).map (V.int .i64)), fb S, c1 [(.sl 11 (some (1, 0)) m)], c1 [(i6 ((k : Nat) : Int))], c1 [(i6 low)]] (.exit 0) ((.sl 1 (some (0, 0)) N.length) :: u_ :: u_ :: u_ :: u_ :: (i6 ((e : Nat) : Int)) :: us 36) [.cells true ((Z).map (V.int .i64)), fb S, c1 [(.sl 11 (some (1, 0)) m)], c1 [(i6 ((k : Nat) : Int))], c1 [(i6 low)]] := by
  intro d
  induction d with
  | zero =>
    intro i j W hj hi hl hd ht
    refine ⟨W, i, hl, by omega, ?_, df_x S m k low N W [] i j 0 (decide_eq_false (by omega))⟩
    rw [ht, List.take_of_length_le (by omega)]
  | succ d IH =>
    intro i j W hj hi hl hd ht
    have hj' : j < N.length := by omega
    have vG : W.getD (0 + (j * 1)) 0 = W.getD j 0 := getD_0
    have vW : W.getD j 0 = N.getD j 0 := by
      have := congrArg (fun l => l.getD 0 0) hd
      simpa [List.getD_eq_getElem?_getD] using this
    have vg : W.getD (0 + (j * 1)) 0 = N.getD (0 + (j * 1)) 0 := by rw [vG, vW, getD_0]
    obtain ⟨vB1, vB2, vC⟩ := hN _ (getD_mem0 hj')
    rw [← vg] at vB1 vB2 vC
    have vB := And.intro vB1 vB2
    have vL : ((W.getD (0 + (j * 1)) 0)).toNat < S.length := by omega
    have hd2 : W.drop (j + 1) = N.drop (j + 1) := by
      have := congrArg (fun l => l.drop 1) hd
      simpa [List.drop_drop] using this
    have et : N.take (j + 1) = N.take j ++ [N.getD j 0] := by
      rw [List.take_add_one]
      simp [List.getD_eq_getElem?_getD, List.getElem?_eq_getElem hj']
    cases he : dl S k low (N.getD j 0) with
    | true =>
      have hp : (!decide (bitV (rI S (W.getD (0 + (j * 1)) 0)) k > low)) = false := by rw [vG, vW]; exact congrArg (! ·) he
      obtain ⟨Z, e, z1, z2, z3, K⟩ := IH i (j + 1) W (by omega) (by omega) hl hd2 (by
        rw [ht, et]
        unfold stay
        rw [List.filter_append]
        simp only [List.filter_cons, he, List.filter_nil]
        simp)
      exact ⟨Z, e, z1, z2, z3, df_d S m k low N W Z i j e (decide_eq_true (by omega)) (by omega) (by omega) vB vL vC (by omega) hp ((wrap_i64 (by omega)).trans (by omega)) K⟩
    | false =>
      have hp : (!decide (bitV (rI S (W.getD (0 + (j * 1)) 0)) k > low)) = true := by rw [vG, vW]; exact congrArg (! ·) he
      obtain ⟨Z, e, z1, z2, z3, K⟩ := IH (i + 1) (j + 1) (W.set i (W.getD j 0)) (by omega) (by omega) (by simpa using hl) (by
        rw [List.drop_set_of_lt (by omega)]
        exact hd2) (by
        rw [take_set_succ _ (by omega), ht, et, vW]
        unfold stay
        rw [List.filter_append]
        simp only [List.filter_cons, he, List.filter_nil]
        simp)
      exact ⟨Z, e, z1, z2, z3, df_k S m k low N W Z i j e (decide_eq_true (by omega)) (by omega) (by omega) vB vL vC (by omega) hp (by omega) (by simp; omega) (by rw [vG, show 0 + i * 1 = i by omega]; exact setR_ints _ _ _) ((wrap_i64 (by omega)).trans (by omega)) ((wrap_i64 (by omega)).trans (by omega)) K⟩
theorem del_ok (S : List FT) (m k : Nat) (low : Int) (hm : m ≤ S.length) (hk : k < 12) (N : List Int) (hb : N.length ≤ 1000) (hN : Pl S m N) : OK cfg (.fn 42 []) [.sl 1 (some (0, 0)) N.length, (.fn 43 [(.ptr (some (2, 0))), (.ptr (some (3, 0))), (.ptr (some (4, 0)))])] [.cells true ((N).map (V.int .i64)), fb S, c1 [(.sl 11 (some (1, 0)) m)], c1 [(i6 ((k : Nat) : Int))], c1 [(i6 low)]] (.sl 1 (some (0, 0)) (stay S k low N).length) [.cells true (((stay S k low N)).map (V.int .i64)), fb S, c1 [(.sl 11 (some (1, 0)) m)], c1 [(i6 ((k : Nat) : Int))], c1 [(i6 low)], d_] := by
  rcases first (fun j => dl S k low (N.getD j 0)) N.length with h | ⟨i, hi, hy, hn⟩
  · have e : stay S k low N = N := by
      unfold stay
      rw [List.filter_eq_self]
      intro x hx
      obtain ⟨j, hj, rfl⟩ := List.getElem_of_mem hx
      have := h j hj
      simp only [List.getD_eq_getElem?_getD, List.getElem?_eq_getElem hj, Option.getD_some] at this
      rw [this]
      rfl
    rw [e]
    exact de_n S m k low N [] 0 0 (iy_all S m k low hm hk N hb hN h N.length 0 (by omega))
  · have hs : stay S k low (N.take (i + 1)) = N.take i := by
      have et : N.take (i + 1) = N.take i ++ [N.getD i 0] := by
        rw [List.take_add_one]
        simp [List.getD_eq_getElem?_getD, List.getElem?_eq_getElem hi]
      rw [et]
      unfold stay
      rw [List.filter_append, List.filter_eq_self.2]
      · have hy : dl S k low (N.getD i 0) = true := hy
        simp only [List.filter_cons, hy, List.filter_nil]
        simp
      · intro x hx
        obtain ⟨j, hj, rfl⟩ := List.getElem_of_mem hx
        rw [List.length_take] at hj
        have := hn j (by omega)
        simp only [List.getD_eq_getElem?_getD, List.getElem?_eq_getElem (show j < N.length by omega), Option.getD_some] at this
        rw [List.getElem_take, this]
        rfl
    obtain ⟨Z, e, z1, z2, z3, K⟩ := df_all S m k low hm hk N hb hN (N.length - (i + 1)) i (i + 1) N (by omega) (by omega) rfl rfl hs.symm
    have hl : (stay S k low N).length = e := by rw [← z3]; simp; omega
    have E : setR (Z.map (V.int .i64)) (0 + (e * 1)) (rep (N.length - e) [(i6 0)]) = (stay S k low N).map (V.int .i64) ++ rep (N.length - e) [(i6 0)] := by
      rw [← z3, show 0 + e * 1 = e by omega, setR_eq (by rw [rep_length]; simp; omega), List.map_take, List.drop_eq_nil_of_le (by rw [rep_length]; simp; omega), List.append_nil]
    have KK := de_y S m k low N Z i e (ix_all S m k low hm hk N hb hN i hi hy i 0 (by omega) (fun j' _ b => hn j' b)) K (beq_eq_false_iff_ne.2 (by omega)) ((wrap_i64 (by omega)).trans (by omega)) (by omega) ⟨by rw [rep_length]; simp; omega, ones_rep rfl _⟩ (by omega)
    rw [E] at KK
    rw [hl]
    exact KK.trim (b := 0) rfl

end Go.Proofs.Ytklnecknoadhjaa.arb
