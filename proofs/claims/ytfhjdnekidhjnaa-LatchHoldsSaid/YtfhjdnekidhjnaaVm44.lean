/-
  The machine: appends, copies and clears of as many things as are not told.
-/
import Derived.Test.YtfhjdnekidhjnaaVm43
set_option linter.unusedVariables false
set_option linter.unusedSimpArgs false
set_option linter.unusedVariables false
set_option linter.unusedSimpArgs false
namespace Go.Vm
theorem plain_one : ∀ {v : V}, v.plain = true → v.one = true
  | .int _ _, _ => rfl
  | .bool _, _ => rfl
  | .str _, _ => rfl
  | .ptr none, _ => rfl
  | .sl _ none _, _ => rfl
  | .nilFn, _ => rfl
  | .nilIface, _ => rfl
theorem plains_ones : ∀ {vs : List V}, plains vs = true → ones vs = true
  | [], _ => rfl
  | v :: vs, h => by
    simp only [plains, Bool.and_eq_true] at h
    simp only [ones, Bool.and_eq_true]
    exact ⟨plain_one h.1, plains_ones h.2⟩
theorem plains_of {vs : List V} (h : ∀ v ∈ vs, v.plain = true) : plains vs = true := by
  induction vs with
  | nil => rfl
  | cons v vs ih =>
    simp only [plains, Bool.and_eq_true]
    exact ⟨h v (by simp), ih fun x hx => h x (by simp [hx])⟩
theorem plains_mem : ∀ {vs : List V}, plains vs = true → ∀ v ∈ vs, v.plain = true
  | [], _, v, hv => by simp at hv
  | w :: vs, h, v, hv => by
    simp only [plains, Bool.and_eq_true] at h
    rcases List.mem_cons.1 hv with rfl | hv
    · exact h.1
    · exact plains_mem h.2 v hv
theorem plains_take {vs : List V} (h : plains vs = true) (n : Nat) : plains (vs.take n) = true := plains_of fun v hv => plains_mem h v (List.mem_of_mem_take hv)
theorem plains_drop {vs : List V} (h : plains vs = true) (n : Nat) : plains (vs.drop n) = true := plains_of fun v hv => plains_mem h v (List.mem_of_mem_drop hv)
theorem setR_len : ∀ (xs cs : List V) (o : Nat), (setR cs o xs).length = cs.length
  | [], _, _ => rfl
  | x :: xs, cs, o => by rw [setR, setR_len xs]; simp
theorem setR_get : ∀ (xs cs : List V) (o : Nat), o + xs.length ≤ cs.length → ∀ j, (setR cs o xs)[j]? = if o ≤ j ∧ j < o + xs.length then xs[j - o]? else cs[j]?
  | [], cs, o, h, j => by simp only [setR, List.length_nil]; rw [if_neg (by omega)]
  | x :: xs, cs, o, h, j => by
    simp only [List.length_cons] at h ⊢
    rw [setR, setR_get xs (cs.set o x) (o + 1) (by simp; omega) j]
    by_cases h1 : o + 1 ≤ j ∧ j < o + 1 + xs.length
    · rw [if_pos h1, if_pos (by omega), show j - o = (j - (o + 1)) + 1 by omega]
      simp
    · rw [if_neg h1]
      by_cases h2 : j = o
      · subst h2
        rw [if_pos (by omega), List.getElem?_set_self (by omega)]
        simp
      · rw [if_neg (by omega), List.getElem?_set_ne (by omega)]
theorem setR_eq {cs xs : List V} {o : Nat} (h : o + xs.length ≤ cs.length) : setR cs o xs = cs.take o ++ xs ++ cs.drop (o + xs.length) := by
  apply List.ext_getElem?
  intro j
  rw [setR_get xs cs o h j]
  have hl : (cs.take o).length = o := by rw [List.length_take]; omega
  by_cases h1 : j < o
  · rw [if_neg (by omega), List.append_assoc, List.getElem?_append_left (by omega), List.getElem?_take_of_lt h1]
  · by_cases h2 : j < o + xs.length
    · rw [if_pos (by omega), List.append_assoc, List.getElem?_append_right (by omega), List.getElem?_append_left (by omega), hl]
    · rw [if_neg (by omega), List.getElem?_append_right (by simp; omega), List.getElem?_drop]
      congr 1
      simp
      omega
theorem setsame {α : Type} {l : List α} {b : Nat} {x : α} (h : l[b]? = some x) : l.set b x = l := by
  apply List.ext_getElem?
  intro j
  by_cases hj : b = j
  · subst hj
    have := (List.getElem?_eq_some_iff.1 h).1
    rw [List.getElem?_set_self this, h]
  · rw [List.getElem?_set_ne hj]
/-- Things that find room are put behind others. -/
theorem app_room {e by_ n m b o : Nat} {H : Heap} {cs xs : List V} (hx : xs.length = m * e) (he : 0 < e) (hb : (n + m) * by_ ≤ 140737488355328 ∧ n + m ≤ 9223372036854775807 ∧ ones xs = true) (hr : o + n * e + m * e ≤ cs.length) (hH : H[b]? = some (.cells true cs)) :
    appH e by_ (some (b, o)) n m xs H = some (H.set b (.cells true (setR cs (o + n * e) xs)), some (b, o)) := by
  unfold appH
  by_cases hm : m = 0
  · subst hm
    have : xs = [] := List.eq_nil_of_length_eq_zero (by omega)
    subst this
    rw [if_pos rfl, setR, setsame hH]
  · have h1 : 0 < m * e := Nat.mul_pos (by omega) he
    rw [if_neg hm, if_pos hb]
    simp only [hH]
    rw [if_neg (by omega), if_pos (by omega)]
theorem put_room {b o : Nat} {H : Heap} {cs xs : List V} (hr : o + xs.length ≤ cs.length ∧ ones xs = true) (hH : H[b]? = some (.cells true cs)) : putS H (some (b, o)) xs = some (H.set b (.cells true (setR cs o xs))) := by
  unfold putS
  by_cases hx : xs.length = 0
  · have : xs = [] := List.eq_nil_of_length_eq_zero hx
    subst this
    rw [if_pos hx, setR, setsame hH]
  · rw [if_neg hx]
    simp only [putH, hH]
    rw [if_pos hr]
theorem k_zeros {e q n by_ b o : Nat} {m : Int} {H : Heap} {xs z : List V} (hs : e < 4294967296) (hp : 0 < e) (hr : rwAt H (some (b, o)) = true) (h : 0 < m ∧ q < n + m.toNat ∧ (n + m.toNat) * by_ ≤ 140737488355328 ∧ n + m.toNat ≤ 9223372036854775807) (hg : getS e H (some (b, o)) n = some xs) :
    (if (decide (8589934592 ≤ KES e q) && KES e q % 8589934592 == e && decide (0 < e) && decide (e < 4294967296) && rwAt H (some (b, o))) = true ∧ 0 < m ∧ capOf (KES e q) < n + m.toNat ∧ (n + m.toNat) * by_ ≤ 140737488355328 ∧ n + m.toNat ≤ 9223372036854775807 then
      (getS e H (some (b, o)) n).bind fun xs => some (V.sl e (some (H.length, 0)) (n + m.toNat), newH H (xs ++ rep m.toNat z)) else none) = some (V.sl e (some (H.length, 0)) (n + m.toNat), newH H (xs ++ rep m.toNat z)) := by
  rw [if_pos (by rw [KES_cap hs]; simp [KES_ge, KES_mod hs, hp, hs, hr]; omega), hg]
  rfl
/-- What is put into the midst of some cells. -/
def insV (S : List V) (o : Nat) (X : List V) : List V := S.take o ++ X ++ S.drop o
/-- Some cells without some in their midst. -/
def delV (S : List V) (o m : Nat) : List V := S.take o ++ S.drop (o + m)
theorem insV_plain {S X : List V} {o : Nat} (hS : plains S = true) (hX : plains X = true) : plains (insV S o X) = true :=
  plains_append (plains_append (plains_take hS _) hX) (plains_drop hS _)
theorem delV_plain {S : List V} {o m : Nat} (hS : plains S = true) : plains (delV S o m) = true :=
  plains_append (plains_take hS _) (plains_drop hS _)
/-- What is behind is moved, then the new is put there. -/
theorem ins_room {S X U : List V} {o : Nat} (ho : o ≤ S.length) (hU : U.length = X.length) : setR (setR (S ++ U) (o + X.length) (S.drop o)) o X = insV S o X := by
  have h1 : o + X.length + (S.drop o).length ≤ (S ++ U).length := by simp; omega
  rw [setR_eq (by rw [setR_len]; simp; omega), setR_eq h1]
  unfold insV
  have e1 : ((S ++ U).take (o + X.length)).length = o + X.length := by simp; omega
  have e2 : (S ++ U).drop (o + X.length + (S.drop o).length) = [] := List.drop_eq_nil_of_le (by simp; omega)
  rw [e2, List.append_nil, List.drop_append_of_le_length (by omega), List.take_append_of_le_length (by omega), List.take_take, Nat.min_eq_left (by omega), List.take_append_of_le_length ho, List.drop_eq_nil_of_le (show ((S ++ U).take (o + X.length)).length ≤ o + X.length by omega)]
  simp
theorem ins_new {S X Z : List V} {o : Nat} (ho : o ≤ S.length) (hZ : Z.length = X.length + (S.length - o)) : setR (setR (S.take o ++ Z) o X) (o + X.length) (S.drop o) = insV S o X := by
  have hl : (S.take o).length = o := by simp; omega
  have h1 : o + X.length ≤ (S.take o ++ Z).length := by simp; omega
  rw [setR_eq (by rw [setR_len]; simp; omega), setR_eq h1]
  unfold insV
  have e0 : (S.take o ++ Z).take o = S.take o := by rw [List.take_append_of_le_length (by omega), List.take_take, Nat.min_self]
  rw [e0]
  have e1 : (S.take o ++ X).length = o + X.length := by simp [hl]
  have e3 : (S.take o ++ X ++ (S.take o ++ Z).drop (o + X.length)).drop (o + X.length + (S.drop o).length) = [] := List.drop_eq_nil_of_le (by simp; omega)
  rw [e3, List.append_nil, List.take_append_of_le_length (by omega), List.take_of_length_le (by omega)]
theorem del_room {S : List V} {o m e : Nat} {Z : List V} (ho : o + e ≤ S.length) (hZ : Z.length = e) : ∃ R, setR (setR S o (S.drop (o + e))) (S.length - e) Z = delV S o e ++ R := by
  have h1 : o + (S.drop (o + e)).length ≤ S.length := by simp; omega
  have hl : (S.take o).length = o := by simp; omega
  rw [setR_eq (by rw [setR_len]; omega), setR_eq h1]
  refine ⟨Z, ?_⟩
  unfold delV
  have e1 : (S.take o ++ S.drop (o + e)).length = S.length - e := by simp; omega
  have e3 : (S.take o ++ S.drop (o + e) ++ S.drop (o + (S.drop (o + e)).length)).drop (S.length - e + Z.length) = [] := List.drop_eq_nil_of_le (by simp; omega)
  rw [e3, List.append_nil, List.take_append_of_le_length (by omega), List.take_of_length_le (by omega)]
end Go.Vm
namespace Go.Vm
theorem k_copy2 {e es es' n m k : Nat} {p q : Option (Nat × Nat)} {H H' : Heap} {xs : List V} (hk : min m n = k) (hp : 0 < e) (h1 : slE es e = true) (h2 : slE es' e = true) (hg : getS e H q k = some xs) (hs : putS H p xs = some H') :
    (if ((slE es e || p.isNone) && (slE es' e || q.isNone) && decide (0 < e)) = true then (getS e H q (min m n)).bind fun xs => (putS H p xs).bind fun H' => some (V.int .i64 (min m n : Nat), H') else none) = some (V.int .i64 (k : Nat), H') := by
  subst hk
  exact k_copy hp h1 h2 hg hs
end Go.Vm
namespace Go.Vm
theorem ones_rep {z : List V} (hz : ones z = true) (n : Nat) : ones (rep n z) = true := by
  induction n with
  | zero => rfl
  | succ n ih =>
    have er : rep (n + 1) z = z ++ rep n z := by simp [rep, List.replicate_succ]
    rw [er]
    have : ∀ (a b : List V), ones a = true → ones b = true → ones (a ++ b) = true := by
      intro a b ha hb
      induction a with
      | nil => exact hb
      | cons x a iha =>
        simp only [ones, Bool.and_eq_true] at ha
        simp only [List.cons_append, ones, Bool.and_eq_true]
        exact ⟨ha.1, iha ha.2⟩
    exact this _ _ hz ih
end Go.Vm
namespace Go.Vm
theorem VE.sl0 {q : Bool} {σ : Sig} {es b o n b' : Nat} (h : σ b = some (b', 0)) : VE q σ (.sl es (some (b, o)) n) (.sl es (some (b', o)) n) := by
  have := VE.sl (q := q) es b o n b' 0 h
  rwa [Nat.zero_add] at this
theorem VE.ptr0 {q : Bool} {σ : Sig} {b o b' : Nat} (h : σ b = some (b', 0)) : VE q σ (.ptr (some (b, o))) (.ptr (some (b', o))) := by
  have := VE.ptr (q := q) b o b' 0 h
  rwa [Nat.zero_add] at this
end Go.Vm
namespace Go.Vm
theorem ld_at_str {cs : List V} {o : Nat} {n : ByteArray} (h : cs[o]? = some (.str n)) : (((cs[o]?).bind asStr).bind fun n => some (V.str n)) = some (.str n) := by rw [h]; simp [asStr]
/-- The order of texts, byte by byte. -/
def ltS (a b : ByteArray) : Bool := Op.bytesLess a.toList b.toList
theorem bl_irr : ∀ (a : List UInt8), Op.bytesLess a a = false
  | [] => rfl
  | x :: a => by simp [Op.bytesLess, bl_irr a, UInt8.lt_irrefl]
theorem bl_tri : ∀ {a b : List UInt8}, Op.bytesLess a b = false → Op.bytesLess b a = false → a = b
  | [], [], _, _ => rfl
  | [], _ :: _, h, _ => by simp [Op.bytesLess] at h
  | _ :: _, [], _, h => by simp [Op.bytesLess] at h
  | x :: a, y :: b, h1, h2 => by
    simp only [Op.bytesLess, Bool.or_eq_false_iff, decide_eq_false_iff_not, Bool.and_eq_false_iff, beq_eq_false_iff_ne] at h1 h2
    have e : x = y := UInt8.le_antisymm (UInt8.not_lt.1 h2.1) (UInt8.not_lt.1 h1.1)
    subst e
    rw [bl_tri (h1.2.resolve_left fun h => h rfl) (h2.2.resolve_left fun h => h rfl)]
theorem bl_trans : ∀ {a b c : List UInt8}, Op.bytesLess a b = true → Op.bytesLess b c = true → Op.bytesLess a c = true
  | _, [], _, h, _ => by cases ‹List UInt8› <;> simp [Op.bytesLess] at h
  | _, _ :: _, [], _, h => by simp [Op.bytesLess] at h
  | [], _ :: _, _ :: _, _, _ => by simp [Op.bytesLess]
  | x :: a, y :: b, z :: c, h1, h2 => by
    simp only [Op.bytesLess, Bool.or_eq_true, decide_eq_true_eq, Bool.and_eq_true, beq_iff_eq] at h1 h2 ⊢
    rcases h1 with h1 | ⟨rfl, h1⟩
    · rcases h2 with h2 | ⟨rfl, h2⟩
      · exact .inl (UInt8.lt_trans h1 h2)
      · exact .inl h1
    · rcases h2 with h2 | ⟨rfl, h2⟩
      · exact .inl h2
      · exact .inr ⟨rfl, bl_trans h1 h2⟩
end Go.Vm
