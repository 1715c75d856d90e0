/-
  Tables whose keys rise, of any order: plain lists.
-/
import Derived.Test.YtoglhcgcfdcmfaaVm44
set_option linter.unusedVariables false
set_option linter.unusedSimpArgs false
namespace Go.Rows
/-- An order of keys. -/
structure KeyOrd {K : Type} (lt : K → K → Bool) : Prop where
  irr : ∀ a, lt a a = false
  trans : ∀ {a b c}, lt a b = true → lt b c = true → lt a c = true
  tri : ∀ {a b}, lt a b = false → lt b a = false → a = b
theorem KeyOrd.asym {K : Type} {lt : K → K → Bool} (O : KeyOrd lt) {a b : K} (h : lt a b = true) : lt b a = false := by
  cases e : lt b a with
  | false => rfl
  | true => exact absurd (O.trans h e) (by simp [O.irr])
theorem KeyOrd.ne {K : Type} {lt : K → K → Bool} (O : KeyOrd lt) {a b : K} (h : lt a b = true) : a ≠ b := by
  rintro rfl
  simp [O.irr] at h
variable {K : Type} {lt : K → K → Bool} (O : KeyOrd lt) (d : K × Int)
/-- Keys rise. -/
def Srt (lt : K → K → Bool) (L : List (K × Int)) : Prop := L.Pairwise fun a b => lt a.1 b.1 = true
/-- The place of a key. -/
def pl (lt : K → K → Bool) : List (K × Int) → K → Nat
  | [], _ => 0
  | r :: L, k => if lt r.1 k = true then pl lt L k + 1 else 0
/-- Is there a row of a key? -/
def hasL (lt : K → K → Bool) (L : List (K × Int)) (k : K) : Bool := match L[pl lt L k]? with
  | some r => !(lt r.1 k) && !(lt k r.1)
  | none => false
def valL (lt : K → K → Bool) (L : List (K × Int)) (k : K) : Int := match L[pl lt L k]? with
  | some r => if !(lt r.1 k) && !(lt k r.1) then r.2 else 0
  | none => 0
def putL (lt : K → K → Bool) (L : List (K × Int)) (k : K) (v : Int) : List (K × Int) := L.filter (fun r => lt r.1 k) ++ (k, v) :: L.filter (fun r => lt k r.1)
theorem pl_le (L : List (K × Int)) (k : K) : pl lt L k ≤ L.length := by
  induction L with
  | nil => simp [pl]
  | cons r L ih => unfold pl; split <;> simp <;> omega
theorem pl_of {L : List (K × Int)} {k : K} : ∀ {i : Nat}, (∀ j, j < i → lt (L.getD j d).1 k = true) → i ≤ L.length → (i < L.length → lt (L.getD i d).1 k = false) → pl lt L k = i := by
  induction L with
  | nil => intro i h1 h2 h3; simp at h2; simp [pl, h2]
  | cons r L ih =>
    intro i h1 h2 h3
    cases i with
    | zero =>
      have := h3 (by simp)
      simp at this
      simp [pl, this]
    | succ i =>
      have h0 := h1 0 (by omega)
      simp at h0
      rw [pl, if_pos h0, ih (i := i) (fun j hj => by have := h1 (j + 1) (by omega); simpa using this) (by simp at h2; omega) (fun hi => by have := h3 (by simp; omega); simpa using this)]
theorem srt_get {L : List (K × Int)} (h : Srt lt L) {i j : Nat} (hij : i < j) (hj : j < L.length) : lt (L.getD i d).1 (L.getD j d).1 = true := by
  have := (List.pairwise_iff_getElem.1 h) i j (by omega) hj hij
  simp only [List.getD_eq_getElem?_getD, List.getElem?_eq_getElem (show i < L.length by omega), List.getElem?_eq_getElem hj, Option.getD_some]
  exact this
theorem pl_spec (O : KeyOrd lt) {L : List (K × Int)} (h : Srt lt L) (k : K) : L.take (pl lt L k) = L.filter (fun r => lt r.1 k) ∧ L.drop (pl lt L k) = L.filter (fun r => !(lt r.1 k)) := by
  induction L with
  | nil => simp [pl]
  | cons r L ih =>
    obtain ⟨h1, h2⟩ := List.pairwise_cons.1 h
    obtain ⟨i1, i2⟩ := ih h2
    unfold pl
    cases hr : lt r.1 k with
    | true =>
      rw [if_pos rfl]
      simp only [List.take_succ_cons, List.drop_succ_cons, List.filter_cons, hr, if_true, i1, i2]
      simp
    | false =>
      rw [if_neg (by simp)]
      have hx : ∀ a ∈ L, lt a.1 k = false := fun a ha => by
        cases e : lt a.1 k with
        | false => rfl
        | true => rw [O.trans (h1 a ha) e] at hr; cases hr
      simp only [List.take_zero, List.drop_zero, List.filter_cons, hr]
      constructor
      · symm
        simp only [Bool.false_eq_true, if_false]
        rw [List.filter_eq_nil_iff]
        intro a ha
        simp [hx a ha]
      · simp only [Bool.not_false, if_true]
        congr 1
        symm
        rw [List.filter_eq_self]
        intro a ha
        simp [hx a ha]
theorem srt_put (O : KeyOrd lt) {L : List (K × Int)} (h : Srt lt L) (k : K) (v : Int) : Srt lt (putL lt L k v) := by
  unfold putL Srt
  rw [List.pairwise_append, List.pairwise_cons]
  refine ⟨List.Pairwise.filter _ h, ⟨fun a ha => (List.mem_filter.1 ha).2, List.Pairwise.filter _ h⟩, fun a ha b hb => ?_⟩
  have h1 : lt a.1 k = true := (List.mem_filter.1 ha).2
  rcases List.mem_cons.1 hb with rfl | hb
  · exact h1
  · exact O.trans h1 (List.mem_filter.1 hb).2
theorem at_pl {L : List (K × Int)} {k : K} (h : pl lt L k < L.length) : L[pl lt L k]? = some (L.getD (pl lt L k) d) := by
  simp only [List.getD_eq_getElem?_getD, List.getElem?_eq_getElem h, Option.getD_some]
theorem has_iff (O : KeyOrd lt) {L : List (K × Int)} {k : K} : hasL lt L k = true ↔ pl lt L k < L.length ∧ (L.getD (pl lt L k) d).1 = k := by
  unfold hasL
  by_cases h : pl lt L k < L.length
  · rw [at_pl d h]
    constructor
    · intro e
      simp only [Bool.and_eq_true, Bool.not_eq_true'] at e
      exact ⟨h, O.tri e.1 e.2⟩
    · rintro ⟨_, e⟩
      simp only [e, O.irr]
      rfl
  · rw [List.getElem?_eq_none (by omega)]
    constructor
    · intro e; cases e
    · rintro ⟨e, _⟩; exact absurd e h
theorem val_has (O : KeyOrd lt) {L : List (K × Int)} {k : K} (h : hasL lt L k = true) : valL lt L k = (L.getD (pl lt L k) d).2 := by
  obtain ⟨h1, h2⟩ := (has_iff d O).1 h
  unfold valL
  rw [at_pl d h1]
  simp only [h2, O.irr]
  rfl
theorem val_no {L : List (K × Int)} {k : K} (h : hasL lt L k = false) : valL lt L k = 0 := by
  unfold hasL at h
  unfold valL
  cases e : L[pl lt L k]? with
  | none => rfl
  | some r =>
    rw [e] at h
    simp only at h ⊢
    rw [h]
    rfl
theorem has_mem (O : KeyOrd lt) {L : List (K × Int)} (h : Srt lt L) {k : K} : hasL lt L k = true ↔ ∃ r ∈ L, r.1 = k := by
  cases L with
  | nil => simp [hasL]
  | cons q L0 =>
    constructor
    · intro e
      obtain ⟨h1, h2⟩ := (has_iff q O).1 e
      exact ⟨_, Go.Vm.getD_mem h1, h2⟩
    · rintro ⟨r, hr, rfl⟩
      have h2 := (pl_spec O h r.1).2
      have hm : r ∈ (q :: L0).drop (pl lt (q :: L0) r.1) := by rw [h2]; exact List.mem_filter.2 ⟨hr, by simp [O.irr]⟩
      have hl : pl lt (q :: L0) r.1 < (q :: L0).length := by
        rcases Nat.lt_or_ge (pl lt (q :: L0) r.1) (q :: L0).length with hl | hl
        · exact hl
        · rw [List.drop_eq_nil_of_le hl] at hm
          cases hm
      have e1 : (q :: L0).drop (pl lt (q :: L0) r.1) = (q :: L0).getD (pl lt (q :: L0) r.1) q :: (q :: L0).drop (pl lt (q :: L0) r.1 + 1) := by
        rw [List.drop_eq_getElem_cons hl]
        simp only [List.getD_eq_getElem?_getD, List.getElem?_eq_getElem hl, Option.getD_some]
      refine (has_iff q O).2 ⟨hl, ?_⟩
      have hs : Srt lt ((q :: L0).drop (pl lt (q :: L0) r.1)) := List.Pairwise.drop h
      have hg : lt ((q :: L0).getD (pl lt (q :: L0) r.1) q).1 r.1 = false := by
        have : (q :: L0).getD (pl lt (q :: L0) r.1) q ∈ (q :: L0).drop (pl lt (q :: L0) r.1) := by rw [e1]; simp
        rw [h2] at this
        simpa using (List.mem_filter.1 this).2
      rw [e1] at hs hm
      obtain ⟨h3, h4⟩ := List.pairwise_cons.1 hs
      rcases List.mem_cons.1 hm with hm | hm
      · rw [← hm]
      · rw [h3 r hm] at hg
        cases hg
theorem drop_pl {L : List (K × Int)} {k : K} (hl : pl lt L k < L.length) : L.drop (pl lt L k) = L.getD (pl lt L k) d :: L.drop (pl lt L k + 1) := by
  rw [List.drop_eq_getElem_cons hl]
  simp only [List.getD_eq_getElem?_getD, List.getElem?_eq_getElem hl, Option.getD_some]
theorem put_set (O : KeyOrd lt) {L : List (K × Int)} (h : Srt lt L) {k : K} (v : Int) (hk : hasL lt L k = true) : L.set (pl lt L k) (k, v) = putL lt L k v := by
  obtain ⟨h1, h2⟩ := pl_spec O h k
  obtain ⟨hl, he⟩ := (has_iff (k, v) O).1 hk
  rw [List.set_eq_take_append_cons_drop, if_pos hl, h1, putL]
  congr 2
  have e1 := drop_pl (k, v) hl
  rw [h2] at e1
  have hs : Srt lt (L.filter (fun r => !(lt r.1 k))) := List.Pairwise.filter _ h
  rw [e1] at hs
  obtain ⟨h3, h4⟩ := List.pairwise_cons.1 hs
  rw [he] at h3
  have e2 : L.filter (fun r => lt k r.1) = (L.filter (fun r => !(lt r.1 k))).filter (fun r => lt k r.1) := by
    rw [List.filter_filter]
    apply List.filter_congr
    intro a ha
    cases e : lt k a.1 with
    | false => simp
    | true => simp [O.asym e]
  rw [e2, e1, List.filter_cons, if_neg (by rw [he, O.irr]; simp)]
  symm
  rw [List.filter_eq_self]
  exact h3
theorem put_ins (O : KeyOrd lt) {L : List (K × Int)} (h : Srt lt L) {k : K} (v : Int) (hk : hasL lt L k = false) : L.take (pl lt L k) ++ [(k, v)] ++ L.drop (pl lt L k) = putL lt L k v := by
  obtain ⟨h1, h2⟩ := pl_spec O h k
  have h3 : ∀ r ∈ L, r.1 ≠ k := fun r hr e => by
    rw [(has_mem O h).2 ⟨r, hr, e⟩] at hk
    cases hk
  rw [h1, h2, putL]
  have : L.filter (fun r => !(lt r.1 k)) = L.filter (fun r => lt k r.1) := by
    apply List.filter_congr
    intro a ha
    cases e : lt a.1 k with
    | true => simp [O.asym e]
    | false =>
      cases e2 : lt k a.1 with
      | true => rfl
      | false => exact absurd (O.tri e e2) (h3 a ha)
  rw [this]
  simp
theorem mem_put (O : KeyOrd lt) {L : List (K × Int)} {k : K} {v : Int} {r : K × Int} : r ∈ putL lt L k v ↔ r = (k, v) ∨ (r ∈ L ∧ r.1 ≠ k) := by
  unfold putL
  rw [List.mem_append, List.mem_cons, List.mem_filter, List.mem_filter]
  constructor
  · rintro (⟨h1, h2⟩ | h | ⟨h1, h2⟩)
    · exact .inr ⟨h1, O.ne h2⟩
    · exact .inl h
    · exact .inr ⟨h1, fun e => O.ne h2 e.symm⟩
  · rintro (h | ⟨h1, h2⟩)
    · exact .inr (.inl h)
    · cases e : lt r.1 k with
      | true => exact .inl ⟨h1, rfl⟩
      | false =>
        cases e2 : lt k r.1 with
        | true => exact .inr (.inr ⟨h1, rfl⟩)
        | false => exact absurd (O.tri e e2) h2
theorem put_len (O : KeyOrd lt) (L : List (K × Int)) (k : K) (v : Int) : (putL lt L k v).length ≤ L.length + 1 := by
  unfold putL
  induction L with
  | nil => simp
  | cons r L ih =>
    simp only [List.filter_cons, List.length_append, List.length_cons] at ih ⊢
    cases e : lt r.1 k with
    | true => rw [O.asym e]; simp; omega
    | false =>
      cases lt k r.1 <;> simp <;> omega
/-- What is got of a key whose row stands in the table. -/
theorem get_mem (O : KeyOrd lt) {L : List (K × Int)} (h : Srt lt L) {k : K} {v : Int} (hm : (k, v) ∈ L) : hasL lt L k = true ∧ valL lt L k = v := by
  have hk : hasL lt L k = true := (has_mem O h).2 ⟨_, hm, rfl⟩
  refine ⟨hk, ?_⟩
  obtain ⟨h1, h2⟩ := (has_iff (k, v) O).1 hk
  rw [val_has (k, v) O hk]
  obtain ⟨j, hj, e⟩ := List.getElem_of_mem hm
  have ej : L.getD j (k, v) = (k, v) := by simp only [List.getD_eq_getElem?_getD, List.getElem?_eq_getElem hj, Option.getD_some, e]
  have : j = pl lt L k := by
    rcases Nat.lt_trichotomy j (pl lt L k) with hlt | heq | hgt
    · have := srt_get (k, v) h hlt h1
      rw [ej, h2, O.irr] at this
      cases this
    · exact heq
    · have := srt_get (k, v) h hgt hj
      rw [ej, h2, O.irr] at this
      cases this
  rw [← this, ej]
end Go.Rows
