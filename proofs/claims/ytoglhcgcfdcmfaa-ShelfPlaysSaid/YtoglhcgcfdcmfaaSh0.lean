/-
  Tables whose keys rise, and rows in no order: plain lists.
-/
import Derived.Test.YtoglhcgcfdcmfaaVm44
set_option linter.unusedVariables false
set_option linter.unusedSimpArgs false
namespace Go.Shelf
abbrev R2 := Int × Int
/-- Keys rise. -/
def Srt (L : List R2) : Prop := L.Pairwise fun a b => a.1 < b.1
/-- The place of a key. -/
def pl : List R2 → Int → Nat
  | [], _ => 0
  | r :: L, k => if r.1 < k then pl L k + 1 else 0
abbrev gR (L : List R2) (i : Nat) : R2 := L.getD i (0, 0)
def hasL (L : List R2) (k : Int) : Bool := decide (pl L k < L.length ∧ (gR L (pl L k)).1 = k)
def valL (L : List R2) (k : Int) : Int := if hasL L k = true then (gR L (pl L k)).2 else 0
def cutL (L : List R2) (k : Int) : List R2 := L.filter fun r => decide (r.1 ≠ k)
def putL (L : List R2) (k v : Int) : List R2 := L.filter (fun r => decide (r.1 < k)) ++ (k, v) :: L.filter (fun r => decide (k < r.1))
theorem pl_le (L : List R2) (k : Int) : pl L k ≤ L.length := by
  induction L with
  | nil => simp [pl]
  | cons r L ih => unfold pl; split <;> simp <;> omega
theorem pl_of {L : List R2} {k : Int} : ∀ {i : Nat}, (∀ j, j < i → (gR L j).1 < k) → i ≤ L.length → (i < L.length → ¬ (gR L i).1 < k) → pl L k = i := by
  induction L with
  | nil => intro i h1 h2 h3; simp at h2; simp [pl, h2]
  | cons r L ih =>
    intro i h1 h2 h3
    cases i with
    | zero =>
      have := h3 (by simp)
      simp [gR] at this
      simp [pl]
      omega
    | succ i =>
      have h0 := h1 0 (by omega)
      simp [gR] at h0
      rw [pl, if_pos h0, ih (i := i) (fun j hj => by have := h1 (j + 1) (by omega); simpa [gR] using this) (by simp at h2; omega) (fun hi => by have := h3 (by simp; omega); simpa [gR] using this)]
theorem srt_get {L : List R2} (h : Srt L) {i j : Nat} (hij : i < j) (hj : j < L.length) : (gR L i).1 < (gR L j).1 := by
  have := (List.pairwise_iff_getElem.1 h) i j (by omega) hj hij
  simp only [gR, List.getD_eq_getElem?_getD, List.getElem?_eq_getElem (show i < L.length by omega), List.getElem?_eq_getElem hj, Option.getD_some]
  exact this
theorem pl_spec {L : List R2} (h : Srt L) (k : Int) : L.take (pl L k) = L.filter (fun r => decide (r.1 < k)) ∧ L.drop (pl L k) = L.filter (fun r => decide (k ≤ r.1)) := by
  induction L with
  | nil => simp [pl]
  | cons r L ih =>
    obtain ⟨h1, h2⟩ := List.pairwise_cons.1 h
    obtain ⟨i1, i2⟩ := ih h2
    unfold pl
    by_cases hr : r.1 < k
    · rw [if_pos hr]
      simp only [List.take_succ_cons, List.drop_succ_cons, List.filter_cons, hr, decide_true, if_true, i1, i2]
      rw [if_neg (by simp; omega)]
      simp
    · rw [if_neg hr]
      simp only [List.take_zero, List.drop_zero, List.filter_cons]
      rw [if_neg (by simp; omega), if_pos (by simp; omega)]
      constructor
      · symm
        rw [List.filter_eq_nil_iff]
        intro a ha
        have := h1 a ha
        simp
        omega
      · congr 1
        symm
        rw [List.filter_eq_self]
        intro a ha
        have := h1 a ha
        simp
        omega
theorem srt_filter {L : List R2} (h : Srt L) (p : R2 → Bool) : Srt (L.filter p) := List.Pairwise.filter p h
theorem srt_cut {L : List R2} (h : Srt L) (k : Int) : Srt (cutL L k) := srt_filter h _
theorem srt_put {L : List R2} (h : Srt L) (k v : Int) : Srt (putL L k v) := by
  unfold putL Srt
  rw [List.pairwise_append, List.pairwise_cons]
  refine ⟨srt_filter h _, ⟨fun a ha => ?_, srt_filter h _⟩, fun a ha b hb => ?_⟩
  · simpa using (List.mem_filter.1 ha).2
  · have h1 : a.1 < k := by simpa using (List.mem_filter.1 ha).2
    rcases List.mem_cons.1 hb with rfl | hb
    · exact h1
    · have h2 : k < b.1 := by simpa using (List.mem_filter.1 hb).2
      omega
theorem drop_has {L : List R2} (h : Srt L) {k : Int} (hk : hasL L k = true) : L.drop (pl L k) = gR L (pl L k) :: L.drop (pl L k + 1) ∧ L.drop (pl L k + 1) = L.filter (fun r => decide (k < r.1)) := by
  simp only [hasL, decide_eq_true_eq] at hk
  have e1 : L.drop (pl L k) = gR L (pl L k) :: L.drop (pl L k + 1) := by
    rw [List.drop_eq_getElem_cons hk.1]
    simp [gR, List.getD_eq_getElem?_getD, List.getElem?_eq_getElem hk.1]
  refine ⟨e1, ?_⟩
  have h2 := (pl_spec h k).2
  rw [e1] at h2
  have hs : Srt (L.drop (pl L k)) := List.Pairwise.drop h
  rw [e1] at hs
  obtain ⟨h3, h4⟩ := List.pairwise_cons.1 hs
  have e2 : L.filter (fun r => decide (k < r.1)) = (L.filter (fun r => decide (k ≤ r.1))).filter (fun r => decide (k < r.1)) := by
    rw [List.filter_filter]
    congr 1
    funext r
    simp
    omega
  rw [e2, ← h2, List.filter_cons, if_neg (by rw [decide_eq_true_eq, hk.2]; omega)]
  symm
  rw [List.filter_eq_self]
  intro a ha
  have := h3 a ha
  simp
  omega
theorem filter_hasnt {L : List R2} (h : Srt L) {k : Int} (hk : hasL L k = false) : ∀ r ∈ L, r.1 ≠ k := by
  intro r hr e
  have h2 := (pl_spec h k).2
  have hm : r ∈ L.drop (pl L k) := by rw [h2]; exact List.mem_filter.2 ⟨hr, by simp; omega⟩
  have hl : pl L k < L.length := by
    rcases Nat.lt_or_ge (pl L k) L.length with hl | hl
    · exact hl
    · rw [List.drop_eq_nil_of_le hl] at hm
      cases hm
  have e1 : L.drop (pl L k) = gR L (pl L k) :: L.drop (pl L k + 1) := by
    rw [List.drop_eq_getElem_cons hl]
    simp [gR, List.getD_eq_getElem?_getD, List.getElem?_eq_getElem hl]
  have hg : gR L (pl L k) ∈ L.drop (pl L k) := by rw [e1]; simp
  rw [h2] at hg
  have hg2 : k ≤ (gR L (pl L k)).1 := by simpa using (List.mem_filter.1 hg).2
  have hs : Srt (L.drop (pl L k)) := List.Pairwise.drop h
  rw [e1] at hs hm
  obtain ⟨h3, h4⟩ := List.pairwise_cons.1 hs
  simp only [hasL, decide_eq_false_iff_not] at hk
  rcases List.mem_cons.1 hm with hm | hm
  · exact hk ⟨hl, by rw [← hm]; exact e⟩
  · have := h3 r hm
    omega
theorem put_set {L : List R2} (h : Srt L) {k : Int} (v : Int) (hk : hasL L k = true) : L.set (pl L k) (k, v) = putL L k v := by
  obtain ⟨h1, h2⟩ := pl_spec h k
  obtain ⟨h3, h4⟩ := drop_has h hk
  have hl : pl L k < L.length := by simp only [hasL, decide_eq_true_eq] at hk; exact hk.1
  rw [List.set_eq_take_append_cons_drop, if_pos hl, h1, h4]
  rfl
theorem put_ins {L : List R2} (h : Srt L) {k : Int} (v : Int) (hk : hasL L k = false) : L.take (pl L k) ++ [(k, v)] ++ L.drop (pl L k) = putL L k v := by
  obtain ⟨h1, h2⟩ := pl_spec h k
  have h3 := filter_hasnt h hk
  rw [h1, h2, putL]
  have : L.filter (fun r => decide (k ≤ r.1)) = L.filter (fun r => decide (k < r.1)) := by
    apply List.filter_congr
    intro a ha
    have := h3 a ha
    simp
    omega
  rw [this]
  simp
theorem cut_del {L : List R2} (h : Srt L) {k : Int} (hk : hasL L k = true) : L.take (pl L k) ++ L.drop (pl L k + 1) = cutL L k := by
  obtain ⟨h1, h2⟩ := pl_spec h k
  obtain ⟨h3, h4⟩ := drop_has h hk
  conv => rhs; rw [cutL, ← List.take_append_drop (pl L k) L]
  rw [List.filter_append, h3, List.filter_cons, if_neg (by simp only [hasL, decide_eq_true_eq] at hk; rw [decide_eq_true_eq]; exact fun h => h hk.2)]
  congr 1
  · symm
    rw [List.filter_eq_self, h1]
    intro a ha
    have : a.1 < k := by simpa using (List.mem_filter.1 ha).2
    simp
    omega
  · symm
    rw [List.filter_eq_self, h4]
    intro a ha
    have : k < a.1 := by simpa using (List.mem_filter.1 ha).2
    simp
    omega
theorem cut_same {L : List R2} (h : Srt L) {k : Int} (hk : hasL L k = false) : cutL L k = L := by
  rw [cutL, List.filter_eq_self]
  intro a ha
  simpa using filter_hasnt h hk a ha
/-- The first thing of a key. -/
def lookL : List R2 → Int → Int × Bool
  | [], _ => (0, false)
  | r :: L, k => if r.1 = k then (r.2, true) else lookL L k
theorem look_mem {L : List R2} {k : Int} (h : (lookL L k).2 = true) : (k, (lookL L k).1) ∈ L := by
  induction L with
  | nil => simp [lookL] at h
  | cons r L ih =>
    unfold lookL at h ⊢
    split at h
    · rename_i e
      rw [if_pos e, ← e]
      simp
    · rename_i e
      rw [if_neg e]
      exact List.mem_cons_of_mem _ (ih h)
theorem look_of {L : List R2} (hd : L.Pairwise fun a b => a.1 ≠ b.1) {k v : Int} (h : (k, v) ∈ L) : lookL L k = (v, true) := by
  induction L with
  | nil => cases h
  | cons r L ih =>
    obtain ⟨h1, h2⟩ := List.pairwise_cons.1 hd
    unfold lookL
    rcases List.mem_cons.1 h with h | h
    · subst h
      simp
    · rw [if_neg (h1 _ h), ih h2 h]
theorem look_no {L : List R2} {k : Int} (h : ∀ r ∈ L, r.1 ≠ k) : lookL L k = (0, false) := by
  induction L with
  | nil => rfl
  | cons r L ih =>
    unfold lookL
    rw [if_neg (h r (by simp)), ih fun a ha => h a (by simp [ha])]
/-- The table has the rows. -/
def Inv (L r : List R2) : Prop := Srt L ∧ L.Perm r
theorem Inv.keys {L r : List R2} (h : Inv L r) : r.Pairwise fun a b => a.1 ≠ b.1 := by
  have h1 : L.Pairwise fun a b => a.1 ≠ b.1 := List.Pairwise.imp (fun hab => by omega) h.1
  exact (List.Perm.pairwise_iff (fun hab => Ne.symm hab) h.2).1 h1
theorem Inv.lookL {L r : List R2} (h : Inv L r) (k : Int) : lookL r k = (valL L k, hasL L k) := by
  cases hk : hasL L k with
  | true =>
    have h1 : hasL L k = true := hk
    simp only [hasL, decide_eq_true_eq] at hk
    have hm : (k, (gR L (pl L k)).2) ∈ L := by
      have : gR L (pl L k) ∈ L := Go.Vm.getD_mem hk.1
      rw [show (k, (gR L (pl L k)).2) = gR L (pl L k) from Prod.ext hk.2.symm rfl]
      exact this
    rw [look_of h.keys (h.2.mem_iff.1 hm), valL, if_pos h1]
  | false =>
    rw [look_no fun a ha => filter_hasnt h.1 hk a (h.2.mem_iff.2 ha), valL, hk]
    simp
theorem Inv.cut {L r : List R2} (h : Inv L r) (k : Int) : Inv (cutL L k) (cutL r k) := ⟨srt_cut h.1 k, h.2.filter _⟩
theorem put_perm {L : List R2} (k v : Int) : (putL L k v).Perm (cutL L k ++ [(k, v)]) := by
  unfold putL
  refine List.perm_middle.trans ?_
  refine (List.Perm.cons _ ?_).trans (List.perm_append_singleton _ _).symm
  unfold cutL
  induction L with
  | nil => exact .nil
  | cons r L ih =>
    simp only [List.filter_cons]
    by_cases h1 : r.1 < k
    · rw [if_pos (by simpa using h1), if_neg (by simp; omega), if_pos (by simp; omega)]
      exact ih.cons r
    · by_cases h2 : k < r.1
      · rw [if_neg (by simpa using h1), if_pos (by simpa using h2), if_pos (by simp; omega)]
        exact List.perm_middle.trans (ih.cons r)
      · rw [if_neg (by simpa using h1), if_neg (by simpa using h2), if_neg (by simp; omega)]
        exact ih
theorem Inv.put {L r : List R2} (h : Inv L r) (k v : Int) : Inv (putL L k v) (cutL r k ++ [(k, v)]) :=
  ⟨srt_put h.1 k v, (put_perm k v).trans (List.Perm.append_right _ (h.2.filter _))⟩
theorem Inv.nil : Inv [] [] := ⟨List.Pairwise.nil, .nil⟩
theorem put_len (L : List R2) (k v : Int) : (putL L k v).length ≤ L.length + 1 := by
  have h1 := (put_perm (L := L) k v).length_eq
  have h2 : (cutL L k).length ≤ L.length := List.length_filter_le _ _
  simp at h1
  omega
theorem cut_len (L : List R2) (k : Int) : (cutL L k).length ≤ L.length := List.length_filter_le _ _
end Go.Shelf
