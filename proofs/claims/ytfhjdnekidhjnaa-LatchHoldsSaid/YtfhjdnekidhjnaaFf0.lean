/-
  Rings of places: plain lists.
-/
import Derived.Test.YtfhjdnekidhjnaaVm44
set_option linter.unusedVariables false
set_option linter.unusedSimpArgs false
namespace Go.Ring
/-- A queue: its ring, the place of the first thing, how many there are, how many were lost. -/
structure Q where
  R : List Int
  f : Nat
  n : Nat
  lost : Int
/-- The thing at a place. -/
abbrev Q.at (s : Q) (i : Nat) : Int := s.R.getD ((s.f + i) % s.R.length) 0
/-- What a queue has. -/
def Q.list (s : Q) : List Int := (List.range s.n).map s.at
/-- A ring into which so many things are laid. -/
def cp (s : Q) (W : List Int) : Nat → List Int
  | 0 => W
  | j + 1 => (cp s W j).set j (s.at j)
/-- Room for one more. -/
def Q.grow (s : Q) (q : Nat) : Q := if s.n < s.R.length then s else { s with R := cp s (List.replicate (min (2 * s.R.length + 1) q) 0) s.n, f := 0 }
/-- One more thing. -/
def Q.put (s : Q) (q : Nat) (x : Int) : Q := if s.n = q then { s with lost := s.lost + 1 } else { R := (s.grow q).R.set (((s.grow q).f + s.n) % (s.grow q).R.length) x, f := (s.grow q).f, n := s.n + 1, lost := s.lost }
/-- The first thing goes. -/
def Q.take (s : Q) : Q := { R := s.R.set s.f 0, f := (s.f + 1) % s.R.length, n := s.n - 1, lost := s.lost }
/-- A queue that may be. -/
structure Q.Ok (s : Q) (q : Nat) : Prop where
  n : s.n ≤ s.R.length
  f : s.R.length = 0 ∧ s.f = 0 ∨ s.f < s.R.length
  ql : s.n ≤ q
  r : s.R.length ≤ q
theorem cp_len (s : Q) (W : List Int) : ∀ j, (cp s W j).length = W.length
  | 0 => rfl
  | j + 1 => by simp [cp, cp_len s W j]
theorem cp_get (s : Q) (W : List Int) : ∀ (j i : Nat), j ≤ W.length → (cp s W j).getD i 0 = if i < j then s.at i else W.getD i 0
  | 0, i, _ => by simp [cp]
  | j + 1, i, h => by
    unfold cp
    by_cases h1 : i = j
    · subst h1
      rw [if_pos (by omega)]
      simp [List.getD_eq_getElem?_getD, List.getElem?_set_self (show i < (cp s W i).length by rw [cp_len]; omega)]
    · have := cp_get s W j i (by omega)
      simp only [List.getD_eq_getElem?_getD] at this ⊢
      rw [List.getElem?_set_ne (by omega), this]
      by_cases h2 : i < j
      · rw [if_pos h2, if_pos (by omega)]
      · rw [if_neg h2, if_neg (by omega)]
theorem grow_room {s : Q} {q : Nat} (h : s.Ok q) (hq : s.n < q) : s.n < (s.grow q).R.length := by
  unfold Q.grow
  split
  · assumption
  · rename_i h1
    simp only [cp_len, List.length_replicate]
    have := h.n
    omega
theorem grow_f {s : Q} {q : Nat} (h : s.Ok q) (hq : s.n < q) : (s.grow q).f < (s.grow q).R.length := by
  have hr := grow_room h hq
  unfold Q.grow at hr ⊢
  split
  · rename_i h1
    rcases h.f with h2 | h2 <;> omega
  · rename_i h1
    rw [if_neg h1] at hr
    simp only at hr ⊢
    omega
theorem grow_at {s : Q} {q : Nat} (h : s.Ok q) (hq : s.n < q) {i : Nat} (hi : i < s.n) : (s.grow q).at i = s.at i := by
  have hr := grow_room h hq
  unfold Q.grow at hr ⊢
  split
  · rfl
  · rename_i h1
    rw [if_neg h1] at hr
    simp only [Q.at] at hr ⊢
    rw [Nat.zero_add, Nat.mod_eq_of_lt (by omega), cp_get _ _ _ _ (by simp only [cp_len] at hr; omega), if_pos hi]
theorem grow_len {s : Q} {q : Nat} (h : s.Ok q) : (s.grow q).R.length ≤ q := by
  unfold Q.grow
  split
  · exact h.r
  · simp only [cp_len, List.length_replicate]; omega
theorem put_ok {s : Q} {q : Nat} (h : s.Ok q) (x : Int) : (s.put q x).Ok q := by
  unfold Q.put
  split
  · exact ⟨h.n, h.f, h.ql, h.r⟩
  · rename_i h1
    have hq : s.n < q := by have := h.ql; omega
    have h2 := grow_room h hq
    have h3 := grow_f h hq
    have h4 := grow_len h
    exact ⟨by simp; omega, .inr (by simpa using h3), by simp; omega, by simpa using h4⟩
theorem put_list {s : Q} {q : Nat} (h : s.Ok q) (hq : s.n < q) (x : Int) : (s.put q x).list = s.list ++ [x] := by
  have h2 := grow_room h hq
  have h3 := grow_f h hq
  have hn : s.n ≠ q := by omega
  unfold Q.put
  rw [if_neg hn]
  unfold Q.list
  simp only
  rw [List.range_succ, List.map_append]
  congr 1
  · apply List.map_congr_left
    intro i hi
    have hi : i < s.n := List.mem_range.1 hi
    rw [← grow_at h hq hi]
    simp only [Q.at, List.length_set, List.getD_eq_getElem?_getD]
    rw [List.getElem?_set_ne]
    intro e
    have a1 := Nat.sub_mod_eq_zero_of_mod_eq e
    rw [Nat.mod_eq_of_lt (by omega)] at a1
    omega
  · have hm : ((s.grow q).f + s.n) % (s.grow q).R.length < (s.grow q).R.length := Nat.mod_lt _ (by omega)
    simp [Q.at, List.getD_eq_getElem?_getD, List.getElem?_set_self hm]
theorem take_ok {s : Q} {q : Nat} (h : s.Ok q) (hn : 0 < s.n) : s.take.Ok q := by
  have hl := h.n
  refine ⟨by simp [Q.take]; omega, .inr ?_, by simp [Q.take]; have := h.ql; omega, by simp [Q.take]; exact h.r⟩
  simp only [Q.take, List.length_set]
  exact Nat.mod_lt _ (by omega)
theorem list_len (s : Q) : s.list.length = s.n := by simp [Q.list]
theorem put_n {s : Q} {q : Nat} (hq : s.n < q) (x : Int) : (s.put q x).n = s.n + 1 := by
  unfold Q.put
  rw [if_neg (by omega)]
end Go.Ring
