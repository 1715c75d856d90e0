/-
  Letters that wait: plain lists.
-/
import Derived.Test.YtlhlbclidnfkfaaVm44
set_option linter.unusedVariables false
set_option linter.unusedSimpArgs false
namespace Go.Box
/-- A letter: a frame's cells, its rank, and whether it is safe. -/
abbrev LT := Int × Bool × Int × Int × Int × Int × Int × Int × Int × Int × Int × Int × Bool
abbrev lrk (x : LT) : Int := x.2.2.2.2.2.2.2.2.2.2.2.1
abbrev lsf (x : LT) : Bool := x.2.2.2.2.2.2.2.2.2.2.2.2
abbrev gL (L : List LT) (i : Nat) : LT := L.getD i (0, false, 0, 0, 0, 0, 0, 0, 0, 0, 0, 0, false)
/-- How many letters a part has. -/
def cntL : List LT → Bool → Nat
  | [], _ => 0
  | x :: L, b => (if lsf x = b then 1 else 0) + cntL L b
/-- The place of a rank, from behind. -/
def plF (L : List LT) (r : Int) : Nat → Nat
  | 0 => 0
  | n + 1 => if lrk (gL L n) > r then plF L r n else n + 1
/-- A letter more. -/
def putL (L : List LT) (x : LT) : List LT := L.take (plF L (lrk x) L.length) ++ [x] ++ L.drop (plF L (lrk x) L.length)
theorem plF_le (L : List LT) (r : Int) : ∀ n, plF L r n ≤ n
  | 0 => Nat.le_refl 0
  | n + 1 => by
    unfold plF
    split
    · have := plF_le L r n; omega
    · omega
theorem cnt_app (L M : List LT) (b : Bool) : cntL (L ++ M) b = cntL L b + cntL M b := by
  induction L with
  | nil => simp [cntL]
  | cons x L ih => simp only [List.cons_append, cntL, ih]; omega
theorem cnt_le (L : List LT) (b : Bool) : cntL L b ≤ L.length := by
  induction L with
  | nil => simp [cntL]
  | cons x L ih => simp only [cntL, List.length_cons]; split <;> omega
theorem cnt_put (L : List LT) (x : LT) (b : Bool) : cntL (putL L x) b = cntL L b + if lsf x = b then 1 else 0 := by
  unfold putL
  have h : cntL L b = cntL (L.take (plF L (lrk x) L.length)) b + cntL (L.drop (plF L (lrk x) L.length)) b := by rw [← cnt_app, List.take_append_drop]
  rw [cnt_app, cnt_app, h]
  simp only [cntL]
  omega
theorem put_len (L : List LT) (x : LT) : (putL L x).length = L.length + 1 := by
  have := plF_le L (lrk x) L.length
  simp [putL]
  omega
theorem cnt_both (L : List LT) (b : Bool) : cntL L b + cntL L (!b) = L.length := by
  induction L with
  | nil => simp [cntL]
  | cons x L ih =>
    simp only [cntL, List.length_cons]
    cases lsf x <;> cases b <;> simp at ih ⊢ <;> omega
end Go.Box
