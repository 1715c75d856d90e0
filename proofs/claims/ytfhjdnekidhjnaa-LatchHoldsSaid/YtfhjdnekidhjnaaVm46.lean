/-
  A piece of code on a small heap whose first block is one of many of the larger heap's: which one is not told.
-/
import Derived.Test.YtfhjdnekidhjnaaVm45
set_option linter.unusedVariables false
set_option linter.unusedSimpArgs false
namespace Go.Vm

theorem sg_succ {x : Option (Nat × Nat)} {l : List (Option (Nat × Nat))} {b : Nat} : sg (x :: l) (b + 1) = sg l b := by
  unfold sg
  rw [List.getElem?_cons_succ]

theorem sg_zero {x : Option (Nat × Nat)} {l : List (Option (Nat × Nat))} : sg (x :: l) 0 = x := by
  unfold sg
  simp

theorem chkE_in {H : Heap} {sl0 : List (Option (Nat × Nat))} {i N : Nat} (h : chkE H (none :: sl0) = true) (h0 : ownAt H 0 = false) (hd : deadAt H 0 = false)
    (hN : sl0.all (fun p => match p with | some q => decide (N ≤ q.1) | none => true) = true) (hi : i < N) : chkE H (some (i, 0) :: sl0) = true := by
  unfold chkE at h ⊢
  simp only [Bool.and_eq_true, decide_eq_true_eq, List.all_eq_true, List.mem_range, List.length_cons] at h ⊢
  refine ⟨h.1, fun b hb => ?_⟩
  obtain ⟨h1, h2⟩ := h.2 b hb
  have far : ∀ b, samePB (sg sl0 b) (some (i, 0)) = false := by
    intro b
    unfold sg
    cases hs : sl0[b]? with
    | none => rfl
    | some p =>
      cases p with
      | none => rfl
      | some q =>
        have := hN
        rw [List.all_eq_true] at this
        have := this _ (List.mem_of_getElem? hs)
        simp only [decide_eq_true_eq] at this
        simp only [Option.join, samePB, Option.bind_some, id]
        exact beq_eq_false_iff_ne.2 (by omega)
  cases b with
  | zero => exact ⟨by simp [hd], fun b' _ => by simp [h0]⟩
  | succ b =>
    rw [sg_succ] at h1 h2 ⊢
    refine ⟨h1, fun b' hb' => ?_⟩
    cases b' with
    | zero => rw [sg_zero, far]; simp
    | succ b' =>
      have := h2 (b' + 1) hb'
      rw [sg_succ] at this ⊢
      exact this

theorem COK.atN {c : Cfg} {rd rd1 : Option Nat} {code : Code} {st st1 st' st1' : St} {H H' : Heap} {e : Ex} (h : COK c rd code st H e st' H') {i : Nat} (N : Nat) (hi : i < N) (sl0 sl' : List (Option (Nat × Nat))) (nl : List Nat) (G G' : Heap) (hrd : RdE (sg (some (i, 0) :: sl0)) rd rd1)
    (h1 : chkE H (none :: sl0) = true) (h1a : ownAt H 0 = false) (h1b : deadAt H 0 = false) (h1c : sl0.all (fun p => match p with | some q => decide (N ≤ q.1) | none => true) = true) (h2 : chkP H G G' (some (i, 0) :: sl0) sl' nl = true)
    (h3 : EmbL (sg (some (i, 0) :: sl0)) G 0 H) (h4 : PostL (some (i, 0) :: sl0) (sg sl') H G H' 0 G') (hs : VEL true (sg (some (i, 0) :: sl0)) st st1) (hs' : VEL false (sg sl') st' st1') : COK c rd1 code st1 G e st1' G' :=
  COK.at h (some (i, 0) :: sl0) sl' nl G G' hrd (chkE_in h1 h1a h1b h1c hi) h2 h3 h4 hs hs'
end Go.Vm
