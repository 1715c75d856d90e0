/-
  A piece of code on a small heap whose first two blocks are two of many of the larger heap's: which ones is not told.
-/
import Derived.Test.YtfhjdnekidhjnaaVm48
set_option linter.unusedVariables false
set_option linter.unusedSimpArgs false
namespace Go.Vm

theorem far_of {sl0 : List (Option (Nat × Nat))} {i N : Nat} (hN : sl0.all (fun p => match p with | some q => decide (N ≤ q.1) | none => true) = true) (hi : i < N) (b : Nat) : samePB (sg sl0 b) (some (i, 0)) = false := by
  unfold sg
  cases hs : sl0[b]? with
  | none => rfl
  | some p =>
    cases p with
    | none => rfl
    | some q =>
      have := hN
      rw [List.all_eq_true] at this
      have := this _ (List.mem_of_getElem? hs)
      simp only [decide_eq_true_eq] at this
      simp only [Option.join, samePB, Option.bind_some, id]
      exact beq_eq_false_iff_ne.2 (by omega)

theorem chkE_in2 {H : Heap} {sl0 : List (Option (Nat × Nat))} {i j N : Nat} (h : chkE H (none :: none :: sl0) = true) (h0 : ownAt H 0 = false) (hd : deadAt H 0 = false) (h0' : ownAt H 1 = false) (hd' : deadAt H 1 = false)
    (hN : sl0.all (fun p => match p with | some q => decide (N ≤ q.1) | none => true) = true) (hi : i < N) (hj : j < N) : chkE H (some (i, 0) :: some (j, 0) :: sl0) = true := by
  unfold chkE at h ⊢
  simp only [Bool.and_eq_true, decide_eq_true_eq, List.all_eq_true, List.mem_range, List.length_cons] at h ⊢
  refine ⟨h.1, fun b hb => ?_⟩
  obtain ⟨h1, h2⟩ := h.2 b hb
  match b, hb, h1, h2 with
  | 0, _, _, _ => exact ⟨by simp [hd], fun b' _ => by simp [h0]⟩
  | 1, _, _, _ => exact ⟨by simp [hd'], fun b' _ => by simp [h0']⟩
  | b + 2, hb, h1, h2 =>
    rw [sg_succ, sg_succ] at h1 h2 ⊢
    refine ⟨h1, fun b' hb' => ?_⟩
    match b', hb' with
    | 0, _ => rw [sg_zero, far_of hN hi]; simp
    | 1, _ => rw [sg_succ, sg_zero, far_of hN hj]; simp
    | b' + 2, hb' =>
      have := h2 (b' + 2) hb'
      rw [sg_succ, sg_succ] at this ⊢
      exact this

theorem COK.at2N {c : Cfg} {rd rd1 : Option Nat} {code : Code} {st st1 st' st1' : St} {H H' : Heap} {e : Ex} (h : COK c rd code st H e st' H') {i j : Nat} (N : Nat) (hi : i < N) (hj : j < N) (sl0 sl' : List (Option (Nat × Nat))) (nl : List Nat) (G G' : Heap) (hrd : RdE (sg (some (i, 0) :: some (j, 0) :: sl0)) rd rd1)
    (h1 : chkE H (none :: none :: sl0) = true) (h1a : ownAt H 0 = false) (h1b : deadAt H 0 = false) (h1c : ownAt H 1 = false) (h1d : deadAt H 1 = false) (h1e : sl0.all (fun p => match p with | some q => decide (N ≤ q.1) | none => true) = true) (h2 : chkP H G G' (some (i, 0) :: some (j, 0) :: sl0) sl' nl = true)
    (h3 : EmbL (sg (some (i, 0) :: some (j, 0) :: sl0)) G 0 H) (h4 : PostL (some (i, 0) :: some (j, 0) :: sl0) (sg sl') H G H' 0 G') (hs : VEL true (sg (some (i, 0) :: some (j, 0) :: sl0)) st st1) (hs' : VEL false (sg sl') st' st1') : COK c rd1 code st1 G e st1' G' :=
  COK.at h (some (i, 0) :: some (j, 0) :: sl0) sl' nl G G' hrd (chkE_in2 h1 h1a h1b h1c h1d h1e hi hj) h2 h3 h4 hs hs'
/-- One more argument, with the bound of its length. -/
theorem rel_argB {ρ : Map} {H : Heap} {w : World} {ls : List Leaf} {es : Nat} {u : Value} {rows : List (List V)} (h : ArgSl ls es w u rows) (hr : Rel ρ H w) (hn : NoOwn H) :
    (rows = [] ∧ VR ρ (.sl es none 0) u) ∨
    (rows = [] ∧ ∃ ρ', Map.le ρ ρ' ∧ Rel ρ' (H ++ [.void]) w ∧ NoOwn (H ++ [.void]) ∧ VR ρ' (.sl es (some (H.length, 0)) 0) u) ∨
    ((∀ r ∈ rows, Typed ls r) ∧ rows.length ≤ 140737488355328 ∧ ∃ ρ', Map.le ρ ρ' ∧ Rel ρ' (H ++ [.cells false rows.flatten]) w ∧ NoOwn (H ++ [.cells false rows.flatten]) ∧ VR ρ' (.sl es (some (H.length, 0)) rows.length) u) := by
  have hb : rows.length ≤ 140737488355328 := by
    rcases h with ⟨_, rfl⟩ | ⟨_, _, _, _, _, hm, _⟩
    · simp
    · exact hm.2
  rcases rel_arg h hr hn with h1 | h1 | ⟨h1, h2⟩
  · exact .inl h1
  · exact .inr (.inl h1)
  · exact .inr (.inr ⟨h1, hb, h2⟩)
theorem eqLoad_sl {P : Program} {H : Heap} {t : TypeId} {b o : Nat} {es n : Nat} {q : Option (Nat × Nat)} (h : loadR P (.ty t) H b o = some (.sl es q n)) : eqLoad P H (.ty t, (b, o)) (.sl es q n) = true := by
  unfold eqLoad
  simp only [h]
  simp [sameVal, sameV]
end Go.Vm
