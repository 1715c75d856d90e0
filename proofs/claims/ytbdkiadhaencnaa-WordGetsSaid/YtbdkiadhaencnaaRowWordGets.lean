/-
  For every kind and all bytes: the number that the program gets of the bytes and its error are the reference's, and both runs end; no conditions beyond the statement's own.
-/
import Derived.Test.YtbdkiadhaencnaaRows
import Derived.Test.YtbdkiadhaencnaaWayWordGets
import Derived.WalkKit
import Derived.ProofKit
import Derived.OpenShut
import Derived.ShutString
import Derived.ChangeOld
import Derived.Below
import Derived.SizedLaws
namespace Go.Proofs.Ytbdkiadhaencnaa.wordGets
open Go.Vm
open Go.ChangeShapes Go.WideShapes Go.ChangeAt Go.RowKit
open Go.ChangeMaps (open_string shut_string)
set_option linter.unusedVariables false
theorem own : ownKnob Try.prog.godebug = none := by kernel_rfl
theorem laidOut : laidOutB Try.prog = true := by kernel_rfl
theorem row_u8 {W : World} {a : Option Addr} {len cap : Nat} {zs : List Int} (h : IsRow .u8 W a len cap zs) : ∀ n ∈ zs, 0 ≤ n ∧ n < 256 := by
  rcases h with ⟨_, _, _, rfl⟩ | ⟨x, _, _, _, _, _, hw⟩
  · simp
  · intro n hn
    have := hw n hn
    simp [Lit.wf, IntKind.min, IntKind.max, IntKind.signed, IntKind.bits] at this
    omega
theorem run_walk {k : Int} {p : Option (Nat × Nat)} {n : Nat} {H : Heap} {os : List Bool} {ρ : Map} {W : World} {u : Value} (hos : callK cfg 40 (.fn 6 []) [.int .i64 k, .sl 1 p n] H os retV = some (.bool true)) (h1 : Rel ρ H W)
    (ho : ∀ i, ¬ Owned H i) (h2 : VR ρ (.sl 1 p n) u) : Calls Try.prog 6 #[.int .i64 k, u] W fun e W' => e = .returned (.bool true) ∧ Below W.heap.size W W' :=
  walk_of (c := cfg) (f := 6) (uargs := [.int .i64 k, u]) (by kernel_rfl) hos h1 ho (.cons _ _ _ _ (.int _ _) (.cons _ _ _ _ h2 .nil))
theorem walk (k : Int) {W : World} {a : Option Addr} {len cap : Nat} {zs : List Int} (h : IsRow .u8 W a len cap zs) :
    Calls Try.prog 6 #[.int .i64 k, .slice a len cap] W fun e W' => e = .returned (.bool true) ∧ Below W.heap.size W W' := by
  have hu := row_u8 h
  rcases row_rel h with ⟨rfl, rfl, rfl, rfl, h1, h2⟩ | ⟨ρ, rfl, rfl, rfl, h1, h2⟩ | ⟨ρ, hl, hz, h1, h2⟩
  · obtain ⟨os, hos⟩ := gets_short k none 0 [] (by omega)
    exact run_walk hos h1 own_nil h2
  · obtain ⟨os, hos⟩ := gets_short k (some (0, 0)) 0 [.void] (by omega)
    exact run_walk hos h1 (own_ro (by simp)) h2
  · by_cases hs : (k = 1 ∨ k = 2 ∨ k = 5 → len ≠ 1) ∧ (k = 3 ∨ k = 6 → len ≠ 2) ∧ (k = 4 ∨ k = 7 → len ≠ 4)
    · obtain ⟨os, hos⟩ := gets_short k (some (0, 0)) len _ hs
      exact run_walk hos h1 (own_ro (by simp)) h2
    · have hlen : (zs.take len).length = len := by rw [List.length_take]; omega
      have hu' : ∀ n ∈ zs.take len, 0 ≤ n ∧ n < 256 := fun n hn => hu n (List.mem_of_mem_take hn)
      generalize hzt : zs.take len = l at h1 hlen hu'
      have fin : (∃ os, callK cfg 40 (.fn 6 []) [.int .i64 k, .sl 1 (some (0, 0)) len] [.cells false (l.map (.int .u8))] os retV = some (.bool true)) → Calls Try.prog 6 #[.int .i64 k, .slice a len cap] W fun e W' => e = .returned (.bool true) ∧ Below W.heap.size W W' := by
        rintro ⟨os, hos⟩
        exact run_walk hos h1 (own_ro (by simp)) h2
      apply fin
      by_cases k1 : k = 1
      · subst k1
        have hn : len = 1 := by omega
        subst hn
        obtain ⟨x0, rfl⟩ := list_one hlen
        exact gets_full1 x0 (hu' _ (by simp))
      by_cases k2 : k = 2
      · subst k2
        have hn : len = 1 := by omega
        subst hn
        obtain ⟨x0, rfl⟩ := list_one hlen
        exact gets_full2 x0 (hu' _ (by simp))
      by_cases k3 : k = 3
      · subst k3
        have hn : len = 2 := by omega
        subst hn
        obtain ⟨x0, x1, rfl⟩ := list_two hlen
        exact gets_full3 x0 x1 (hu' _ (by simp)) (hu' _ (by simp))
      by_cases k4 : k = 4
      · subst k4
        have hn : len = 4 := by omega
        subst hn
        obtain ⟨x0, x1, x2, x3, rfl⟩ := list_four hlen
        exact gets_full4 x0 x1 x2 x3 (hu' _ (by simp)) (hu' _ (by simp)) (hu' _ (by simp)) (hu' _ (by simp))
      by_cases k5 : k = 5
      · subst k5
        have hn : len = 1 := by omega
        subst hn
        obtain ⟨x0, rfl⟩ := list_one hlen
        exact gets_full5 x0 (hu' _ (by simp))
      by_cases k6 : k = 6
      · subst k6
        have hn : len = 2 := by omega
        subst hn
        obtain ⟨x0, x1, rfl⟩ := list_two hlen
        exact gets_full6 x0 x1 (hu' _ (by simp)) (hu' _ (by simp))
      by_cases k7 : k = 7
      · subst k7
        have hn : len = 4 := by omega
        subst hn
        obtain ⟨x0, x1, x2, x3, rfl⟩ := list_four hlen
        exact gets_full7 x0 x1 x2 x3 (hu' _ (by simp)) (hu' _ (by simp)) (hu' _ (by simp)) (hu' _ (by simp))
      omega
set_option maxRecDepth 100000 in
theorem lifted (os : Os) (started : os.Started) (H : Type) (enc : TypeId × Value → H) :
    ReturnsInHanded {} Try.checked os 6 .any (Rows.wordGetsSpec.pre6 enc Try.prog Try.f6 Rows.wordGetsRow.domain false) (Rows.wordGetsSpec.post enc Try.prog Try.f6 false true false false) := by
  refine returnsInHanded_of_change_sized (C := Try.checked) own started (by kernel_rfl) Try.func6
    (ChangeSpec.witness6 (enc := enc) (C := Try.checked) false ⟨#[], #[.int .i64 0, .slice none 0 0], []⟩ 8 (by kernel_rfl) (by kernel_rfl) (by kernel_rfl) (by kernel_rfl)) ?_
  intro W base args ds gs before hval0 hW hcnd hsz0 _
  have hsz : (DataW.weightsEach Try.prog (Try.f6.params.toList ++ Rows.wordGetsSpec.plain.varTypes Try.prog) (ds ++ gs)).all (· ≤ reachBytes) = true := hsz0
  have hval : ∀ (j : Nat) t v, Try.f6.params[j]? = some t → args[j]? = some v → Value.okWide Try.prog W .any base t v := hval0
  have hW' := hW
  obtain ⟨p, q, hA0, hV, rfl, hfz, hnd⟩ := hW
  have hA : DataW.TrodAll enc Try.prog W 0 (fun _ => true) true Try.f6.params.toList args.toList ds p := hA0
  rw [Try.params6] at hA hval hsz
  obtain ⟨v0, vs0, d0, ds0, p0, q0, hargs, rfl, rfl, h0, r0⟩ := trodAll_cons hA
  obtain ⟨v1, vs1, d1, ds1, p1, q1, rfl, rfl, rfl, h1, r1⟩ := trodAll_cons r0
  obtain ⟨rfl, rfl, rfl⟩ := trodAll_nil r1
  obtain rfl : args = #[v0, v1] := by cases args; simp_all
  obtain ⟨rfl, rfl⟩ := trodVars_none hV
  obtain ⟨a0, rfl, rfl, rfl, w0⟩ := open_int Try.underlying3 (hval 0 3 v0 rfl rfl) h0
  obtain ⟨a1, len1, cap1, rfl⟩ := okWide_slice Try.underlying36 (hval 1 36 v1 rfl rfl)
  have k1 := h1
  have lt1 : ∀ x ∈ p1, x.block < W.heap.size := by obtain ⟨m, hm⟩ := k1; exact DataW.trod_lt m _ _ _ hm
  obtain ⟨z1, w1⟩ : ∃ zs, IsRow .u8 W a1 len1 cap1 zs := by
    obtain ⟨fuel, hf⟩ := h1
    rcases open_ints Try.underlying36 Try.underlying5 (by kernel_rfl) hf with ⟨hcs, _⟩ | ⟨x, l, c, zs, hcs, _, hl, hm, hz, _, hcell, hwz⟩
    · simp [Value.cells] at hcs
      obtain ⟨rfl, rfl, rfl⟩ := hcs
      exact ⟨[], .inl ⟨rfl, rfl, rfl, rfl⟩⟩
    · simp [Value.cells] at hcs
      obtain ⟨rfl, rfl, rfl⟩ := hcs
      exact ⟨zs, .inr ⟨_, rfl, hl, hm, by simpa using hz, hcell, hwz⟩⟩
  clear hA0 hval0 hsz0 hsz
  refine (walk a0 w1).mono fun e W' ⟨he, bel⟩ => ?_
  subst he
  exact ⟨_, rfl, _, _, _, [], _, [], hW', trodAll_mk1 (shut_bool Try.underlying4 _), (trodAll_cons_mk (shut_int Try.underlying3 w0) (trodAll_cons_mk (Below.trod laidOut (by kernel_rfl) (of_decide_eq_true (by kernel_rfl)) k1 bel lt1) trodAll_mk0)), rfl, bel.frame _, fun h => by cases h⟩
theorem over : Rows.wordGetsRow.holds Try.pinned (OpenSpec.ofChange Rows.wordGetsSpec) :=
  OpenClaim.holds_of_wide 6 Try.f6 rfl rfl rfl rfl rfl rfl rfl ⟨rfl, rfl, rfl, rfl, rfl⟩ rfl rfl rfl rfl rfl (by kernel_rfl) Try.func6 (by kernel_rfl)
    (of_decide_eq_true (by kernel_rfl)) (by unfold Func.isWrapper; first | (rw [if_pos (by decide +kernel)]; kernel_rfl) | (rw [if_neg (by decide +kernel)]; exact ⟨rfl, rfl⟩))
    (fun os started H enc _ => lifted os started H enc)
theorem proved : Rows.WordGetsSaid := over
#print axioms proved
end Go.Proofs.Ytbdkiadhaencnaa.wordGets
namespace Go.Proofs.Ytbdkiadhaencnaa
/-- The row, under a short name, for the claim. -/
theorem wordGets_holds : Rows.WordGetsSaid := wordGets.proved
end Go.Proofs.Ytbdkiadhaencnaa
