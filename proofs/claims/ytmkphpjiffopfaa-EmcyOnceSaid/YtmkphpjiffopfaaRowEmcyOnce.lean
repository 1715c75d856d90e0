/-
  A fault is told once, however often it is raised, until it is cleared.
-/
import Derived.Test.YtmkphpjiffopfaaRows
import Derived.Test.YtmkphpjiffopfaaEo10
import Derived.WalkKit
import Derived.ProofKit
import Derived.OpenShut
import Derived.ShutString
import Derived.ChangeOld
import Derived.Below
import Derived.SizedLaws
namespace Go.Proofs.Ytmkphpjiffopfaa.emcyOnce
open Go.Vm
open Go.ChangeShapes Go.WideShapes Go.ChangeAt Go.RowKit
set_option linter.unusedVariables false
set_option linter.unusedSimpArgs false
set_option maxRecDepth 100000
theorem own : ownKnob Try.prog.godebug = none := by kernel_rfl
theorem laidOut : laidOutB Try.prog = true := by kernel_rfl
theorem walk {W : World} {u0 : Value} {a0 : List (List V)} (w0 : ArgSl (leaves Try.prog 4 3) (esOf Try.prog 3) W u0 a0) :
    Calls Try.prog 3 #[u0] W fun e W' => e = .returned (.bool true) ∧ Below W.heap.size W W' := by
  rcases rel_arg w0 (rel_nil W) own_nil with ⟨e0, x0⟩ | ⟨e0, ρ0, le0, rel0, no0, x0⟩ | ⟨t0, ρ0, le0, rel0, no0, x0⟩
  · subst e0
    obtain ⟨H', hok⟩ := law_n 
    exact walk_ok (c := cfg) (uargs := [_]) hok (rel_nil W) own_nil (.cons _ _ _ _ x0 .nil)
  · subst e0
    obtain ⟨H', hok⟩ := law_v 
    exact walk_ok (c := cfg) (uargs := [_]) hok rel0 no0 (.cons _ _ _ _ x0 .nil)
  · clear w0
    obtain ⟨H', hok⟩ := law_r a0 t0
    exact walk_ok (c := cfg) (uargs := [_]) hok rel0 no0 (.cons _ _ _ _ x0 .nil)
set_option maxRecDepth 100000 in
theorem lifted (os : Os) (started : os.Started) (H : Type) (enc : TypeId × Value → H) :
    ReturnsInHanded {} Try.checked os 3 .any (Rows.emcyOnceSpec.pre6 enc Try.prog Try.f3 Rows.emcyOnceRow.domain false) (Rows.emcyOnceSpec.post enc Try.prog Try.f3 false true false false) := by
  refine returnsInHanded_of_change_sized (C := Try.checked) own started (by kernel_rfl) Try.func3
    (ChangeSpec.witness6 (enc := enc) (C := Try.checked) false ⟨#[], #[.slice none 0 0], []⟩ 8 (by kernel_rfl) (by kernel_rfl) (by kernel_rfl) (by kernel_rfl)) ?_
  intro W base args ds gs before hval0 hW hcnd hsz0 _
  have hsz : (DataW.weightsEach Try.prog (Try.f3.params.toList ++ Rows.emcyOnceSpec.plain.varTypes Try.prog) (ds ++ gs)).all (· ≤ reachBytes) = true := hsz0
  have hval : ∀ (j : Nat) t v, Try.f3.params[j]? = some t → args[j]? = some v → Value.okWide Try.prog W .any base t v := hval0
  have hW' := hW
  obtain ⟨p, q, hA0, hV, rfl, hfz, hnd⟩ := hW
  have hA : DataW.TrodAll enc Try.prog W 0 (fun _ => true) true Try.f3.params.toList args.toList ds p := hA0
  rw [Try.params3] at hA hval hsz
  obtain ⟨v0, vs0, d0, ds0, p0, q0, hargs, rfl, rfl, h0, g0⟩ := trodAll_cons hA
  obtain ⟨rfl, rfl, rfl⟩ := trodAll_nil g0
  obtain rfl : args = #[v0] := by cases args; simp_all
  obtain ⟨rfl, rfl⟩ := trodVars_none hV
  have k0 := h0
  have lt0 : ∀ x ∈ p0, x.block < W.heap.size := by obtain ⟨m, hm⟩ := k0; exact DataW.trod_lt m _ _ _ hm
  obtain ⟨a0, w0⟩ := arg_sl (d := 4) Try.underlying22 (by kernel_rfl) (of_decide_eq_true (by kernel_rfl)) (hval 0 22 v0 rfl rfl) h0
  clear hA0 hval0 hsz0 hsz
  refine (walk w0).mono fun e W' ⟨he, bel⟩ => ?_
  subst he
  exact ⟨_, rfl, _, _, _, [], _, [], hW', trodAll_mk1 (shut_bool Try.underlying4 _), (trodAll_cons_mk (Below.trod laidOut (by kernel_rfl) (of_decide_eq_true (by kernel_rfl)) k0 bel lt0) trodAll_mk0), rfl, bel.frame _, fun h => by cases h⟩
theorem over : Rows.emcyOnceRow.holds Try.pinned (OpenSpec.ofChange Rows.emcyOnceSpec) :=
  OpenClaim.holds_of_wide 3 Try.f3 rfl rfl rfl rfl rfl rfl rfl ⟨rfl, rfl, rfl, rfl, rfl⟩ rfl rfl rfl rfl rfl (by kernel_rfl) Try.func3 (by kernel_rfl)
    (of_decide_eq_true (by kernel_rfl)) (by unfold Func.isWrapper; first | (rw [if_pos (by decide +kernel)]; kernel_rfl) | (rw [if_neg (by decide +kernel)]; exact ⟨rfl, rfl⟩))
    (fun os started H enc _ => lifted os started H enc)
theorem proved : Rows.EmcyOnceSaid := over
#print axioms proved
end Go.Proofs.Ytmkphpjiffopfaa.emcyOnce
namespace Go.Proofs.Ytmkphpjiffopfaa
/-- The row, under a short name, for the claim. -/
theorem emcyOnce_holds : Rows.EmcyOnceSaid := emcyOnce.proved
end Go.Proofs.Ytmkphpjiffopfaa
