/-
  Whatever is done with a queue, each answer and what is there are the document's.
-/
import Derived.Test.YtfhjdnekidhjnaaRows
import Derived.Test.YtfhjdnekidhjnaaFp10
import Derived.WalkKit
import Derived.ProofKit
import Derived.OpenShut
import Derived.ShutString
import Derived.ChangeOld
import Derived.Below
import Derived.SizedLaws
namespace Go.Proofs.Ytfhjdnekidhjnaa.fifoPlays
open Go.Vm
open Go.ChangeShapes Go.WideShapes Go.ChangeAt Go.RowKit
set_option linter.unusedVariables false
set_option linter.unusedSimpArgs false
set_option maxRecDepth 100000
theorem own : ownKnob Try.prog.godebug = none := by kernel_rfl
theorem laidOut : laidOutB Try.prog = true := by kernel_rfl
theorem walk {W : World} {a0 : Int} (w0 : (Lit.int .i64 a0).wf = true) {u1 : Value} (w1 : ArgSlN (leavesN Try.prog 4 30) (esOf Try.prog 30) W u1) :
    Calls Try.prog 3 #[.int .i64 a0, u1] W fun e W' => e = .returned (.bool true) ∧ Below W.heap.size W W' := by
  rcases rel_argF 60 w1 (rel_nil W) own_nil with x1 | ⟨ρ1, le1, rel1, no1, x1⟩ | ⟨C1, a1, ρ1, le1, rel1, no1, hp1, hl1, hu1, t1, x1⟩
  · skip
    obtain ⟨H', hok⟩ := law_n a0 w0
    exact walk_ok (c := cfg) (uargs := [_, _]) hok (rel_nil W) own_nil (.cons _ _ _ _ (.int _ _) (.cons _ _ _ _ x1 .nil))
  · skip
    obtain ⟨H', hok⟩ := law_v a0 w0
    exact walk_ok (c := cfg) (uargs := [_, _]) hok rel1 no1 (.cons _ _ _ _ (.int _ _) (.cons _ _ _ _ x1 .nil))
  · clear w1
    obtain ⟨H', hok⟩ := law_d a0 w0 C1 a1 hp1 hl1 hu1 t1
    exact walk_ok (c := cfg) (uargs := [_, _]) hok rel1 no1 (.cons _ _ _ _ (.int _ _) (.cons _ _ _ _ x1 .nil))
set_option maxRecDepth 100000 in
theorem lifted (os : Os) (started : os.Started) (H : Type) (enc : TypeId × Value → H) :
    ReturnsInHanded {} Try.checked os 3 .any (Rows.fifoPlaysSpec.pre6 enc Try.prog Try.f3 Rows.fifoPlaysRow.domain false) (Rows.fifoPlaysSpec.post enc Try.prog Try.f3 false true false false) := by
  refine returnsInHanded_of_change_sized (C := Try.checked) own started (by kernel_rfl) Try.func3
    (ChangeSpec.witness6 (enc := enc) (C := Try.checked) false ⟨#[], #[.int .i64 0, .slice none 0 0], []⟩ 8 (by kernel_rfl) (by kernel_rfl) (by kernel_rfl) (by kernel_rfl)) ?_
  intro W base args ds gs before hval0 hW hcnd hsz0 _
  have hsz : (DataW.weightsEach Try.prog (Try.f3.params.toList ++ Rows.fifoPlaysSpec.plain.varTypes Try.prog) (ds ++ gs)).all (· ≤ reachBytes) = true := hsz0
  have hval : ∀ (j : Nat) t v, Try.f3.params[j]? = some t → args[j]? = some v → Value.okWide Try.prog W .any base t v := hval0
  have hW' := hW
  obtain ⟨p, q, hA0, hV, rfl, hfz, hnd⟩ := hW
  have hA : DataW.TrodAll enc Try.prog W 0 (fun _ => true) true Try.f3.params.toList args.toList ds p := hA0
  rw [Try.params3] at hA hval hsz
  obtain ⟨v0, vs0, d0, ds0, p0, q0, hargs, rfl, rfl, h0, g0⟩ := trodAll_cons hA
  obtain ⟨v1, vs1, d1, ds1, p1, q1, rfl, rfl, rfl, h1, g1⟩ := trodAll_cons g0
  obtain ⟨rfl, rfl, rfl⟩ := trodAll_nil g1
  obtain rfl : args = #[v0, v1] := by cases args; simp_all
  obtain ⟨rfl, rfl⟩ := trodVars_none hV
  have k0 := h0
  have lt0 : ∀ x ∈ p0, x.block < W.heap.size := by obtain ⟨m, hm⟩ := k0; exact DataW.trod_lt m _ _ _ hm
  obtain ⟨a0, rfl, w0⟩ := arg_int Try.underlying3 (hval 0 3 v0 rfl rfl) h0
  have k1 := h1
  have lt1 : ∀ x ∈ p1, x.block < W.heap.size := by obtain ⟨m, hm⟩ := k1; exact DataW.trod_lt m _ _ _ hm
  have w1 := arg_slN (d := 4) Try.underlying22 (by kernel_rfl) (of_decide_eq_true (by kernel_rfl)) (hval 1 22 v1 rfl rfl) h1
  clear hA0 hval0 hsz0 hsz
  refine (walk w0 w1).mono fun e W' ⟨he, bel⟩ => ?_
  subst he
  exact ⟨_, rfl, _, _, _, [], _, [], hW', trodAll_mk1 (shut_bool Try.underlying4 _), (trodAll_cons_mk (Below.trod laidOut (by kernel_rfl) (of_decide_eq_true (by kernel_rfl)) k0 bel lt0) (trodAll_cons_mk (Below.trod laidOut (by kernel_rfl) (of_decide_eq_true (by kernel_rfl)) k1 bel lt1) trodAll_mk0)), rfl, bel.frame _, fun h => by cases h⟩
theorem over : Rows.fifoPlaysRow.holds Try.pinned (OpenSpec.ofChange Rows.fifoPlaysSpec) :=
  OpenClaim.holds_of_wide 3 Try.f3 rfl rfl rfl rfl rfl rfl rfl ⟨rfl, rfl, rfl, rfl, rfl⟩ rfl rfl rfl rfl rfl (by kernel_rfl) Try.func3 (by kernel_rfl)
    (of_decide_eq_true (by kernel_rfl)) (by unfold Func.isWrapper; first | (rw [if_pos (by decide +kernel)]; kernel_rfl) | (rw [if_neg (by decide +kernel)]; exact ⟨rfl, rfl⟩))
    (fun os started H enc _ => lifted os started H enc)
theorem proved : Rows.FifoPlaysSaid := over
#print axioms proved
end Go.Proofs.Ytfhjdnekidhjnaa.fifoPlays
namespace Go.Proofs.Ytfhjdnekidhjnaa
/-- The row, under a short name, for the claim. -/
theorem fifoPlays_holds : Rows.FifoPlaysSaid := fifoPlays.proved
end Go.Proofs.Ytfhjdnekidhjnaa
