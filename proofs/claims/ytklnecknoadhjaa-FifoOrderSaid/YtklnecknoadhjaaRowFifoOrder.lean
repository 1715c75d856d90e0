/-
  Things are taken in the order in which they came; what came is taken, there, or lost, each once.
-/
import Derived.Test.YtklnecknoadhjaaRows
import Derived.Test.YtklnecknoadhjaaFo7
import Derived.WalkKit
import Derived.ProofKit
import Derived.OpenShut
import Derived.ShutString
import Derived.ChangeOld
import Derived.Below
import Derived.SizedLaws
namespace Go.Proofs.Ytklnecknoadhjaa.fifoOrder
open Go.Vm
open Go.ChangeShapes Go.WideShapes Go.ChangeAt Go.RowKit
set_option linter.unusedVariables false
set_option linter.unusedSimpArgs false
set_option maxRecDepth 100000
theorem own : ownKnob Try.prog.godebug = none := by kernel_rfl
theorem laidOut : laidOutB Try.prog = true := by kernel_rfl
theorem walk {W : World} {a0 : Int} (w0 : (Lit.int .u8 a0).wf = true) {u1 : Value} (w1 : ArgSlN (leavesN Try.prog 4 22) (esOf Try.prog 22) W u1) {u2 : Value} {a2 : List (List V)} (w2 : ArgSl (leaves Try.prog 4 5) (esOf Try.prog 5) W u2 a2) :
    Calls Try.prog 4 #[.int .u8 a0, u1, u2] W fun e W' => e = .returned (.bool true) ∧ Below W.heap.size W W' := by
  rcases rel_argF 20 w1 (rel_nil W) own_nil with x1 | ⟨ρ1, le1, rel1, no1, x1⟩ | ⟨C1, a1, ρ1, le1, rel1, no1, hp1, hl1, hu1, t1, x1⟩
  · skip
    rcases rel_arg w2 (rel_nil W) own_nil with ⟨e2, x2⟩ | ⟨e2, ρ2, le2, rel2, no2, x2⟩ | ⟨t2, ρ2, le2, rel2, no2, x2⟩
    · subst e2
      obtain ⟨H', hok⟩ := law_nn a0 w0
      exact walk_ok (c := cfg) (uargs := [_, _, _]) hok (rel_nil W) own_nil (.cons _ _ _ _ (.int _ _) (.cons _ _ _ _ x1 (.cons _ _ _ _ x2 .nil)))
    · subst e2
      obtain ⟨H', hok⟩ := law_nv a0 w0
      exact walk_ok (c := cfg) (uargs := [_, _, _]) hok rel2 no2 (.cons _ _ _ _ (.int _ _) (.cons _ _ _ _ (x1.mono le2) (.cons _ _ _ _ x2 .nil)))
    · clear w2
      obtain ⟨H', hok⟩ := law_nr a0 w0 a2 t2
      exact walk_ok (c := cfg) (uargs := [_, _, _]) hok rel2 no2 (.cons _ _ _ _ (.int _ _) (.cons _ _ _ _ (x1.mono le2) (.cons _ _ _ _ x2 .nil)))
  · skip
    rcases rel_arg w2 rel1 no1 with ⟨e2, x2⟩ | ⟨e2, ρ2, le2, rel2, no2, x2⟩ | ⟨t2, ρ2, le2, rel2, no2, x2⟩
    · subst e2
      obtain ⟨H', hok⟩ := law_vn a0 w0
      exact walk_ok (c := cfg) (uargs := [_, _, _]) hok rel1 no1 (.cons _ _ _ _ (.int _ _) (.cons _ _ _ _ x1 (.cons _ _ _ _ x2 .nil)))
    · subst e2
      obtain ⟨H', hok⟩ := law_vv a0 w0
      exact walk_ok (c := cfg) (uargs := [_, _, _]) hok rel2 no2 (.cons _ _ _ _ (.int _ _) (.cons _ _ _ _ (x1.mono le2) (.cons _ _ _ _ x2 .nil)))
    · clear w2
      obtain ⟨H', hok⟩ := law_vr a0 w0 a2 t2
      exact walk_ok (c := cfg) (uargs := [_, _, _]) hok rel2 no2 (.cons _ _ _ _ (.int _ _) (.cons _ _ _ _ (x1.mono le2) (.cons _ _ _ _ x2 .nil)))
  · clear w1
    obtain ⟨rs2, ρ2, v2, le2, rel2, no2, x2, t2, tl2, hv2⟩ := rel_arg2 w2 rel1 no1 (aa_rows _ C1 _ a1.flatten)
    clear w2
    obtain ⟨H', hok⟩ := law_dx a0 w0 C1 a1 hp1 hl1 hu1 t1 rs2 v2 t2 hv2
    exact walk_ok (c := cfg) (uargs := [_, _, _]) hok rel2 no2 (.cons _ _ _ _ (.int _ _) (.cons _ _ _ _ (x1.mono le2) (.cons _ _ _ _ x2 .nil)))
set_option maxRecDepth 100000 in
theorem lifted (os : Os) (started : os.Started) (H : Type) (enc : TypeId × Value → H) :
    ReturnsInHanded {} Try.checked os 4 .any (Rows.fifoOrderSpec.pre6 enc Try.prog Try.f4 Rows.fifoOrderRow.domain false) (Rows.fifoOrderSpec.post enc Try.prog Try.f4 false true false false) := by
  refine returnsInHanded_of_change_sized (C := Try.checked) own started (by kernel_rfl) Try.func4
    (ChangeSpec.witness6 (enc := enc) (C := Try.checked) false ⟨#[], #[.int .u8 0, .slice none 0 0, .slice none 0 0], []⟩ 8 (by kernel_rfl) (by kernel_rfl) (by kernel_rfl) (by kernel_rfl)) ?_
  intro W base args ds gs before hval0 hW hcnd hsz0 _
  have hsz : (DataW.weightsEach Try.prog (Try.f4.params.toList ++ Rows.fifoOrderSpec.plain.varTypes Try.prog) (ds ++ gs)).all (· ≤ reachBytes) = true := hsz0
  have hval : ∀ (j : Nat) t v, Try.f4.params[j]? = some t → args[j]? = some v → Value.okWide Try.prog W .any base t v := hval0
  have hW' := hW
  obtain ⟨p, q, hA0, hV, rfl, hfz, hnd⟩ := hW
  have hA : DataW.TrodAll enc Try.prog W 0 (fun _ => true) true Try.f4.params.toList args.toList ds p := hA0
  rw [Try.params4] at hA hval hsz
  obtain ⟨v0, vs0, d0, ds0, p0, q0, hargs, rfl, rfl, h0, g0⟩ := trodAll_cons hA
  obtain ⟨v1, vs1, d1, ds1, p1, q1, rfl, rfl, rfl, h1, g1⟩ := trodAll_cons g0
  obtain ⟨v2, vs2, d2, ds2, p2, q2, rfl, rfl, rfl, h2, g2⟩ := trodAll_cons g1
  obtain ⟨rfl, rfl, rfl⟩ := trodAll_nil g2
  obtain rfl : args = #[v0, v1, v2] := by cases args; simp_all
  obtain ⟨rfl, rfl⟩ := trodVars_none hV
  have k0 := h0
  have lt0 : ∀ x ∈ p0, x.block < W.heap.size := by obtain ⟨m, hm⟩ := k0; exact DataW.trod_lt m _ _ _ hm
  obtain ⟨a0, rfl, w0⟩ := arg_int Try.underlying5 (hval 0 5 v0 rfl rfl) h0
  have k1 := h1
  have lt1 : ∀ x ∈ p1, x.block < W.heap.size := by obtain ⟨m, hm⟩ := k1; exact DataW.trod_lt m _ _ _ hm
  have w1 := arg_slN (d := 4) Try.underlying37 (by kernel_rfl) (of_decide_eq_true (by kernel_rfl)) (hval 1 37 v1 rfl rfl) h1
  have k2 := h2
  have lt2 : ∀ x ∈ p2, x.block < W.heap.size := by obtain ⟨m, hm⟩ := k2; exact DataW.trod_lt m _ _ _ hm
  obtain ⟨a2, w2⟩ := arg_sl (d := 4) Try.underlying38 (by kernel_rfl) (of_decide_eq_true (by kernel_rfl)) (hval 2 38 v2 rfl rfl) h2
  clear hA0 hval0 hsz0 hsz
  refine (walk w0 w1 w2).mono fun e W' ⟨he, bel⟩ => ?_
  subst he
  exact ⟨_, rfl, _, _, _, [], _, [], hW', trodAll_mk1 (shut_bool Try.underlying4 _), (trodAll_cons_mk (Below.trod laidOut (by kernel_rfl) (of_decide_eq_true (by kernel_rfl)) k0 bel lt0) (trodAll_cons_mk (Below.trod laidOut (by kernel_rfl) (of_decide_eq_true (by kernel_rfl)) k1 bel lt1) (trodAll_cons_mk (Below.trod laidOut (by kernel_rfl) (of_decide_eq_true (by kernel_rfl)) k2 bel lt2) trodAll_mk0))), rfl, bel.frame _, fun h => by cases h⟩
theorem over : Rows.fifoOrderRow.holds Try.pinned (OpenSpec.ofChange Rows.fifoOrderSpec) :=
  OpenClaim.holds_of_wide 4 Try.f4 rfl rfl rfl rfl rfl rfl rfl ⟨rfl, rfl, rfl, rfl, rfl⟩ rfl rfl rfl rfl rfl (by kernel_rfl) Try.func4 (by kernel_rfl)
    (of_decide_eq_true (by kernel_rfl)) (by unfold Func.isWrapper; first | (rw [if_pos (by decide +kernel)]; kernel_rfl) | (rw [if_neg (by decide +kernel)]; exact ⟨rfl, rfl⟩))
    (fun os started H enc _ => lifted os started H enc)
theorem proved : Rows.FifoOrderSaid := over
#print axioms proved
end Go.Proofs.Ytklnecknoadhjaa.fifoOrder
namespace Go.Proofs.Ytklnecknoadhjaa
/-- The row, under a short name, for the claim. -/
theorem fifoOrder_holds : Rows.FifoOrderSaid := fifoOrder.proved
end Go.Proofs.Ytklnecknoadhjaa
