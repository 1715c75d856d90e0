/-
  Once it has tripped, what goes out is safe, whatever is released.
-/
import Derived.Test.YtfhjdnekidhjnaaRows
import Derived.Test.YtfhjdnekidhjnaaLh5
import Derived.WalkKit
import Derived.ProofKit
import Derived.OpenShut
import Derived.ShutString
import Derived.ChangeOld
import Derived.Below
import Derived.SizedLaws
namespace Go.Proofs.Ytfhjdnekidhjnaa.latchHolds
open Go.Vm
open Go.ChangeShapes Go.WideShapes Go.ChangeAt Go.RowKit
set_option linter.unusedVariables false
set_option linter.unusedSimpArgs false
set_option maxRecDepth 100000
theorem snoc_at (H : Heap) (b : Blk) : (H ++ [b])[H.length]? = some b := by simp
theorem own : ownKnob Try.prog.godebug = none := by kernel_rfl
theorem laidOut : laidOutB Try.prog = true := by kernel_rfl
theorem walk {W : World} {a0 : Int} (w0 : (Lit.int .i64 a0).wf = true) {a1 : Int} (w1 : (Lit.int .i64 a1).wf = true) {u2 : Value} (w2 : ArgSlN (leavesN Try.prog 4 54) (esOf Try.prog 54) W u2) {u3 : Value} {a3 : List (List V)} (w3 : ArgSl (leaves Try.prog 4 5) (esOf Try.prog 5) W u3 a3) {u4 : Value} {a4 : List (List V)} (w4 : ArgSl (leaves Try.prog 4 5) (esOf Try.prog 5) W u4 a4) :
    Calls Try.prog 4 #[.int .i64 a0, .int .i64 a1, u2, u3, u4] W fun e W' => e = .returned (.bool true) ∧ Below W.heap.size W W' := by
  rcases rel_argF 40 w2 (rel_nil W) own_nil with x2 | ⟨ρ2, le2, rel2, no2, x2⟩ | ⟨C2, a2, ρ2, le2, rel2, no2, hp2, hl2, hu2, t2, x2⟩
  · skip
    rcases rel_argB w3 (rel_nil W) own_nil with ⟨e3, x3⟩ | ⟨e3, ρ3, le3, rel3, no3, x3⟩ | ⟨t3, tl3, ρ3, le3, rel3, no3, x3⟩
    · subst e3
      rcases rel_argB w4 (rel_nil W) own_nil with ⟨e4, x4⟩ | ⟨e4, ρ4, le4, rel4, no4, x4⟩ | ⟨t4, tl4, ρ4, le4, rel4, no4, x4⟩
      · subst e4
        obtain ⟨H', hok⟩ := law_nnn a0 w0 a1 w1
        exact walk_ok (c := cfg) (uargs := [_, _, _, _, _]) hok (rel_nil W) own_nil (.cons _ _ _ _ (.int _ _) (.cons _ _ _ _ (.int _ _) (.cons _ _ _ _ x2 (.cons _ _ _ _ x3 (.cons _ _ _ _ x4 .nil)))))
      · subst e4
        obtain ⟨H', hok⟩ := law_nnv a0 w0 a1 w1
        exact walk_ok (c := cfg) (uargs := [_, _, _, _, _]) hok rel4 no4 (.cons _ _ _ _ (.int _ _) (.cons _ _ _ _ (.int _ _) (.cons _ _ _ _ (x2.mono le4) (.cons _ _ _ _ (x3.mono le4) (.cons _ _ _ _ x4 .nil)))))
      · clear w4
        obtain ⟨H', hok⟩ := law_nnr a0 w0 a1 w1 a4 t4 tl4
        exact walk_ok (c := cfg) (uargs := [_, _, _, _, _]) hok rel4 no4 (.cons _ _ _ _ (.int _ _) (.cons _ _ _ _ (.int _ _) (.cons _ _ _ _ (x2.mono le4) (.cons _ _ _ _ (x3.mono le4) (.cons _ _ _ _ x4 .nil)))))
    · subst e3
      rcases rel_argB w4 rel3 no3 with ⟨e4, x4⟩ | ⟨e4, ρ4, le4, rel4, no4, x4⟩ | ⟨t4, tl4, ρ4, le4, rel4, no4, x4⟩
      · subst e4
        obtain ⟨H', hok⟩ := law_nvn a0 w0 a1 w1
        exact walk_ok (c := cfg) (uargs := [_, _, _, _, _]) hok rel3 no3 (.cons _ _ _ _ (.int _ _) (.cons _ _ _ _ (.int _ _) (.cons _ _ _ _ (x2.mono le3) (.cons _ _ _ _ x3 (.cons _ _ _ _ x4 .nil)))))
      · subst e4
        obtain ⟨H', hok⟩ := law_nvv a0 w0 a1 w1
        exact walk_ok (c := cfg) (uargs := [_, _, _, _, _]) hok rel4 no4 (.cons _ _ _ _ (.int _ _) (.cons _ _ _ _ (.int _ _) (.cons _ _ _ _ ((x2.mono le3).mono le4) (.cons _ _ _ _ (x3.mono le4) (.cons _ _ _ _ x4 .nil)))))
      · clear w4
        obtain ⟨H', hok⟩ := law_nvr a0 w0 a1 w1 a4 t4 tl4
        exact walk_ok (c := cfg) (uargs := [_, _, _, _, _]) hok rel4 no4 (.cons _ _ _ _ (.int _ _) (.cons _ _ _ _ (.int _ _) (.cons _ _ _ _ ((x2.mono le3).mono le4) (.cons _ _ _ _ (x3.mono le4) (.cons _ _ _ _ x4 .nil)))))
    · clear w3
      rcases rel_argB w4 rel3 no3 with ⟨e4, x4⟩ | ⟨e4, ρ4, le4, rel4, no4, x4⟩ | ⟨t4, tl4, ρ4, le4, rel4, no4, x4⟩
      · subst e4
        obtain ⟨H', hok⟩ := law_nrn a0 w0 a1 w1 a3 t3 tl3
        exact walk_ok (c := cfg) (uargs := [_, _, _, _, _]) hok rel3 no3 (.cons _ _ _ _ (.int _ _) (.cons _ _ _ _ (.int _ _) (.cons _ _ _ _ (x2.mono le3) (.cons _ _ _ _ x3 (.cons _ _ _ _ x4 .nil)))))
      · subst e4
        obtain ⟨H', hok⟩ := law_nrv a0 w0 a1 w1 a3 t3 tl3
        exact walk_ok (c := cfg) (uargs := [_, _, _, _, _]) hok rel4 no4 (.cons _ _ _ _ (.int _ _) (.cons _ _ _ _ (.int _ _) (.cons _ _ _ _ ((x2.mono le3).mono le4) (.cons _ _ _ _ (x3.mono le4) (.cons _ _ _ _ x4 .nil)))))
      · clear w4
        obtain ⟨H', hok⟩ := law_nrr a0 w0 a1 w1 a3 t3 tl3 a4 t4 tl4
        exact walk_ok (c := cfg) (uargs := [_, _, _, _, _]) hok rel4 no4 (.cons _ _ _ _ (.int _ _) (.cons _ _ _ _ (.int _ _) (.cons _ _ _ _ ((x2.mono le3).mono le4) (.cons _ _ _ _ (x3.mono le4) (.cons _ _ _ _ x4 .nil)))))
  · skip
    rcases rel_argB w3 rel2 no2 with ⟨e3, x3⟩ | ⟨e3, ρ3, le3, rel3, no3, x3⟩ | ⟨t3, tl3, ρ3, le3, rel3, no3, x3⟩
    · subst e3
      rcases rel_argB w4 rel2 no2 with ⟨e4, x4⟩ | ⟨e4, ρ4, le4, rel4, no4, x4⟩ | ⟨t4, tl4, ρ4, le4, rel4, no4, x4⟩
      · subst e4
        obtain ⟨H', hok⟩ := law_vnn a0 w0 a1 w1
        exact walk_ok (c := cfg) (uargs := [_, _, _, _, _]) hok rel2 no2 (.cons _ _ _ _ (.int _ _) (.cons _ _ _ _ (.int _ _) (.cons _ _ _ _ x2 (.cons _ _ _ _ x3 (.cons _ _ _ _ x4 .nil)))))
      · subst e4
        obtain ⟨H', hok⟩ := law_vnv a0 w0 a1 w1
        exact walk_ok (c := cfg) (uargs := [_, _, _, _, _]) hok rel4 no4 (.cons _ _ _ _ (.int _ _) (.cons _ _ _ _ (.int _ _) (.cons _ _ _ _ (x2.mono le4) (.cons _ _ _ _ (x3.mono le4) (.cons _ _ _ _ x4 .nil)))))
      · clear w4
        obtain ⟨H', hok⟩ := law_vnr a0 w0 a1 w1 a4 t4 tl4
        exact walk_ok (c := cfg) (uargs := [_, _, _, _, _]) hok rel4 no4 (.cons _ _ _ _ (.int _ _) (.cons _ _ _ _ (.int _ _) (.cons _ _ _ _ (x2.mono le4) (.cons _ _ _ _ (x3.mono le4) (.cons _ _ _ _ x4 .nil)))))
    · subst e3
      rcases rel_argB w4 rel3 no3 with ⟨e4, x4⟩ | ⟨e4, ρ4, le4, rel4, no4, x4⟩ | ⟨t4, tl4, ρ4, le4, rel4, no4, x4⟩
      · subst e4
        obtain ⟨H', hok⟩ := law_vvn a0 w0 a1 w1
        exact walk_ok (c := cfg) (uargs := [_, _, _, _, _]) hok rel3 no3 (.cons _ _ _ _ (.int _ _) (.cons _ _ _ _ (.int _ _) (.cons _ _ _ _ (x2.mono le3) (.cons _ _ _ _ x3 (.cons _ _ _ _ x4 .nil)))))
      · subst e4
        obtain ⟨H', hok⟩ := law_vvv a0 w0 a1 w1
        exact walk_ok (c := cfg) (uargs := [_, _, _, _, _]) hok rel4 no4 (.cons _ _ _ _ (.int _ _) (.cons _ _ _ _ (.int _ _) (.cons _ _ _ _ ((x2.mono le3).mono le4) (.cons _ _ _ _ (x3.mono le4) (.cons _ _ _ _ x4 .nil)))))
      · clear w4
        obtain ⟨H', hok⟩ := law_vvr a0 w0 a1 w1 a4 t4 tl4
        exact walk_ok (c := cfg) (uargs := [_, _, _, _, _]) hok rel4 no4 (.cons _ _ _ _ (.int _ _) (.cons _ _ _ _ (.int _ _) (.cons _ _ _ _ ((x2.mono le3).mono le4) (.cons _ _ _ _ (x3.mono le4) (.cons _ _ _ _ x4 .nil)))))
    · clear w3
      rcases rel_argB w4 rel3 no3 with ⟨e4, x4⟩ | ⟨e4, ρ4, le4, rel4, no4, x4⟩ | ⟨t4, tl4, ρ4, le4, rel4, no4, x4⟩
      · subst e4
        obtain ⟨H', hok⟩ := law_vrn a0 w0 a1 w1 a3 t3 tl3
        exact walk_ok (c := cfg) (uargs := [_, _, _, _, _]) hok rel3 no3 (.cons _ _ _ _ (.int _ _) (.cons _ _ _ _ (.int _ _) (.cons _ _ _ _ (x2.mono le3) (.cons _ _ _ _ x3 (.cons _ _ _ _ x4 .nil)))))
      · subst e4
        obtain ⟨H', hok⟩ := law_vrv a0 w0 a1 w1 a3 t3 tl3
        exact walk_ok (c := cfg) (uargs := [_, _, _, _, _]) hok rel4 no4 (.cons _ _ _ _ (.int _ _) (.cons _ _ _ _ (.int _ _) (.cons _ _ _ _ ((x2.mono le3).mono le4) (.cons _ _ _ _ (x3.mono le4) (.cons _ _ _ _ x4 .nil)))))
      · clear w4
        obtain ⟨H', hok⟩ := law_vrr a0 w0 a1 w1 a3 t3 tl3 a4 t4 tl4
        exact walk_ok (c := cfg) (uargs := [_, _, _, _, _]) hok rel4 no4 (.cons _ _ _ _ (.int _ _) (.cons _ _ _ _ (.int _ _) (.cons _ _ _ _ ((x2.mono le3).mono le4) (.cons _ _ _ _ (x3.mono le4) (.cons _ _ _ _ x4 .nil)))))
  · clear w2
    obtain ⟨rs3, ρ3, v3, le3, rel3, no3, x3, t3, tl3, hv3⟩ := rel_arg2 w3 rel2 no2 (aa_rows _ C2 _ a2.flatten)
    clear w3
    obtain ⟨rs4, ρ4, v4, le4, rel4, no4, x4, t4, tl4, hv4⟩ := rel_arg2 w4 rel3 no3 (snoc_at _ _)
    clear w4
    obtain ⟨H', hok⟩ := law_dxx a0 w0 a1 w1 C2 a2 hp2 hl2 hu2 t2 rs3 v3 t3 hv3 tl3 rs4 v4 t4 hv4 tl4
    exact walk_ok (c := cfg) (uargs := [_, _, _, _, _]) hok rel4 no4 (.cons _ _ _ _ (.int _ _) (.cons _ _ _ _ (.int _ _) (.cons _ _ _ _ ((x2.mono le3).mono le4) (.cons _ _ _ _ (x3.mono le4) (.cons _ _ _ _ x4 .nil)))))
set_option maxRecDepth 100000 in
theorem lifted (os : Os) (started : os.Started) (H : Type) (enc : TypeId × Value → H) :
    ReturnsInHanded {} Try.checked os 4 .any (Rows.latchHoldsSpec.pre6 enc Try.prog Try.f4 Rows.latchHoldsRow.domain false) (Rows.latchHoldsSpec.post enc Try.prog Try.f4 false true false false) := by
  refine returnsInHanded_of_change_sized (C := Try.checked) own started (by kernel_rfl) Try.func4
    (ChangeSpec.witness6 (enc := enc) (C := Try.checked) false ⟨#[], #[.int .i64 0, .int .i64 0, .slice none 0 0, .slice none 0 0, .slice none 0 0], []⟩ 8 (by kernel_rfl) (by kernel_rfl) (by kernel_rfl) (by kernel_rfl)) ?_
  intro W base args ds gs before hval0 hW hcnd hsz0 _
  have hsz : (DataW.weightsEach Try.prog (Try.f4.params.toList ++ Rows.latchHoldsSpec.plain.varTypes Try.prog) (ds ++ gs)).all (· ≤ reachBytes) = true := hsz0
  have hval : ∀ (j : Nat) t v, Try.f4.params[j]? = some t → args[j]? = some v → Value.okWide Try.prog W .any base t v := hval0
  have hW' := hW
  obtain ⟨p, q, hA0, hV, rfl, hfz, hnd⟩ := hW
  have hA : DataW.TrodAll enc Try.prog W 0 (fun _ => true) true Try.f4.params.toList args.toList ds p := hA0
  rw [Try.params4] at hA hval hsz
  obtain ⟨v0, vs0, d0, ds0, p0, q0, hargs, rfl, rfl, h0, g0⟩ := trodAll_cons hA
  obtain ⟨v1, vs1, d1, ds1, p1, q1, rfl, rfl, rfl, h1, g1⟩ := trodAll_cons g0
  obtain ⟨v2, vs2, d2, ds2, p2, q2, rfl, rfl, rfl, h2, g2⟩ := trodAll_cons g1
  obtain ⟨v3, vs3, d3, ds3, p3, q3, rfl, rfl, rfl, h3, g3⟩ := trodAll_cons g2
  obtain ⟨v4, vs4, d4, ds4, p4, q4, rfl, rfl, rfl, h4, g4⟩ := trodAll_cons g3
  obtain ⟨rfl, rfl, rfl⟩ := trodAll_nil g4
  obtain rfl : args = #[v0, v1, v2, v3, v4] := by cases args; simp_all
  obtain ⟨rfl, rfl⟩ := trodVars_none hV
  obtain ⟨z0, hsz⟩ := wE_head hsz
  obtain ⟨z1, hsz⟩ := wE_head hsz
  obtain ⟨z2, hsz⟩ := wE_head hsz
  obtain ⟨z3, hsz⟩ := wE_head hsz
  obtain ⟨z4, hsz⟩ := wE_head hsz
  have k0 := h0
  have lt0 : ∀ x ∈ p0, x.block < W.heap.size := by obtain ⟨m, hm⟩ := k0; exact DataW.trod_lt m _ _ _ hm
  obtain ⟨a0, rfl, w0⟩ := arg_int Try.underlying3 (hval 0 3 v0 rfl rfl) h0
  have k1 := h1
  have lt1 : ∀ x ∈ p1, x.block < W.heap.size := by obtain ⟨m, hm⟩ := k1; exact DataW.trod_lt m _ _ _ hm
  obtain ⟨a1, rfl, w1⟩ := arg_int Try.underlying3 (hval 1 3 v1 rfl rfl) h1
  have k2 := h2
  have lt2 : ∀ x ∈ p2, x.block < W.heap.size := by obtain ⟨m, hm⟩ := k2; exact DataW.trod_lt m _ _ _ hm
  have w2 := arg_slN (d := 4) Try.underlying45 (by kernel_rfl) (of_decide_eq_true (by kernel_rfl)) z2 (of_decide_eq_true (by kernel_rfl)) (hval 2 45 v2 rfl rfl) h2
  have k3 := h3
  have lt3 : ∀ x ∈ p3, x.block < W.heap.size := by obtain ⟨m, hm⟩ := k3; exact DataW.trod_lt m _ _ _ hm
  obtain ⟨a3, w3⟩ := arg_sl (d := 4) Try.underlying46 (by kernel_rfl) (of_decide_eq_true (by kernel_rfl)) z3 (of_decide_eq_true (by kernel_rfl)) (hval 3 46 v3 rfl rfl) h3
  have k4 := h4
  have lt4 : ∀ x ∈ p4, x.block < W.heap.size := by obtain ⟨m, hm⟩ := k4; exact DataW.trod_lt m _ _ _ hm
  obtain ⟨a4, w4⟩ := arg_sl (d := 4) Try.underlying46 (by kernel_rfl) (of_decide_eq_true (by kernel_rfl)) z4 (of_decide_eq_true (by kernel_rfl)) (hval 4 46 v4 rfl rfl) h4
  clear hA0 hval0 hsz0 hsz
  refine (walk w0 w1 w2 w3 w4).mono fun e W' ⟨he, bel⟩ => ?_
  subst he
  exact ⟨_, rfl, _, _, _, [], _, [], hW', trodAll_mk1 (shut_bool Try.underlying4 _), (trodAll_cons_mk (Below.trod laidOut (by kernel_rfl) (of_decide_eq_true (by kernel_rfl)) k0 bel lt0) (trodAll_cons_mk (Below.trod laidOut (by kernel_rfl) (of_decide_eq_true (by kernel_rfl)) k1 bel lt1) (trodAll_cons_mk (Below.trod laidOut (by kernel_rfl) (of_decide_eq_true (by kernel_rfl)) k2 bel lt2) (trodAll_cons_mk (Below.trod laidOut (by kernel_rfl) (of_decide_eq_true (by kernel_rfl)) k3 bel lt3) (trodAll_cons_mk (Below.trod laidOut (by kernel_rfl) (of_decide_eq_true (by kernel_rfl)) k4 bel lt4) trodAll_mk0))))), rfl, bel.frame _, fun h => by cases h⟩
theorem over : Rows.latchHoldsRow.holds Try.pinned (OpenSpec.ofChange Rows.latchHoldsSpec) :=
  OpenClaim.holds_of_wide 4 Try.f4 rfl rfl rfl rfl rfl rfl rfl ⟨rfl, rfl, rfl, rfl, rfl⟩ rfl rfl rfl rfl rfl (by kernel_rfl) Try.func4 (by kernel_rfl)
    (of_decide_eq_true (by kernel_rfl)) (by unfold Func.isWrapper; first | (rw [if_pos (by decide +kernel)]; kernel_rfl) | (rw [if_neg (by decide +kernel)]; exact ⟨rfl, rfl⟩))
    (fun os started H enc _ => lifted os started H enc)
theorem proved : Rows.LatchHoldsSaid := over
#print axioms proved
end Go.Proofs.Ytfhjdnekidhjnaa.latchHolds
namespace Go.Proofs.Ytfhjdnekidhjnaa
/-- The row, under a short name, for the claim. -/
theorem latchHolds_holds : Rows.LatchHoldsSaid := latchHolds.proved
end Go.Proofs.Ytfhjdnekidhjnaa
