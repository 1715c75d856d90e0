/-
  The row of the law of segments, and of the line that ends a transfer.
-/
import Derived.Test.YtnlpkjpepmmabaaRows
import Derived.Test.YtnlpkjpepmmabaaWaySdomsgSegs
import Derived.WalkKit
import Derived.ProofKit
import Derived.OpenShut
import Derived.ShutString
import Derived.ChangeOld
import Derived.Below
import Derived.SizedLaws
namespace Go.Proofs.Ytnlpkjpepmmabaa.sdomsgSegs
open Go.Vm
open Go.ChangeShapes Go.WideShapes Go.ChangeAt Go.RowKit
set_option linter.unusedVariables false
set_option linter.unusedSimpArgs false
set_option maxRecDepth 100000
theorem own : ownKnob Try.prog.godebug = none := by kernel_rfl
theorem laidOut : laidOutB Try.prog = true := by kernel_rfl
theorem walk {W : World} {a0 : Int} (w0 : (Lit.int .i64 a0).wf = true) {a1 : Bool} {u2 : Value} {a2 : List (List V)} (w2 : ArgSl (leaves Try.prog 3 5) (esOf Try.prog 5) W u2 a2) {u3 : Value} {a3 : List V} (w3 : Typed (leaves Try.prog 4 70) a3) (r3 : ∀ ρ, VR ρ (.agg a3) u3) {u4 : Value} {a4 : List V} (w4 : Typed (leaves Try.prog 4 65) a4) (r4 : ∀ ρ, VR ρ (.agg a4) u4) {a5 : Int} (w5 : (Lit.int .i64 a5).wf = true) :
    Calls Try.prog 8 #[.int .i64 a0, .bool a1, u2, u3, u4, .int .i64 a5] W fun e W' => e = .returned (.bool true) ∧ Below W.heap.size W W' := by
  rcases rel_arg w2 (rel_nil W) own_nil with ⟨e2, x2⟩ | ⟨e2, ρ2, le2, rel2, no2, x2⟩ | ⟨t2, ρ2, le2, rel2, no2, x2⟩
  · subst e2
    obtain ⟨H', hok⟩ := law_n a0 w0 a1 a3 w3 a4 w4 a5 w5
    exact walk_ok (c := cfg) (uargs := [_, _, _, _, _, _]) hok (rel_nil W) own_nil (.cons _ _ _ _ (.int _ _) (.cons _ _ _ _ (.bool _) (.cons _ _ _ _ x2 (.cons _ _ _ _ (r3 _) (.cons _ _ _ _ (r4 _) (.cons _ _ _ _ (.int _ _) .nil))))))
  · subst e2
    obtain ⟨H', hok⟩ := law_v a0 w0 a1 a3 w3 a4 w4 a5 w5
    exact walk_ok (c := cfg) (uargs := [_, _, _, _, _, _]) hok rel2 no2 (.cons _ _ _ _ (.int _ _) (.cons _ _ _ _ (.bool _) (.cons _ _ _ _ x2 (.cons _ _ _ _ (r3 _) (.cons _ _ _ _ (r4 _) (.cons _ _ _ _ (.int _ _) .nil))))))
  · clear w2
    obtain ⟨H', hok⟩ := law_r a0 w0 a1 a2 t2 a3 w3 a4 w4 a5 w5
    exact walk_ok (c := cfg) (uargs := [_, _, _, _, _, _]) hok rel2 no2 (.cons _ _ _ _ (.int _ _) (.cons _ _ _ _ (.bool _) (.cons _ _ _ _ x2 (.cons _ _ _ _ (r3 _) (.cons _ _ _ _ (r4 _) (.cons _ _ _ _ (.int _ _) .nil))))))
set_option maxRecDepth 100000 in
theorem lifted (os : Os) (started : os.Started) (H : Type) (enc : TypeId × Value → H) :
    ReturnsInHanded {} Try.checked os 8 .any (Rows.sdomsgSegsSpec.pre6 enc Try.prog Try.f8 Rows.sdomsgSegsRow.domain false) (Rows.sdomsgSegsSpec.post enc Try.prog Try.f8 false true false false) := by
  refine returnsInHanded_of_change_sized (C := Try.checked) own started (by kernel_rfl) Try.func8
    (ChangeSpec.witness6 (enc := enc) (C := Try.checked) false ⟨#[], #[.int .i64 0, .bool false, .slice none 0 0, .agg #[.int .u8 0, .int .u8 0, .int .u8 0, .int .u8 0, .int .u8 0, .int .u8 0, .int .u8 0, .int .u8 0], .agg #[.int .i64 0, .int .i64 0], .int .i64 0], []⟩ 8 (by kernel_rfl) (by kernel_rfl) (by kernel_rfl) (by kernel_rfl)) ?_
  intro W base args ds gs before hval0 hW hcnd hsz0 _
  have hsz : (DataW.weightsEach Try.prog (Try.f8.params.toList ++ Rows.sdomsgSegsSpec.plain.varTypes Try.prog) (ds ++ gs)).all (· ≤ reachBytes) = true := hsz0
  have hval : ∀ (j : Nat) t v, Try.f8.params[j]? = some t → args[j]? = some v → Value.okWide Try.prog W .any base t v := hval0
  have hW' := hW
  obtain ⟨p, q, hA0, hV, rfl, hfz, hnd⟩ := hW
  have hA : DataW.TrodAll enc Try.prog W 0 (fun _ => true) true Try.f8.params.toList args.toList ds p := hA0
  rw [Try.params8] at hA hval hsz
  obtain ⟨v0, vs0, d0, ds0, p0, q0, hargs, rfl, rfl, h0, g0⟩ := trodAll_cons hA
  obtain ⟨v1, vs1, d1, ds1, p1, q1, rfl, rfl, rfl, h1, g1⟩ := trodAll_cons g0
  obtain ⟨v2, vs2, d2, ds2, p2, q2, rfl, rfl, rfl, h2, g2⟩ := trodAll_cons g1
  obtain ⟨v3, vs3, d3, ds3, p3, q3, rfl, rfl, rfl, h3, g3⟩ := trodAll_cons g2
  obtain ⟨v4, vs4, d4, ds4, p4, q4, rfl, rfl, rfl, h4, g4⟩ := trodAll_cons g3
  obtain ⟨v5, vs5, d5, ds5, p5, q5, rfl, rfl, rfl, h5, g5⟩ := trodAll_cons g4
  obtain ⟨rfl, rfl, rfl⟩ := trodAll_nil g5
  obtain rfl : args = #[v0, v1, v2, v3, v4, v5] := by cases args; simp_all
  obtain ⟨rfl, rfl⟩ := trodVars_none hV
  have k0 := h0
  have lt0 : ∀ x ∈ p0, x.block < W.heap.size := by obtain ⟨m, hm⟩ := k0; exact DataW.trod_lt m _ _ _ hm
  obtain ⟨a0, rfl, w0⟩ := arg_int Try.underlying3 (hval 0 3 v0 rfl rfl) h0
  have k1 := h1
  have lt1 : ∀ x ∈ p1, x.block < W.heap.size := by obtain ⟨m, hm⟩ := k1; exact DataW.trod_lt m _ _ _ hm
  obtain ⟨a1, rfl⟩ := arg_bool Try.underlying4 (hval 1 4 v1 rfl rfl)
  have k2 := h2
  have lt2 : ∀ x ∈ p2, x.block < W.heap.size := by obtain ⟨m, hm⟩ := k2; exact DataW.trod_lt m _ _ _ hm
  obtain ⟨a2, w2⟩ := arg_sl (d := 3) Try.underlying74 (by kernel_rfl) (of_decide_eq_true (by kernel_rfl)) (hval 2 74 v2 rfl rfl) h2
  have k3 := h3
  have lt3 : ∀ x ∈ p3, x.block < W.heap.size := by obtain ⟨m, hm⟩ := k3; exact DataW.trod_lt m _ _ _ hm
  obtain ⟨a3, w3, r3⟩ := arg_agg (d := 4) (by kernel_rfl) (by kernel_rfl) (hval 3 70 v3 rfl rfl) h3
  have k4 := h4
  have lt4 : ∀ x ∈ p4, x.block < W.heap.size := by obtain ⟨m, hm⟩ := k4; exact DataW.trod_lt m _ _ _ hm
  obtain ⟨a4, w4, r4⟩ := arg_agg (d := 4) (by kernel_rfl) (by kernel_rfl) (hval 4 65 v4 rfl rfl) h4
  have k5 := h5
  have lt5 : ∀ x ∈ p5, x.block < W.heap.size := by obtain ⟨m, hm⟩ := k5; exact DataW.trod_lt m _ _ _ hm
  obtain ⟨a5, rfl, w5⟩ := arg_int Try.underlying3 (hval 5 3 v5 rfl rfl) h5
  clear hA0 hval0 hsz0 hsz
  refine (walk w0 w2 w3 r3 w4 r4 w5).mono fun e W' ⟨he, bel⟩ => ?_
  subst he
  exact ⟨_, rfl, _, _, _, [], _, [], hW', trodAll_mk1 (shut_bool Try.underlying4 _), (trodAll_cons_mk (Below.trod laidOut (by kernel_rfl) (of_decide_eq_true (by kernel_rfl)) k0 bel lt0) (trodAll_cons_mk (Below.trod laidOut (by kernel_rfl) (of_decide_eq_true (by kernel_rfl)) k1 bel lt1) (trodAll_cons_mk (Below.trod laidOut (by kernel_rfl) (of_decide_eq_true (by kernel_rfl)) k2 bel lt2) (trodAll_cons_mk (Below.trod laidOut (by kernel_rfl) (of_decide_eq_true (by kernel_rfl)) k3 bel lt3) (trodAll_cons_mk (Below.trod laidOut (by kernel_rfl) (of_decide_eq_true (by kernel_rfl)) k4 bel lt4) (trodAll_cons_mk (Below.trod laidOut (by kernel_rfl) (of_decide_eq_true (by kernel_rfl)) k5 bel lt5) trodAll_mk0)))))), rfl, bel.frame _, fun h => by cases h⟩
theorem over : Rows.sdomsgSegsRow.holds Try.pinned (OpenSpec.ofChange Rows.sdomsgSegsSpec) :=
  OpenClaim.holds_of_wide 8 Try.f8 rfl rfl rfl rfl rfl rfl rfl ⟨rfl, rfl, rfl, rfl, rfl⟩ rfl rfl rfl rfl rfl (by kernel_rfl) Try.func8 (by kernel_rfl)
    (of_decide_eq_true (by kernel_rfl)) (by unfold Func.isWrapper; first | (rw [if_pos (by decide +kernel)]; kernel_rfl) | (rw [if_neg (by decide +kernel)]; exact ⟨rfl, rfl⟩))
    (fun os started H enc _ => lifted os started H enc)
theorem proved : Rows.SdomsgSegsSaid := over
#print axioms proved
end Go.Proofs.Ytnlpkjpepmmabaa.sdomsgSegs
namespace Go.Proofs.Ytnlpkjpepmmabaa
/-- The row, under a short name, for the claim. -/
theorem sdomsgSegs_holds : Rows.SdomsgSegsSaid := sdomsgSegs.proved
end Go.Proofs.Ytnlpkjpepmmabaa
