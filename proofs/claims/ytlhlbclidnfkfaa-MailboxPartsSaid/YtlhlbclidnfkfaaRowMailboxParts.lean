/-
  Whatever is put into one part of a mailbox, the other one has room as before.
-/
import Derived.Test.YtlhlbclidnfkfaaRows
import Derived.Test.YtlhlbclidnfkfaaMb7
import Derived.WalkKit
import Derived.ProofKit
import Derived.OpenShut
import Derived.ShutString
import Derived.ChangeOld
import Derived.Below
import Derived.SizedLaws
namespace Go.Proofs.Ytlhlbclidnfkfaa.mailboxParts
open Go.Vm
open Go.ChangeShapes Go.WideShapes Go.ChangeAt Go.RowKit
set_option linter.unusedVariables false
set_option linter.unusedSimpArgs false
set_option maxRecDepth 100000
theorem own : ownKnob Try.prog.godebug = none := by kernel_rfl
theorem laidOut : laidOutB Try.prog = true := by kernel_rfl
theorem walk {W : World} {u0 : Value} {a0 : List (List V)} (w0 : ArgSl (leaves Try.prog 4 29) (esOf Try.prog 29) W u0 a0) {a1 : Bool} {u2 : Value} {a2 : List V} (w2 : Typed (leaves Try.prog 4 29) a2) (r2 : ∀ ρ, VR ρ (.agg a2) u2) :
    Calls Try.prog 4 #[u0, .bool a1, u2] W fun e W' => e = .returned (.bool true) ∧ Below W.heap.size W W' := by
  rcases rel_arg w0 (rel_nil W) own_nil with ⟨e0, x0⟩ | ⟨e0, ρ0, le0, rel0, no0, x0⟩ | ⟨t0, ρ0, le0, rel0, no0, x0⟩
  · subst e0
    obtain ⟨H', hok⟩ := law_n a1 a2 w2
    exact walk_ok (c := cfg) (uargs := [_, _, _]) hok (rel_nil W) own_nil (.cons _ _ _ _ x0 (.cons _ _ _ _ (.bool _) (.cons _ _ _ _ (r2 _) .nil)))
  · subst e0
    obtain ⟨H', hok⟩ := law_v a1 a2 w2
    exact walk_ok (c := cfg) (uargs := [_, _, _]) hok rel0 no0 (.cons _ _ _ _ x0 (.cons _ _ _ _ (.bool _) (.cons _ _ _ _ (r2 _) .nil)))
  · clear w0
    obtain ⟨H', hok⟩ := law_r a0 t0 a1 a2 w2
    exact walk_ok (c := cfg) (uargs := [_, _, _]) hok rel0 no0 (.cons _ _ _ _ x0 (.cons _ _ _ _ (.bool _) (.cons _ _ _ _ (r2 _) .nil)))
set_option maxRecDepth 100000 in
theorem lifted (os : Os) (started : os.Started) (H : Type) (enc : TypeId × Value → H) :
    ReturnsInHanded {} Try.checked os 4 .any (Rows.mailboxPartsSpec.pre6 enc Try.prog Try.f4 Rows.mailboxPartsRow.domain false) (Rows.mailboxPartsSpec.post enc Try.prog Try.f4 false true false false) := by
  refine returnsInHanded_of_change_sized (C := Try.checked) own started (by kernel_rfl) Try.func4
    (ChangeSpec.witness6 (enc := enc) (C := Try.checked) false ⟨#[], #[.slice none 0 0, .bool false, .agg #[.int .i64 0, .bool false, .int .i64 0, .int .u8 0, .int .u8 0, .int .u8 0, .int .u8 0, .int .u8 0, .int .u8 0, .int .u8 0, .int .u8 0]], []⟩ 8 (by kernel_rfl) (by kernel_rfl) (by kernel_rfl) (by kernel_rfl)) ?_
  intro W base args ds gs before hval0 hW hcnd hsz0 _
  have hsz : (DataW.weightsEach Try.prog (Try.f4.params.toList ++ Rows.mailboxPartsSpec.plain.varTypes Try.prog) (ds ++ gs)).all (· ≤ reachBytes) = true := hsz0
  have hval : ∀ (j : Nat) t v, Try.f4.params[j]? = some t → args[j]? = some v → Value.okWide Try.prog W .any base t v := hval0
  have hW' := hW
  obtain ⟨p, q, hA0, hV, rfl, hfz, hnd⟩ := hW
  have hA : DataW.TrodAll enc Try.prog W 0 (fun _ => true) true Try.f4.params.toList args.toList ds p := hA0
  rw [Try.params4] at hA hval hsz
  obtain ⟨v0, vs0, d0, ds0, p0, q0, hargs, rfl, rfl, h0, g0⟩ := trodAll_cons hA
  obtain ⟨v1, vs1, d1, ds1, p1, q1, rfl, rfl, rfl, h1, g1⟩ := trodAll_cons g0
  obtain ⟨v2, vs2, d2, ds2, p2, q2, rfl, rfl, rfl, h2, g2⟩ := trodAll_cons g1
  obtain ⟨rfl, rfl, rfl⟩ := trodAll_nil g2
  obtain rfl : args = #[v0, v1, v2] := by cases args; simp_all
  obtain ⟨rfl, rfl⟩ := trodVars_none hV
  have k0 := h0
  have lt0 : ∀ x ∈ p0, x.block < W.heap.size := by obtain ⟨m, hm⟩ := k0; exact DataW.trod_lt m _ _ _ hm
  obtain ⟨a0, w0⟩ := arg_sl (d := 4) Try.underlying22 (by kernel_rfl) (of_decide_eq_true (by kernel_rfl)) (hval 0 22 v0 rfl rfl) h0
  have k1 := h1
  have lt1 : ∀ x ∈ p1, x.block < W.heap.size := by obtain ⟨m, hm⟩ := k1; exact DataW.trod_lt m _ _ _ hm
  obtain ⟨a1, rfl⟩ := arg_bool Try.underlying4 (hval 1 4 v1 rfl rfl)
  have k2 := h2
  have lt2 : ∀ x ∈ p2, x.block < W.heap.size := by obtain ⟨m, hm⟩ := k2; exact DataW.trod_lt m _ _ _ hm
  obtain ⟨a2, w2, r2⟩ := arg_agg (d := 4) (by kernel_rfl) (by kernel_rfl) (hval 2 29 v2 rfl rfl) h2
  clear hA0 hval0 hsz0 hsz
  refine (walk w0 w2 r2).mono fun e W' ⟨he, bel⟩ => ?_
  subst he
  exact ⟨_, rfl, _, _, _, [], _, [], hW', trodAll_mk1 (shut_bool Try.underlying4 _), (trodAll_cons_mk (Below.trod laidOut (by kernel_rfl) (of_decide_eq_true (by kernel_rfl)) k0 bel lt0) (trodAll_cons_mk (Below.trod laidOut (by kernel_rfl) (of_decide_eq_true (by kernel_rfl)) k1 bel lt1) (trodAll_cons_mk (Below.trod laidOut (by kernel_rfl) (of_decide_eq_true (by kernel_rfl)) k2 bel lt2) trodAll_mk0))), rfl, bel.frame _, fun h => by cases h⟩
theorem over : Rows.mailboxPartsRow.holds Try.pinned (OpenSpec.ofChange Rows.mailboxPartsSpec) :=
  OpenClaim.holds_of_wide 4 Try.f4 rfl rfl rfl rfl rfl rfl rfl ⟨rfl, rfl, rfl, rfl, rfl⟩ rfl rfl rfl rfl rfl (by kernel_rfl) Try.func4 (by kernel_rfl)
    (of_decide_eq_true (by kernel_rfl)) (by unfold Func.isWrapper; first | (rw [if_pos (by decide +kernel)]; kernel_rfl) | (rw [if_neg (by decide +kernel)]; exact ⟨rfl, rfl⟩))
    (fun os started H enc _ => lifted os started H enc)
theorem proved : Rows.MailboxPartsSaid := over
#print axioms proved
end Go.Proofs.Ytlhlbclidnfkfaa.mailboxParts
namespace Go.Proofs.Ytlhlbclidnfkfaa
/-- The row, under a short name, for the claim. -/
theorem mailboxParts_holds : Rows.MailboxPartsSaid := mailboxParts.proved
end Go.Proofs.Ytlhlbclidnfkfaa
