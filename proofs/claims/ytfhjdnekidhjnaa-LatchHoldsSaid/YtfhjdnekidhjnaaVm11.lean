/-
  One operation, in the model's logic of what comes behind.
-/
import Derived.Test.YtfhjdnekidhjnaaVm10
set_option linter.unusedVariables false
set_option linter.unusedSimpArgs false
namespace Go.Vm

theorem callView_rel {R : Type} {P : Program} {t : TypeId} {v : V} {K : V → Option R} {r : R} (h : callView P t v K = some r) : ∃ v', K v' = some r ∧ ∀ (ρ : Map) (u : Value), VR ρ v u → VR ρ v' u := by
  have one : ∀ {t : TypeId} {v : V} {K : V → Option R} {r : R}, callView.view1 P t v K = some r → ∃ v', K v' = some r ∧ ∀ (ρ : Map) (u : Value), VR ρ v u → VR ρ v' u := by
    intro t v K r h
    unfold callView.view1 at h
    split at h
    · split at h
      · obtain ⟨cs', h', hc⟩ := views_rel h
        refine ⟨_, h', fun ρ u hu => ?_⟩
        obtain ⟨us, hus, rfl⟩ := hu.inv_agg
        exact .agg _ _ (hc _ _ hus)
      · cases h
    · split at h
      · exact view_rel h
      · cases h
  have many : ∀ {vs : List V} {ts : List TypeId} {K : List V → Option R} {r : R}, callView.views' P vs ts K = some r → ∃ vs', K vs' = some r ∧ ∀ (ρ : Map) (us : List Value), VRL ρ vs us → VRL ρ vs' us := by
    intro vs
    induction vs with
    | nil =>
      intro ts K r h
      cases ts with
      | nil => exact ⟨[], h, fun _ _ hu => hu⟩
      | cons t ts => simp [callView.views'] at h
    | cons v vs ih =>
      intro ts K r h
      cases ts with
      | nil => simp [callView.views'] at h
      | cons t ts =>
        unfold callView.views' at h
        obtain ⟨v', h', hv⟩ := one h
        obtain ⟨vs', h'', hvs⟩ := ih h'
        refine ⟨v' :: vs', h'', fun ρ us hu => ?_⟩
        cases hu with
        | cons _ u _ us h1 h2 => exact .cons _ _ _ _ (hv _ _ h1) (hvs _ _ h2)
  unfold callView at h
  split at h
  · split at h
    · obtain ⟨vs', h', hv⟩ := many h
      refine ⟨_, h', fun ρ u hu => ?_⟩
      obtain ⟨us, hus, rfl⟩ := hu.inv_tup
      exact .tup _ _ (hv _ _ hus)
    · cases h
  · exact one h

section
variable {R : Type} {c : Cfg} {call : CallF} {o : Oper} {st : St} {H : Heap} {K : V → Heap → Option R} {r : R} {ρ : Map} {w : World} {a : Act}

def isCall (o : Oper) : Bool :=
  match o.op with
  | .call cl => match cl.callee with
    | .value _ => true
    | _ => false
  | _ => false

theorem op_sound (hnc : isCall o = false) (h : opX c call o st H K = some r) (hr : Rel ρ H w) (hs : SR ρ st a.tmps) : Did c o a K r ρ H w := by
  cases ho : o.op with
  | move x => exact did_move (.inl ho) h hr hs
  | assign x => exact did_move (.inr ho) h hr hs
  | pick x y z => exact did_pick ho h hr hs
  | alloc t => exact did_alloc ho h hr
  | box t x => exact did_box ho h hr hs
  | build t ps => exact did_build ho h hr hs
  | buildSlice t n ps => exact did_buildSlice ho h hr hs
  | load t x => exact did_load ho h hr hs
  | store t x y => exact did_store ho h hr hs
  | nilCheck x => exact did_nilCheck ho h hr hs
  | binOp op t x y t' => exact did_binOp ho h hr hs
  | unOp op t x => exact did_unOp ho h hr hs
  | convert s t x => exact did_convert ho h hr hs
  | makeFunc fn x y => exact did_makeFunc ho h hr hs
  | makeSlice t x y => exact did_makeSlice ho h hr hs
  | slice t x lo hi mx => exact did_slice ho h hr hs
  | fieldAddr s x f => exact did_fieldAddr ho h hr hs
  | field s x f => exact did_field ho h hr hs
  | indexAddr t x y => exact did_indexAddr ho h hr hs
  | index t x y => exact did_index ho h hr hs
  | extract x i => exact did_extract ho h hr hs
  | call cl =>
    cases hcl : cl.callee with
    | builtin b =>
      cases b with
      | len => exact did_len ho hcl h hr hs
      | min => exact did_min ho hcl h hr hs
      | max => exact did_max ho hcl h hr hs
      | append => exact did_append ho hcl h hr hs
      | cap => exact did_cap ho hcl h hr hs
      | copy => exact did_copy ho hcl h hr hs
      | clear => exact did_clear ho hcl h hr hs
      | _ => unfold opX at h; rw [ho] at h; simp [hcl] at h
    | value f => simp [isCall, ho, hcl] at hnc
    | invoke x m => unfold opX at h; rw [ho] at h; simp [hcl] at h
  | _ => unfold opX at h; rw [ho] at h; simp at h

/-- What a function value comes to, in the model. -/
def Goes (F : Fence) (n : Nat) (P : Program) (fv : Value) (args : List Value) (w : World) (Q : Ending → World → Prop) : Prop :=
  (∃ f us fn, fv = .func (.func f) #[] us ∧ P.funcs[f]? = some fn ∧ (fn.name == "runtime.NumGoroutine") = false ∧ fn.body.isSome = true ∧ CallsIn F n P f (args.toArray ++ us) w Q) ∨
  (∃ l f tmps assign body, fv = .func (.yield l) #[] #[] ∧ (Instr.yield l args.toArray).run P w = .ok (.round l f tmps assign body) w ∧ RoundIn F n P l f tmps assign body w Q) ∨
  (∃ f us fn v w', fv = .func (.func f) #[] us ∧ P.funcs[f]? = some fn ∧ fn.body.isSome = false ∧ (callFunc f (args.toArray ++ us)).run P w = .ok (.value v) w' ∧ Q (.returned v) w')

def Back (ρ : Map) (H : Heap) (w : World) (v : V) (H' : Heap) (e : Ending) (w' : World) : Prop :=
  ∃ u ρ', e = .returned u ∧ VR ρ' v u ∧ Rel ρ' H' w' ∧ Step ρ H w ρ' H' w'

/-- The calls are the model's. -/
def CallOK (c : Cfg) (call : CallF) (F : Fence) : Prop :=
  ∀ n fv args H v H', call fv args H = some (v, H') → ∀ ρ w ufv uargs, Rel ρ H w → VR ρ fv ufv → VRL ρ args uargs → Goes F n c.P ufv uargs w (Back ρ H w v H')

structure FOK (F : Fence) : Prop where
  fn : ∀ f, F.fn f
  depth : F.depth = none

theorem run_call_fn {P : Program} {f : FuncId} {fn : Func} (hf : P.funcs[f]? = some fn) (hn : (fn.name == "runtime.NumGoroutine") = false) (hb : fn.body.isSome = true) (args : Array Value) (w : World) :
    (callFunc f args).run P w = .ok (.enter f args) w := by
  obtain ⟨b, hb⟩ := Option.isSome_iff_exists.1 hb
  have hn' : fn.name ≠ "runtime.NumGoroutine" := by simpa using hn
  simp [callFunc, hf, hb, hn']

theorem wp_call {F : Fence} {n : Nat} {Q : Exit → Act → World → Prop} {next : Act → World → Prop} (hF : FOK F) (hC : CallOK c call F) {cl : Call} {f : Operand} (ho : o.op = .call cl) (hcl : cl.callee = .value f)
    (h : opX c call o st H K = some r) (hr : Rel ρ H w) (hs : SR ρ st a.tmps)
    (hn : ∀ v u ρ' H' w', VR ρ' v u → Rel ρ' H' w' → Step ρ H w ρ' H' w' → K v H' = some r → next (a.put o.dst u) w') : Oper.wpIn F n c.P o a w next Q := by
  refine ⟨fun f _ => hF.fn f, ?_⟩
  rw [Oper.semAt_eq _ _ _ (by intro c hc; rw [ho] at hc; cases hc)]
  unfold opX at h
  rw [ho] at h
  simp only [hcl] at h
  split at h
  · rename_i fv args h1 h2
    obtain ⟨⟨v, H'⟩, hc, h⟩ := Option.bind_eq_some_iff.1 h
    obtain ⟨v', hK, hv'⟩ := callView_rel h
    have e1 := ev_rel (a := a) hs h1
    have e2 : VRL ρ args (cl.args.map a.eval).toList := by rw [Array.toList_map]; exact evs_rel (a := a) hs h2
    have back : ∀ e w', Back ρ H w v H' e w' → (match e, w' with
      | .returned v, w'' => next (a.put o.dst v) w''
      | .panicked chain, w'' => Q (.panic chain) a w''
      | .outgrown, _ => LetsOut Q) := by
      rintro e w' ⟨u, ρ', rfl, hv, hrel, hstep⟩
      exact hn v' u ρ' H' w' (hv' _ _ hv) hrel hstep hK
    rcases hC (n - 1) fv args H v H' hc ρ w (a.eval f) (cl.args.map a.eval).toList hr e1 e2 with ⟨g, us, fn, k1, k2, k3, k4, k5⟩ | ⟨l, g, tmps, assign, body, k1, k2, k3⟩ | ⟨g, us, fn, u, w2, k1, k2, k3, k4, k5⟩
    · rw [Array.toArray_toList] at k5
      have hrun : (execOp a.eval o).run c.P w = .ok (.enter g (cl.args.map a.eval ++ us)) w := by
        simp [execOp, ho, resolve, hcl, k1, Deferred.ofValue, invoke, run_call_fn k2 k3 k4]
      rw [hrun, Oper.uponIn_enter]
      refine ⟨(fun hd => by rw [hF.depth] at hd; cases hd), k5.mono fun e w' hb => ?_⟩
      have := back e w' hb
      cases e <;> exact this
    · rw [Array.toArray_toList] at k2
      have hrun : (execOp a.eval o).run c.P w = .ok (.round l g tmps assign body) w := by
        simp [execOp, ho, resolve, hcl, k1, Deferred.ofValue, invoke]
        exact k2
      rw [hrun, Oper.uponIn_round]
      refine ⟨(fun hd => by rw [hF.depth] at hd; cases hd), k3.mono fun e w' hb => ?_⟩
      have := back e w' hb
      cases e <;> exact this
    · rw [Array.toArray_toList] at k4
      have hrun : (execOp a.eval o).run c.P w = .ok (.value u) w2 := by
        simp [execOp, ho, resolve, hcl, k1, Deferred.ofValue, invoke, k4, Result.andThen]
      rw [hrun]
      exact back _ _ k5
  · cases h

/-- An operation. -/
theorem wp_op {F : Fence} {n : Nat} {Q : Exit → Act → World → Prop} {next : Act → World → Prop} (hF : FOK F) (hC : CallOK c call F)
    (h : opX c call o st H K = some r) (hr : Rel ρ H w) (hs : SR ρ st a.tmps)
    (hn : ∀ v u ρ' H' w', VR ρ' v u → Rel ρ' H' w' → Step ρ H w ρ' H' w' → K v H' = some r → next (a.put o.dst u) w') : Oper.wpIn F n c.P o a w next Q := by
  cases hi : isCall o with
  | true =>
    unfold isCall at hi
    split at hi
    · rename_i cl ho
      split at hi
      · rename_i f hcl
        exact wp_call hF hC ho hcl h hr hs hn
      · cases hi
    · cases hi
  | false =>
    obtain ⟨nx, v, u, ρ', H', w', h1, h2, h3, h4, h5, h6⟩ := op_sound hi h hr hs
    refine ⟨fun f _ => hF.fn f, ?_⟩
    rw [Oper.semAt_eq _ _ _ (by intro c' hc; unfold opX at h; rw [hc] at h; simp at h), h1]
    rcases h2 with rfl | ⟨rfl, rfl⟩
    · exact hn v u ρ' H' w' h3 h4 h5 h6
    · exact hn v _ ρ' H' w' h3 h4 h5 h6

end
end Go.Vm
