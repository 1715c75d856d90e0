/-
  Code, functions, rounds.
-/
import Derived.Test.YtfhjdnekidhjnaaVm13
set_option linter.unusedVariables false
set_option linter.unusedSimpArgs false
namespace Go.Vm

theorem SR.masked {c : Cfg} {f : FuncId} {id : Nat} {ρ : Map} {st : St} {tmps : Array Value} (h : SR ρ st tmps) : SR ρ (masked c f id st) tmps := by
  unfold Vm.masked
  split
  · exact SR.mask _ h
  · exact h

section
variable {F : Fence} {n : Nat} {P : Program} {a : Act} {w : World} {b : Frame} {k : List Item} {cs : List Frame}
theorem stepR_scope {c : Code} : step P (lone (b.atR a (.code (.scope c) :: k)) cs w) = .next (lone (b.atR a (.code c :: .inScope c :: k)) cs w) :=
  step_lone_go (by simp [stepG, stepG.exec, Frame.atR])
theorem stepR_inScope {c : Code} : step P (lone (b.atR a (.inScope c :: k)) cs w) = .next (lone (b.atR a k) cs w) :=
  step_lone_go (by simp [stepG, stepG.exec, Frame.atR])
/-- A scope through which the run goes without a jump. -/
theorem wpIn_scope {c : Code} {Q : Exit → Act → World → Prop} (h : c.wpIn F n P (fun e a w => (∀ l, e ≠ .goto l) ∧ Q e a w) a w) : (Code.scope c).wpIn F n P Q a w := by
  intro b k cs hro hb hr
  have h0 : (lone (b.atR a (.code (.scope c) :: k)) cs w).fenced P F := fenced_calm hb hr rfl
  obtain ⟨e, a₁, w₁, ⟨hng, hq⟩, harr⟩ := h b (.inScope c :: k) cs hro hb hr
  cases e with
  | normal => exact ⟨.normal, a₁, w₁, hq, .head h0 stepR_scope (StepsIn.trans harr (.one (fenced_calm hb hr rfl) stepR_inScope))⟩
  | exit id =>
    have hx : exitTo id (.inScope c :: k) = exitTo id k := by simp [exitTo]
    exact ⟨_, a₁, w₁, hq, fun k' hk => .head h0 stepR_scope (harr.1 k' (by rw [hx]; exact hk)),
      fun hr' hk => let ⟨k₁, h1, h2⟩ := harr.2 hr' (by rw [hx]; exact hk); ⟨k₁, h1, .head h0 stepR_scope h2⟩⟩
  | goto l => exact absurd rfl (hng l)
  | ret => exact ⟨_, a₁, w₁, hq, .of_steps (.one h0 stepR_scope) harr⟩
  | panic ch => exact ⟨_, a₁, w₁, hq, .of_steps (.one h0 stepR_scope) harr⟩
  | outgrown => exact ⟨_, a₁, w₁, hq, .of_steps (.one h0 stepR_scope) harr⟩
end

theorem code_sound {R : Type} {c : Cfg} {call : CallF} {F : Fence} {r : R} {B : Nat} {f : FuncId} {k : Nat} {rd : Option Nat} {n : Nat} (hF : FOK F) (hC : CallOK c call F) (hD : DrawsOK c call F) :
    ∀ (code : Code) {st : St} {H : Heap} {K : Ex → St → Heap → Option R} {ρ : Map} {w : World} {a : Act} {Q : Exit → Act → World → Prop},
      codeX c call f k rd code st H K = some r → Rel ρ H w → SR ρ st a.tmps → Marks B ρ H w a.defers → RdOK F ρ rd → B ≤ w.heap.size → Owes B ρ H w K r Q → code.wpIn F n c.P Q a w := by
  intro code
  induction code with
  | skip =>
    intro st H K ρ w a Q h hr hs hm hrd hB hQ
    exact wpIn_skip (hQ .normal st H ρ w a h hr hs hm (Step.refl _ _ _))
  | region id ops draw =>
    intro st H K ρ w a Q h hr hs hm hrd hB hQ
    have fin : ∀ st' H' ρ' w' a', K .normal st' H' = some r → Rel ρ' H' w' → SR ρ' st' a'.tmps → a'.defers = a.defers → Step ρ H w ρ' H' w' → Q .normal a' w' :=
      fun st' H' ρ' w' a' h1 h2 h3 h4 h5 => hQ .normal st' H' ρ' w' a' h1 h2 h3 (by rw [h4]; exact hm.step h5) h5
    unfold codeX at h
    cases draw with
    | true =>
      simp only [if_true] at h
      exact hD R r n id ops _ H (K .normal) ρ w a Q h hr hs.masked fin
    | false =>
      simp only [Bool.false_eq_true, if_false] at h
      exact wpIn_region (ops_sound hF hC _ h hr hs.masked fin)
  | seq x y ihx ihy =>
    intro st H K ρ w a Q h hr hs hm hrd hB hQ
    unfold codeX at h
    refine wpIn_seq (ihx h hr hs hm hrd hB ?_)
    intro e st1 H1 ρ1 w1 a1 h1 h2 h3 h4 h5
    cases e with
    | normal =>
      exact ihy h1 h2 h3 h4 (hrd.mono h5.le) (Nat.le_trans hB h5.size) fun e st2 H2 ρ2 w2 a2 j1 j2 j3 j4 j5 => hQ e st2 H2 ρ2 w2 a2 j1 j2 j3 j4 (h5.trans j5)
    | exit id => exact hQ (.exit id) st1 H1 ρ1 w1 a1 h1 h2 h3 h4 h5
    | ret => exact hQ .ret st1 H1 ρ1 w1 a1 h1 h2 h3 h4 h5
  | cond x y z ihy ihz =>
    intro st H K ρ w a Q h hr hs hm hrd hB hQ
    unfold codeX at h
    split at h
    · rename_i t hx
      have e := (ev_rel hs hx).inv_bool
      refine wpIn_cond e ?_
      cases t
      · exact ihz (by simpa using h) hr hs hm hrd hB hQ
      · exact ihy (by simpa using h) hr hs hm hrd hB hQ
    · cases h
  | block id x ih =>
    intro st H K ρ w a Q h hr hs hm hrd hB hQ
    unfold codeX at h
    refine wpIn_block (ih h hr hs hm hrd hB ?_)
    intro e st1 H1 ρ1 w1 a1 h1 h2 h3 h4 h5
    cases e with
    | normal => exact hQ .normal st1 H1 ρ1 w1 a1 h1 h2 h3 h4 h5
    | exit i =>
      simp only at h1
      show if i = id then Q .normal a1 w1 else Q (.exit i) a1 w1
      by_cases hi : i = id
      · rw [if_pos hi] at h1 ⊢
        exact hQ .normal st1 H1 ρ1 w1 a1 h1 h2 h3 h4 h5
      · rw [if_neg hi] at h1 ⊢
        exact hQ (.exit i) st1 H1 ρ1 w1 a1 h1 h2 h3 h4 h5
    | ret => exact hQ .ret st1 H1 ρ1 w1 a1 h1 h2 h3 h4 h5
  | loop x ih =>
    intro st H K ρ w a Q h hr hs hm hrd hB hQ
    unfold codeX at h
    exact loop_sound (fun {st H K ρ w a Q} => ih) h hr hs hm hrd hB hQ
  | rangeFunc x ps as bd _ _ =>
    intro st H K ρ w a Q h hr hs hm hrd hB hQ
    exact range_sound hF hC h hr hs hm hrd hB hQ
  | exit id =>
    intro st H K ρ w a Q h hr hs hm hrd hB hQ
    exact wpIn_exit (hQ (.exit id) st H ρ w a h hr hs hm (Step.refl _ _ _))
  | ret =>
    intro st H K ρ w a Q h hr hs hm hrd hB hQ
    exact wpIn_ret (hQ .ret st H ρ w a h hr hs hm (Step.refl _ _ _))
  | scope x ih =>
    intro st H K ρ w a Q h hr hs hm hrd hB hQ
    unfold codeX at h
    refine wpIn_scope (ih h hr hs hm hrd hB ?_)
    intro e st1 H1 ρ1 w1 a1 h1 h2 h3 h4 h5
    cases e with
    | normal => exact ⟨fun l hl => (by cases hl), hQ .normal st1 H1 ρ1 w1 a1 h1 h2 h3 h4 h5⟩
    | exit i => exact ⟨fun l hl => (by cases hl), hQ (.exit i) st1 H1 ρ1 w1 a1 h1 h2 h3 h4 h5⟩
    | ret => exact ⟨fun l hl => (by cases hl), hQ .ret st1 H1 ρ1 w1 a1 h1 h2 h3 h4 h5⟩
  | label l =>
    intro st H K ρ w a Q h hr hs hm hrd hB hQ
    unfold codeX at h
    exact wpIn_label (hQ .normal st H ρ w a h hr hs hm (Step.refl _ _ _))
  | goto l => intro st H K ρ w a Q h; simp [codeX] at h
  | refuse s => intro st H K ρ w a Q h; simp [codeX] at h

/-! ### What a function hands back -/

def resOne (tmps : Array Value) (x : ResultVar) : Sem Value :=
  match x with
  | .tmp t => pure (tmps.getD t Go.undef)
  | .cell a t => do loadVar t (← asAddr (tmps.getD a Go.undef))

theorem resX_rel {R : Type} {P : Program} {st : St} {H : Heap} {ρ : Map} {w : World} {tmps : Array Value} (hr : Rel ρ H w) (hs : SR ρ st tmps) : ∀ {rs : List ResultVar} {K : List V → Option R} {r : R}, resX P st H rs K = some r →
    ∃ vs us, K vs = some r ∧ VRL ρ vs us ∧ (rs.mapM (resOne tmps)).run P w = Result.ok us w
  | [], K, r, h => ⟨[], [], h, .nil, by simp⟩
  | .tmp t :: rs, K, r, h => by
    unfold resX at h
    split at h
    · rename_i v hv
      obtain ⟨vs, us, h1, h2, h3⟩ := resX_rel hr hs h
      obtain ⟨u, hu, hvu⟩ := hs.at_ hv
      have e : tmps.getD t Go.undef = u := by simp [Array.getD_eq_getD_getElem?, hu]
      refine ⟨v :: vs, u :: us, h1, .cons _ _ _ _ hvu h2, ?_⟩
      have e2 : (resOne tmps (.tmp t)).run P w = .ok u w := by simp [resOne, e]
      simp [List.mapM_cons, Sem.run_bind, e2, h3, Result.andThen]
    · cases h
  | .cell a t :: rs, K, r, h => by
    unfold resX at h
    split at h
    · rename_i p hp
      cases p with
      | none => cases h
      | some p =>
        obtain ⟨b, o⟩ := p
        simp only [Option.bind_some] at h
        obtain ⟨u0, hu0, hvu0⟩ := hs.at_ hp
        obtain ⟨L, hL, _, e1⟩ := hvu0.inv_ptr
        obtain ⟨v, u, hK, hv, hrun⟩ := loadT_rel h hr hL
        obtain ⟨vs, us, h1, h2, h3⟩ := resX_rel hr hs hK
        have e : tmps.getD a Go.undef = .pointer (some ⟨L.blk, L.base + o, none⟩) := by simp [Array.getD_eq_getD_getElem?, hu0, e1]
        refine ⟨v :: vs, u :: us, h1, .cons _ _ _ _ hv h2, ?_⟩
        have e2 : (resOne tmps (.cell a t)).run P w = .ok u w := by simp [resOne, e, asAddr, hrun, Result.andThen]
        simp [List.mapM_cons, Sem.run_bind, e2, h3, Result.andThen]
    · cases h

theorem oneOf_rel {ρ : Map} {vs : List V} {us : List Value} (h : VRL ρ vs us) : VR ρ (oneOf vs) (if hl : us.toArray.size = 1 then us.toArray[0] else .tuple us.toArray) := by
  cases h with
  | nil => exact .tup [] [] .nil
  | cons v u vs us h hs =>
    cases hs with
    | nil => simpa [oneOf] using h
    | cons v' u' vs us h' hs => simpa [oneOf] using VR.tup (ρ := ρ) (v :: v' :: vs) (u :: u' :: us) (.cons _ _ _ _ h (.cons _ _ _ _ h' hs))

theorem results_run {P : Program} {fn : Func} {tmps : Array Value} {w : World} {us : List Value} (h : (fn.results.toList.mapM (resOne tmps)).run P w = Result.ok us w) :
    (results fn tmps).run P w = .ok (if hl : us.toArray.size = 1 then us.toArray[0] else .tuple us.toArray) w := by
  have e : results fn tmps = (do
      let vs ← fn.results.mapM (resOne tmps)
      pure (if h : vs.size = 1 then vs[0] else .tuple vs)) := rfl
  rw [e, Array.mapM_eq_mapM_toList]
  simp [Sem.run_bind, h, Result.andThen]

end Go.Vm
