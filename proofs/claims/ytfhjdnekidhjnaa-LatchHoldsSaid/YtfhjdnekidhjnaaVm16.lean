/-
  Regions whose order is drawn: first, what an operation hangs on.
-/
import Derived.Test.YtfhjdnekidhjnaaVm15
set_option linter.unusedVariables false
set_option linter.unusedSimpArgs false
namespace Go.Vm

theorem evs_congr {st st' : St} : ∀ {xs : List Operand}, (∀ x ∈ xs, ev st x = ev st' x) → evs st xs = evs st' xs
  | [], _ => rfl
  | x :: xs, h => by
    unfold evs
    rw [h x (List.mem_cons_self), evs_congr fun y hy => h y (List.mem_cons_of_mem _ hy)]
theorem evParts_congr {st st' : St} : ∀ {xs : List (Nat × Operand)}, (∀ x ∈ xs.map (·.2), ev st x = ev st' x) → evParts st xs = evParts st' xs
  | [], _ => rfl
  | (i, x) :: xs, h => by
    unfold evParts
    rw [h x (by simp), evParts_congr fun y hy => h y (by simp at hy ⊢; exact .inr hy)]
theorem bnd_congr {st st' : St} {x : Option Operand} {d : Int} (h : ∀ y, x = some y → ev st y = ev st' y) : bnd st x d = bnd st' x d := by
  cases x with
  | none => rfl
  | some y => unfold bnd; simp only; rw [h y rfl]

theorem opX_congr {R : Type} {c : Cfg} {call : CallF} {o : Oper} {st st' : St} {H : Heap} {K : V → Heap → Option R} (h : ∀ x ∈ o.op.operands.toList, ev st x = ev st' x) :
    opX c call o st H K = opX c call o st' H K := by
  unfold opX
  cases ho : o.op <;> rw [ho] at h <;> simp only [Op.operands] at h
  case call cl =>
    simp only [Call.operands] at h
    have hargs : evs st cl.args.toList = evs st' cl.args.toList := evs_congr fun x hx => h x (by simp at hx ⊢; exact .inr hx)
    cases hcl : cl.callee with
    | value f =>
      rw [hcl] at h
      have hf : ev st f = ev st' f := h f (by simp)
      simp only [hcl, hargs, hf]
    | builtin b => cases b <;> simp only [hcl, hargs]
    | invoke x m => simp only [hcl]
  case build t ps =>
    have := evParts_congr (st := st) (st' := st') (xs := ps.toList) (by simpa using h)
    simp only [this]
  case buildSlice t n ps =>
    have := evParts_congr (st := st) (st' := st') (xs := ps.toList) (by simpa using h)
    simp only [this]
  case makeFunc fn x y =>
    have := evs_congr (st := st) (st' := st') (xs := y.toList) (fun z hz => h z (by simp at hz ⊢; exact .inr hz))
    simp only [this]
  case slice t x lo hi mx =>
    have e1 : ev st x = ev st' x := h x (by simp)
    have e2 : ∀ d, bnd st lo d = bnd st' lo d := fun d => bnd_congr fun y hy => h y (by simp [hy])
    have e3 : ∀ d, bnd st hi d = bnd st' hi d := fun d => bnd_congr fun y hy => h y (by simp [hy])
    cases mx with
    | none =>
      simp only [e1, e2, e3]
      generalize ev st' x = vx
      generalize c.P.underlying t = vt
      generalize bnd st' lo 0 = vl
      rcases vx with _ | v
      · rfl
      · cases v
        case ptr q => rcases q with _ | q <;> rcases vt with _ | d <;> first | rfl | (cases d <;> rcases vl with _ | i <;> rfl)
        all_goals (rcases vt with _ | d <;> first | rfl | (cases d <;> rcases vl with _ | i <;> rfl))
    | some m =>
      have e4 : ev st m = ev st' m := h m (by simp)
      simp only [e1, e2, e3]
      generalize ev st' x = vx
      generalize c.P.underlying t = vt
      generalize bnd st' lo 0 = vl
      rcases vx with _ | v
      · rfl
      · cases v
        case ptr q => rcases q with _ | q <;> rcases vt with _ | d <;> first | rfl | (cases d <;> rcases vl with _ | i <;> rfl)
        all_goals (rcases vt with _ | d <;> first | rfl | (cases d <;> rcases vl with _ | i <;> first | rfl | simp only [e4]))
  all_goals
    first
      | rfl
      | (simp at h; simp only [h])
      | skip

theorem clsOf_l {P : Program} {o : Oper} (h : clsOf P o = .l) : (∃ t x, o.op = .load t x) ∨ ∃ s t x e, o.op = .convert s t x ∧ P.underlying t = some .string ∧ P.underlying s = some (.slice e) := by
  unfold clsOf at h
  cases ho : o.op <;> simp only [ho] at h <;> first | (cases h; done) | skip
  case load t x => exact .inl ⟨t, x, rfl⟩
  case convert s t x =>
    refine .inr ⟨s, t, x, ?_⟩
    cases ht : P.underlying t with
    | none => rw [ht] at h; cases h
    | some d =>
      rw [ht] at h
      cases d <;> first | (cases h; done) | skip
      cases hs : P.underlying s with
      | none => rw [hs] at h; cases h
      | some d => rw [hs] at h; cases d <;> first | (cases h; done) | exact ⟨_, rfl, rfl, rfl⟩
  case call cl =>
    exfalso
    cases hcl : cl.callee with
    | builtin b => rw [hcl] at h; cases b <;> cases h
    | _ => rw [hcl] at h; cases h

theorem opX_pure {c : Cfg} {call : CallF} {o : Oper} {st : St} (hp : clsOf c.P o = .p) : ∃ g : Option V, ∀ (R : Type) (H : Heap) (K : V → Heap → Option R), opX c call o st H K = g.bind fun v => K v H := by
  refine ⟨opX c call o st [] (fun v _ => some v), ?_⟩
  intro R H K
  unfold opX
  cases ho : o.op <;> simp only [clsOf, ho] at hp <;> first | (cases hp; done) | skip
  case call cl =>
    cases hcl : cl.callee with
    | builtin b =>
      rw [hcl] at hp
      cases b <;> first | (cases hp; done) | skip
      all_goals
        simp only [hcl]
        repeat' first
          | rfl
          | split
    | _ => rw [hcl] at hp; cases hp
  case convert s t x =>
    simp only
    cases ht : c.P.underlying t with
    | none => rw [ht] at hp; cases hp
    | some d =>
      rw [ht] at hp
      cases d <;> first | (cases hp; done) | skip
      · repeat' first
          | rfl
          | (exfalso; simp_all; done)
          | split
      · exfalso
        cases hs : c.P.underlying s with
        | none => rw [hs] at hp; cases hp
        | some d => rw [hs] at hp; cases d <;> cases hp
  all_goals
    simp only
    repeat' first
      | rfl
      | (rw [Option.bind_assoc]; congr 1 <;> funext _)
      | split

end Go.Vm
