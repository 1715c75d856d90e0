/-
  Summaries: calls and loops that are told instead of run.
-/
import Derived.Test.YtiodgiedbgjkhaaVm29
set_option linter.unusedVariables false
set_option linter.unusedSimpArgs false
namespace Go.Vm

section
variable {R : Type}

/-- A function's run, with calls and loops as told. -/
def callB (c : Cfg) (lp : LoopK R) (ck : CallK R) (n : Nat) (f : FuncId) (cs args : List V) (H : Heap) (os : List Bool) (K : KV R) : Option R :=
  match c.P.funcs[f]? with
  | none => none
  | some fn => match fn.body with
    | none => none
    | some body => if fn.name == "runtime.NumGoroutine" then none else
      if c.iso.contains f then
        (if plains args && plains cs then
          codeK c lp ck f n none body (args ++ cs ++ List.replicate (fn.ntmps - (args ++ cs).length) (.tup [])) [] os (endK c.P fn.results.toList fun v _ os => if v.plain then K v H os else none)
        else none)
      else
      codeK c lp ck f n none body (args ++ cs ++ List.replicate (fn.ntmps - (args ++ cs).length) (.tup [])) H os (endK c.P fn.results.toList K)

theorem callB_ok {c : Cfg} {k : Nat} {lp : LoopK R} {ck : CallK R} {f : FuncId} (hc : Snd (callX c k) ck) (hl : ∀ fn body, c.P.funcs[f]? = some fn → fn.body = some body → LoopsOK c lp (callX c k) f (k + 1) none body)
    {cs args : List V} {H : Heap} {os : List Bool} {K : KV R} {r : R} (h : callB c lp ck (k + 1) f cs args H os K = some r) : ∃ v H' os', callX c (k + 1) (.fn f cs) args H = some (v, H') ∧ K v H' os' = some r := by
  unfold callB at h
  unfold callX
  split at h
  · cases h
  · rename_i fn hfn
    simp only [hfn]
    split at h
    · cases h
    · rename_i body hb
      simp only [hb]
      have hl' := hl fn body hfn hb
      split at h
      · cases h
      · rename_i hng
        rw [if_neg hng]
        split at h
        · rename_i hiso
          rw [if_pos hiso]
          split at h
          · rename_i hpl
            rw [if_pos hpl]
            obtain ⟨e, st', H', os', k1, k2⟩ := codeK_ok hc hl' h
            obtain ⟨k3, vs, k4, k5⟩ := endK_ok k2
            split at k5
            · rename_i hp
              refine ⟨oneOf vs, H, os', ?_, k5⟩
              rw [codeX_run k1]
              cases e with
              | exit id => exact absurd rfl (k3 id)
              | normal => simp only [resX_run k4, Option.bind_some, hp, if_true]
              | ret => simp only [resX_run k4, Option.bind_some, hp, if_true]
            · cases k5
          · cases h
        · rename_i hiso
          rw [if_neg hiso]
          obtain ⟨e, st', H', os', k1, k2⟩ := codeK_ok hc hl' h
          obtain ⟨k3, vs, k4, k5⟩ := endK_ok k2
          refine ⟨oneOf vs, H', os', ?_, k5⟩
          rw [codeX_run k1]
          cases e with
          | exit id => exact absurd rfl (k3 id)
          | normal => simp only [resX_run k4]
          | ret => simp only [resX_run k4]

/-- A function's calls as told by a summary. -/
def ovr (f : FuncId) (S : List V → List V → Heap → List Bool → KV R → Option R) (ck : CallK R) : CallK R := fun fv args H os K =>
  match fv with
  | .fn g cs => if g = f then S cs args H os K else ck (.fn g cs) args H os K
  | fv => ck fv args H os K

/-- A summary of a function is what its calls come to. -/
def SumOK (call : CallF) (f : FuncId) (S : List V → List V → Heap → List Bool → KV R → Option R) : Prop :=
  ∀ cs args H os K r, S cs args H os K = some r → ∃ v H' os', call (.fn f cs) args H = some (v, H') ∧ K v H' os' = some r

theorem ovr_ok {call : CallF} {f : FuncId} {S : List V → List V → Heap → List Bool → KV R → Option R} {ck : CallK R} (hS : SumOK call f S) (hc : Snd call ck) : Snd call (ovr f S ck) := by
  intro fv args H os K r h
  unfold ovr at h
  split at h
  · rename_i g cs
    by_cases hg : g = f
    · rw [if_pos hg] at h
      subst hg
      exact hS cs args H os K r h
    · rw [if_neg hg] at h
      exact hc _ _ _ _ _ _ h
  · exact hc _ _ _ _ _ _ h

/-- A summary: of a number, a number. -/
def sum1 (k k' : IntKind) (φ : Int → Int) (cs args : List V) (H : Heap) (os : List Bool) (K : KV R) : Option R :=
  match cs, args with
  | [], [.int q a] => if q = k then K (.int k' (φ a)) H os else none
  | _, _ => none

end

def retVH : KV (V × Heap) := fun v H _ => some (v, H)

theorem callX_of2 {c : Cfg} {k : Nat} {fv : V} {args : List V} {H : Heap} {os : List Bool} {v : V} {H' : Heap} (h : callK c k fv args H os retVH = some (v, H')) : callX c k fv args H = some (v, H') := by
  obtain ⟨v', H2, os', h1, h2⟩ := callK_ok c k _ _ _ _ _ _ h
  cases h2
  exact h1

theorem sum1_ok {R : Type} {c : Cfg} {n : Nat} {f : FuncId} {k k' : IntKind} {φ : Int → Int} (h : ∀ a H, callX c n (.fn f []) [.int k a] H = some (.int k' (φ a), H)) : SumOK (R := R) (callX c n) f (sum1 k k' φ) := by
  intro cs args H os K r hr
  unfold sum1 at hr
  split at hr
  · rename_i q a
    split at hr
    · rename_i hq
      subst hq
      exact ⟨_, _, os, h a H, hr⟩
    · cases hr
  · cases hr

end Go.Vm
