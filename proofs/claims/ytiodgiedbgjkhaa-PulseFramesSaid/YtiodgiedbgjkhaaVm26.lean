/-
  From a run of the small machine to the model's calls, for a law.
-/
import Derived.Test.YtiodgiedbgjkhaaVm25
import Derived.Below
set_option linter.unusedVariables false
set_option linter.unusedSimpArgs false
namespace Go.Vm
open Go.RowKit

def retV : KV V := fun v _ _ => some v

theorem callX_of {c : Cfg} {k : Nat} {fv : V} {args : List V} {H : Heap} {os : List Bool} {v : V} (h : callK c k fv args H os retV = some v) : ∃ H', callX c k fv args H = some (v, H') := by
  obtain ⟨v', H', os', h1, h2⟩ := callK_ok c k _ _ _ _ _ _ h
  cases h2
  exact ⟨H', h1⟩

theorem ite_t {α : Type} {t : Bool} {A B : α} (h : t = true) : (if t = true then A else B) = A := if_pos h
theorem ite_f {α : Type} {t : Bool} {A B : α} (h : t = false) : (if t = true then A else B) = B := if_neg (by rw [h]; exact Bool.false_ne_true)
theorem ite_p {α : Type} {p : Prop} [Decidable p] {A B : α} (h : p) : (if p then A else B) = A := if_pos h

/-- A law's run: what it was told of is as it was. -/
theorem walk_of {c : Cfg} (hm : c.P.follows .mixedOrders = true) {f : FuncId} {k : Nat} {args : List V} {H : Heap} {os : List Bool} {b : Bool} (h : callK c k (.fn f []) args H os retV = some (.bool b))
    {ρ : Map} {w : World} {uargs : List Value} (hr : Rel ρ H w) (ho : ∀ i, ¬ Owned H i) (hv : VRL ρ args uargs) (hbd : hasBody c.P f = true := by kernel_rfl) :
    Calls c.P f uargs.toArray w fun e w' => e = .returned (.bool b) ∧ Below w.heap.size w w' := by
  obtain ⟨H', h⟩ := callX_of h
  rcases call_ok hm k 0 (.fn f []) args H (.bool b) H' h ρ w (.func (.func f) #[] #[]) uargs hr (.fn f [] [] .nil) hv with ⟨g, us, fn, e1, e2, e3, e4, e5⟩ | ⟨_, _, _, _, _, e1, _⟩ | ⟨g, us, fn, u, w2, e1, e2, e3, _⟩
  · cases e1
    rw [Array.append_empty] at e5
    refine (callsIn_wide.1 e5).mono ?_
    rintro e w' ⟨u, ρ', rfl, hu, hrel, hst⟩
    have := hu.inv_bool
    subst this
    refine ⟨rfl, hst.os, hst.tape, hst.output, hst.size, fun i hi => hst.keep i hi ?_⟩
    rintro ⟨b', L, h1, h2, h3⟩
    exact ho b' h1
  · cases e1
  · cases e1
    simp [hasBody, e2, e3] at hbd

/-- No heap at all. -/
theorem own_nil (i : Nat) : ¬ Owned [] i := by
  rintro (⟨_, h⟩ | ⟨_, h⟩)
  · exact absurd h (by simp)
  · exact absurd h (by simp)
theorem rel_nil (w : World) : Rel (fun _ => none) [] w := ⟨fun _ _ h => (by cases h), fun _ _ h => absurd h (by simp), fun b _ _ _ h => absurd h (own_nil b)⟩

end Go.Vm
