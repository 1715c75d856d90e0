/-
  Small things for the machine that asks.
-/
import Derived.Test.YtfhjdnekidhjnaaVm24
import Derived.Below
set_option linter.unusedVariables false
set_option linter.unusedSimpArgs false
namespace Go.Vm

section
variable {R : Type}
def noCall : CallF := fun _ _ _ => none

theorem opX_then {R' : Type} {c : Cfg} {call : CallF} {o : Oper} {st : St} {H : Heap} {K : V → Heap → Option R'} {g : R' → Option R} : (opX c call o st H K).bind g = opX c call o st H fun v H => (K v H).bind g := by
  rw [opX_split, @opX_split _ c call o st H (fun v H => (K v H).bind g), Option.bind_assoc]

theorem opsD_then {R' : Type} {c : Cfg} {call : CallF} {ops : Array Oper} {g : R' → Option R} : ∀ {is : List Nat} {s : Nat} {st : St} {H : Heap} {tr : List Tr} {K : St → Heap → List Tr → Option R'},
    (opsD c call ops is s st H tr K).bind g = opsD c call ops is s st H tr fun st H tr => (K st H tr).bind g
  | [], _, _, _, _, _ => rfl
  | i :: is, s, st, H, tr, K => by
    have ha : ∀ {s : Nat} {o : Oper} {st : St} {H : Heap} {K : V → Heap → Option R'}, (opA c call s o st H K).bind g = opA c call s o st H fun v H => (K v H).bind g := by
      intro s o st H K
      unfold opA
      split
      · split <;> rfl
      · exact opX_then
    unfold opsD
    split
    · rfl
    · split
      · rw [ha]; simp only [opsD_then (is := is)]
      · split
        · rfl
        · split
          · split
            · rw [ha]; simp only [opsD_then (is := is)]
            · rw [opsD_then (is := is)]
          · rw [opsD_then (is := is)]
          · rfl

theorem resX_then {R' : Type} {P : Program} {st : St} {H : Heap} {g : R' → Option R} : ∀ {rs : List ResultVar} {K : List V → Option R'}, (resX P st H rs K).bind g = resX P st H rs fun vs => (K vs).bind g
  | [], _ => rfl
  | .tmp t :: rs, K => by
    unfold resX
    split
    · exact resX_then
    · rfl
  | .cell a t :: rs, K => by
    unfold resX
    split
    · rename_i p hp
      cases p with
      | none => rfl
      | some q =>
        simp only [Option.bind_some]
        rw [loadT_split, loadT_split _ _ _ _ _ (fun v => resX P st H rs fun vs => (K (v :: vs)).bind g), Option.bind_assoc]
        congr 1
        funext v
        exact resX_then
    · rfl

theorem opX_noCall {R' : Type} {c : Cfg} {call call' : CallF} {o : Oper} {st : St} {H : Heap} {K : V → Heap → Option R'} (h : isCall o = false) : opX c call o st H K = opX c call' o st H K := by
  unfold opX
  cases ho : o.op <;> first | rfl | skip
  rename_i cl
  cases hcl : cl.callee with
  | value f => simp [isCall, ho, hcl] at h
  | builtin b => cases b <;> simp only [hcl]
  | invoke x m => simp only [hcl]

theorem beq_want {b want : Bool} (h : (b == want) = false) : b = !want := by cases b <;> cases want <;> simp_all

abbrev ret3 : Ex → St → Heap → Option (Ex × St × Heap) := fun e st H => some (e, st, H)

theorem resX_run {P : Program} {rs : List ResultVar} {st : St} {H : Heap} {vs : List V} (h : resX P st H rs some = some vs) {R' : Type} (K : List V → Option R') : resX P st H rs K = K vs := by
  have := @resX_then R' _ P st H K rs some
  rw [h] at this
  exact this.symm
end

theorem ite_t {α : Type} {t : Bool} {A B : α} (h : t = true) : (if t = true then A else B) = A := if_pos h
theorem ite_f {α : Type} {t : Bool} {A B : α} (h : t = false) : (if t = true then A else B) = B := if_neg (by rw [h]; exact Bool.false_ne_true)
theorem ite_p {α : Type} {p : Prop} [Decidable p] {A B : α} (h : p) : (if p then A else B) = A := if_pos h

/-- No heap at all. -/
theorem own_nil (i : Nat) : ¬ Owned [] i := by
  rintro (⟨_, h⟩ | ⟨_, h⟩)
  · exact absurd h (by simp)
  · exact absurd h (by simp)
theorem rel_nil (w : World) : Rel (fun _ => none) [] w := ⟨fun _ _ h => (by cases h), fun _ _ h => absurd h (by simp), fun b _ _ _ h => absurd h (own_nil b)⟩

end Go.Vm
