/-
  Runs of unknown values in a printed state, and short names for printed terms.
-/
import Derived.Test.YtfhjdnekidhjnaaVm42
set_option linter.unusedVariables false
set_option linter.unusedSimpArgs false
set_option linter.unusedVariables false
set_option linter.unusedSimpArgs false
namespace Go.Vm
abbrev us (n : Nat) : List V := List.replicate n .undef
abbrev i6 (n : Int) : V := .int .i64 n
abbrev w6 (n : Int) : Int := IntKind.wrap .i64 n
theorem VEL.qs {σ : Sig} : ∀ {n : Nat} {l : List V}, l.length = n → VEL true σ (us n) l
  | 0, [], _ => .nil
  | n + 1, v :: l, h => .cons _ _ _ _ (.undef _ (.inl rfl)) (VEL.qs (Nat.succ.inj h))
theorem VEL.us' {q : Bool} {σ : Sig} : ∀ (n : Nat), VEL q σ (us n) (us n)
  | 0 => .nil
  | n + 1 => .cons _ _ _ _ (.undef _ (.inr rfl)) (VEL.us' n)
theorem VEL.drs {σ : Sig} : ∀ {n : Nat} {l : List V}, l.length = n → VEL false σ l (us n)
  | 0, [], _ => .nil
  | n + 1, v :: l, h => .cons _ _ _ _ (.drop _ rfl) (VEL.drs (Nat.succ.inj h))
theorem eqLoad_int {P : Program} {H : Heap} {t : TypeId} {b o : Nat} {k : IntKind} {n : Int} (h : loadR P (.ty t) H b o = some (.int k n)) : eqLoad P H (.ty t, (b, o)) (.int k n) = true := by
  unfold eqLoad
  simp only [h]
  simp [sameVal, sameV]
theorem eqLoad_bool {P : Program} {H : Heap} {t : TypeId} {b o : Nat} {x : Bool} (h : loadR P (.ty t) H b o = some (.bool x)) : eqLoad P H (.ty t, (b, o)) (.bool x) = true := by
  unfold eqLoad
  simp only [h]
  simp [sameVal, sameV]
theorem eqLoad_str {P : Program} {H : Heap} {t : TypeId} {b o : Nat} {x : ByteArray} (h : loadR P (.ty t) H b o = some (.str x)) : eqLoad P H (.ty t, (b, o)) (.str x) = true := by
  unfold eqLoad
  simp only [h]
  simp [sameVal, sameV]
theorem getD_mem {α : Type} {S : List α} {i : Nat} {d : α} (h : i < S.length) : S.getD i d ∈ S := by
  simp [List.getD, List.getElem?_eq_getElem h]
end Go.Vm
