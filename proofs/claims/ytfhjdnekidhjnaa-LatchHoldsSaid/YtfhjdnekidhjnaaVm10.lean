/-
  What an operation does does not hang on what comes behind it; an operation of the small machine is the model's.
-/
import Derived.Test.YtfhjdnekidhjnaaVm9
set_option linter.unusedVariables false
set_option linter.unusedSimpArgs false
namespace Go.Vm

theorem view_split {R : Type} (v : V) (l : Leaf) (K : V → Option R) : view v l K = (view v l some).bind K := by
  cases l <;> simp only [view] <;> first | rfl | (rw [Option.bind_assoc]; rfl)

theorem views_split {R : Type} : ∀ (vs : List V) (ls : List Leaf) (K : List V → Option R), views vs ls K = (views vs ls some).bind K
  | [], [], K => rfl
  | v :: vs, l :: ls, K => by
    unfold views
    rw [view_split v l fun v' => views vs ls fun vs' => K (v' :: vs'), view_split v l fun v' => views vs ls fun vs' => some (v' :: vs'), Option.bind_assoc]
    congr 1
    funext v'
    rw [views_split vs ls fun vs' => K (v' :: vs'), views_split vs ls fun vs' => some (v' :: vs'), Option.bind_assoc]
    rfl
  | [], _ :: _, K => rfl
  | _ :: _, [], K => rfl

theorem rdLeaf_split {R : Type} (H : Heap) (b o : Nat) (l : Leaf) (K : V → Option R) : rdLeaf H b o l K = (rdLeaf H b o l some).bind K := by
  cases l <;> simp only [rdLeaf] <;> first | rfl | (rw [Option.bind_assoc]; rfl)

theorem rdLeaves_split {R : Type} (H : Heap) (b : Nat) : ∀ (o : Nat) (ls : List Leaf) (K : List V → Option R), rdLeaves H b o ls K = (rdLeaves H b o ls some).bind K
  | o, [], K => rfl
  | o, l :: ls, K => by
    unfold rdLeaves
    rw [rdLeaf_split H b o l fun v => rdLeaves H b (o + 1) ls fun vs => K (v :: vs), rdLeaf_split H b o l fun v => rdLeaves H b (o + 1) ls fun vs => some (v :: vs), Option.bind_assoc]
    congr 1
    funext v'
    rw [rdLeaves_split H b (o + 1) ls fun vs' => K (v' :: vs'), rdLeaves_split H b (o + 1) ls fun vs' => some (v' :: vs'), Option.bind_assoc]
    rfl

theorem loadT_split {R : Type} (P : Program) (t : TypeId) (H : Heap) (b o : Nat) (K : V → Option R) : loadT P t H b o K = (loadT P t H b o some).bind K := by
  unfold loadT
  split
  · rw [rdLeaves_split, rdLeaves_split H b o _ fun vs => if vs.length = esOf P t then some (V.agg vs) else none, Option.bind_assoc]
    congr 1
    funext vs
    split <;> rfl
  · split
    · exact rdLeaf_split H b o _ K
    · rfl

theorem view1_split {R : Type} (P : Program) (t : TypeId) (v : V) (K : V → Option R) : callView.view1 P t v K = (callView.view1 P t v some).bind K := by
  unfold callView.view1
  split
  · split
    · rw [views_split, views_split _ _ fun cs' => some (V.agg cs'), Option.bind_assoc]
      rfl
    · rfl
  · split
    · exact view_split _ _ K
    · rfl

theorem viewsT_split {R : Type} (P : Program) : ∀ (vs : List V) (ts : List TypeId) (K : List V → Option R), callView.views' P vs ts K = (callView.views' P vs ts some).bind K
  | [], [], K => rfl
  | v :: vs, t :: ts, K => by
    unfold callView.views'
    rw [view1_split P t v fun v' => callView.views' P vs ts fun vs' => K (v' :: vs'), view1_split P t v fun v' => callView.views' P vs ts fun vs' => some (v' :: vs'), Option.bind_assoc]
    congr 1
    funext v'
    rw [viewsT_split P vs ts fun vs' => K (v' :: vs'), viewsT_split P vs ts fun vs' => some (v' :: vs'), Option.bind_assoc]
    rfl
  | [], _ :: _, K => rfl
  | _ :: _, [], K => rfl

theorem callView_split {R : Type} (P : Program) (t : TypeId) (v : V) (K : V → Option R) : callView P t v K = (callView P t v some).bind K := by
  unfold callView
  split
  · split
    · rw [viewsT_split, viewsT_split _ _ _ fun vs' => some (V.tup vs'), Option.bind_assoc]
      rfl
    · rfl
  · exact view1_split _ _ _ _

abbrev ret2 : V → Heap → Option (V × Heap) := fun v H => some (v, H)

theorem bind_one {α R : Type} (x : Option α) (f : α → V) (H : Heap) (K : V → Heap → Option R) : (x.bind fun a => K (f a) H) = (x.bind fun a => ret2 (f a) H).bind fun r => K r.1 r.2 := by
  cases x <;> rfl

theorem opX_split {R : Type} (c : Cfg) (call : CallF) (o : Oper) (st : St) (H : Heap) (K : V → Heap → Option R) :
    opX c call o st H K = (opX c call o st H ret2).bind fun r => K r.1 r.2 := by
  unfold opX
  cases o.op with
  | load t x =>
    simp only
    split
    · rename_i p _
      cases p with
      | none => rfl
      | some a =>
        simp only [Option.bind_some]
        rw [loadT_split, loadT_split _ _ _ _ _ fun v => ret2 v H, Option.bind_assoc]
        rfl
    · rfl
  | call cl =>
    simp only
    split
    case h_8 =>
      split
      · rename_i fv args _ _
        rw [Option.bind_assoc]
        congr 1
        funext r
        rw [callView_split, callView_split _ _ _ fun v => ret2 v r.2, Option.bind_assoc]
        rfl
      · rfl
    all_goals
      repeat' first
        | rfl
        | (rw [Option.bind_assoc]; congr 1 <;> funext _)
        | split
  | _ =>
    simp only
    repeat' first
      | rfl
      | (rw [Option.bind_assoc]; congr 1 <;> funext _)
      | split

end Go.Vm
