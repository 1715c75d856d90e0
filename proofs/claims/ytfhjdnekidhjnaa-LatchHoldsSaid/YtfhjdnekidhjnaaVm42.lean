/-
  Pieces of code put together; a piece told on a small heap, within a heap of which a part is not told block by block.
-/
import Derived.Test.YtfhjdnekidhjnaaVm41
set_option linter.unusedVariables false
set_option linter.unusedSimpArgs false
namespace Go.Vm

theorem COK.seq {c : Cfg} {rd : Option Nat} {a b : Code} {st st1 st2 : St} {H H1 H2 : Heap} {e : Ex} (h1 : COK c rd a st H .normal st1 H1) (h2 : COK c rd b st1 H1 e st2 H2) : COK c rd (.seq a b) st H e st2 H2 := by
  intro F hF B n ρ w act Q hr hs hm hrd hB hE
  refine wpIn_seq (h1 F hF B n ρ w act _ hr hs hm hrd hB ?_)
  intro ρ1 w1 a1 j2 j3 j4 j5
  exact h2 F hF B n ρ1 w1 a1 Q j2 j3 j4 (hrd.mono j5.le) (Nat.le_trans hB j5.size) fun ρ2 w2 a2 k2 k3 k4 k5 => hE ρ2 w2 a2 k2 k3 k4 (j5.trans k5)

theorem COK.seqx {c : Cfg} {rd : Option Nat} {a b : Code} {st st1 : St} {H H1 : Heap} {e : Ex} (h1 : COK c rd a st H e st1 H1) (he : isNormal e = false) : COK c rd (.seq a b) st H e st1 H1 := by
  intro F hF B n ρ w act Q hr hs hm hrd hB hE
  refine wpIn_seq (h1 F hF B n ρ w act _ hr hs hm hrd hB ?_)
  intro ρ1 w1 a1 j2 j3 j4 j5
  cases e with
  | normal => cases he
  | exit id => exact hE ρ1 w1 a1 j2 j3 j4 j5
  | ret => exact hE ρ1 w1 a1 j2 j3 j4 j5

/-- What a block makes of an end. -/
def Ex.out (id : Nat) : Ex → Ex
  | .normal => .normal
  | .exit i => if i = id then .normal else .exit i
  | .ret => .ret

theorem COK.block {c : Cfg} {rd : Option Nat} {id : Nat} {a : Code} {st st1 : St} {H H1 : Heap} {e : Ex} (h : COK c rd a st H e st1 H1) : COK c rd (.block id a) st H (e.out id) st1 H1 := by
  intro F hF B n ρ w act Q hr hs hm hrd hB hE
  refine wpIn_block (h F hF B n ρ w act _ hr hs hm hrd hB ?_)
  intro ρ1 w1 a1 j2 j3 j4 j5
  have := hE ρ1 w1 a1 j2 j3 j4 j5
  cases e with
  | normal => exact this
  | exit i =>
    show if i = id then Q .normal a1 w1 else Q (.exit i) a1 w1
    replace this : Q (exit? (if i = id then Ex.normal else Ex.exit i)) a1 w1 := this
    by_cases hi : i = id
    · rw [if_pos hi] at this ⊢; exact this
    · rw [if_neg hi] at this ⊢; exact this
  | ret => exact this

theorem COK.loop {c : Cfg} {rd : Option Nat} {a : Code} {st st1 : St} {H H1 : Heap} {e : Ex} (h : LOK c rd a st H e st1 H1) : COK c rd (.loop a) st H e st1 H1 := by
  intro F hF B n ρ w act Q hr hs hm hrd hB hE
  exact wpIn_of_LW (h F hF B n ρ w act Q hr hs hm hrd hB hE)

/-- A function whose body comes to an end. -/
theorem OK.body {c : Cfg} {f : FuncId} {fn : Func} {body : Code} {cs args : List V} {H : Heap} {e : Ex} {st : St} {H' : Heap} {vs : List V} (hf : c.P.funcs[f]? = some fn) (hb : fn.body = some body) (hname : (fn.name == "runtime.NumGoroutine") = false)
    (h : COK c none body (args ++ cs ++ List.replicate (fn.ntmps - (args ++ cs).length) (.tup [])) H e st H') (he : ∀ id, e ≠ .exit id) (hv : resX c.P st H' fn.results.toList some = some vs) : OK c (.fn f cs) args H (oneOf vs) H' := by
  intro m ρ w ufv uargs hr hfv hargs
  obtain ⟨us, hus, rfl⟩ := hfv.inv_fn
  refine .inl ⟨f, us.toArray, fn, rfl, hf, hname, by rw [hb]; rfl, ?_⟩
  refine callsIn_of_wp_marks hf hb trivial ?_
  refine h Fence.wide (.inl rfl) w.heap.size m ρ w _ _ hr ?_ (Marks.nil _ _ _ _) rfl (Nat.le_refl _) ?_
  · have e1 := hargs.append hus
    have e2 := e1.length
    have e3 := e1.append (VRL.replicate (ρ := ρ) (fn.ntmps - (args ++ cs).length) (v := .tup []) (u := Go.undef) (.tup [] [] .nil))
    have e4 : (uargs.toArray ++ us.toArray).size = (args ++ cs).length := by rw [← e2]; simp
    unfold SR
    simp only [Array.toList_append, Array.toList_replicate, e4]
    exact e3
  · intro ρ1 w1 a1 j2 j3 j4 j5
    have fin : LeavesInM Fence.wide m c.P fn a1.tmps (Back ρ H w (oneOf vs) H') a1.defers .returning w1 := by
      refine leaves_out j3 ?_ _ w1 j2 j4 j5
      rw [resX_run hv]
    cases e with
    | normal => exact fin
    | exit id => exact absurd rfl (he id)
    | ret => exact fin

/-- A state of which less is known. -/
def Und : St → St → Prop
  | [], [] => True
  | v :: vs, u :: us => (v = .undef ∨ v = u) ∧ Und vs us
  | _, _ => False

theorem Und.vrl {ρ : Map} : ∀ {st0 st1 : St} {us : List Value}, Und st0 st1 → VRL ρ st1 us → VRL ρ st0 us
  | [], [], _, _, h => h
  | v :: vs, u :: us, _, hu, .cons _ x _ xs h hs => by
    refine .cons _ _ _ _ ?_ (Und.vrl hu.2 hs)
    rcases hu.1 with rfl | rfl
    · exact .undef _
    · exact h
  | [], _ :: _, _, h, _ => h.elim
  | _ :: _, [], _, h, _ => h.elim

theorem LOK.pre {c : Cfg} {rd : Option Nat} {a : Code} {st0 st1 st' : St} {H H' : Heap} {e : Ex} (h : LOK c rd a st0 H e st' H') (hu : Und st0 st1) : LOK c rd a st1 H e st' H' := by
  intro F hF B n ρ w act Q hr hs hm hrd hB hE
  exact h F hF B n ρ w act Q hr (hu.vrl hs) hm hrd hB hE
theorem COK.pre {c : Cfg} {rd : Option Nat} {a : Code} {st0 st1 st' : St} {H H' : Heap} {e : Ex} (h : COK c rd a st0 H e st' H') (hu : Und st0 st1) : COK c rd a st1 H e st' H' := by
  intro F hF B n ρ w act Q hr hs hm hrd hB hE
  exact h F hF B n ρ w act Q hr (hu.vrl hs) hm hrd hB hE
theorem COK.post {c : Cfg} {rd : Option Nat} {a : Code} {st st0 st1 : St} {H H' : Heap} {e : Ex} (h : COK c rd a st H e st1 H') (hu : Und st0 st1) : COK c rd a st H e st0 H' := by
  intro F hF B n ρ w act Q hr hs hm hrd hB hE
  exact h F hF B n ρ w act Q hr hs hm hrd hB fun ρ1 w1 a1 j2 j3 j4 j5 => hE ρ1 w1 a1 j2 (hu.vrl j3) j4 j5

/-- The larger heap behind a piece that was told on a small one: where its names are, the small heap's blocks; else as it was. 'sl': the places of the small heap's blocks (blocks that begin where the place begins); 'ws': those of its owned blocks that are kept. -/
theorem post_same {H G H' G' : Heap} {sl : List (Option (Nat × Nat))} (hlen : G'.length = G.length)
    (hro : ∀ b p, sg sl b = some p → p.1 < G.length ∧ (roAt H b = true → roAt G p.1 = true))
    (hblk : ∀ b1 k, G'[b1]? = some k → k = .dead ∨ (G[b1]? = some k ∧ ∀ b, Owned H b → sg sl b ≠ some (b1, 0)) ∨ ∃ b k0, sg sl b = some (b1, 0) ∧ H'[b]? = some k0 ∧ IB (sg sl) k0 k) :
    Post (sg sl) (sg sl) (fun _ => none) H G H' G' := by
  refine ⟨by omega, fun b p hb _ => ⟨hb, (hro b p hb).2⟩, fun b p hb hge => ?_, fun b1 b h => (by cases h), fun b1 k hk => ?_⟩
  · have := (hro b p hb).1; omega
  · rcases hblk b1 k hk with h | h | h
    · exact .inl h
    · exact .inr (.inl ⟨(List.getElem?_eq_some_iff.1 h.1).1, h.1, h.2⟩)
    · exact .inr (.inr h)

/-- Nothing of the larger heap is changed where the small heap owns nothing. -/
theorem post_still {H G H' : Heap} {sl : List (Option (Nat × Nat))} (hro : ∀ b p, sg sl b = some p → p.1 < G.length ∧ (roAt H b = true → roAt G p.1 = true)) (hno : NoOwn H) : Post (sg sl) (sg sl) (fun _ => none) H G H' G :=
  post_same rfl hro fun b1 k hk => .inr (.inl ⟨hk, fun b hb => absurd hb (hno b)⟩)

end Go.Vm
