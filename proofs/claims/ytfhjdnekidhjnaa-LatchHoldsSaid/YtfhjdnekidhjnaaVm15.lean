/-
  Calls: functions, and the rounds of a range over a function.
-/
import Derived.Test.YtfhjdnekidhjnaaVm14
set_option linter.unusedVariables false
set_option linter.unusedSimpArgs false
namespace Go.Vm

theorem Rel.other {ρ : Map} {H : Heap} {w w' : World} (h : Rel ρ H w) {q : Nat} {x : Option (List Deferred)} (hq : w.heap[q]? = some (.deferred x)) (hk : ∀ i, i ≠ q → w'.heap[i]? = w.heap[i]?) : Rel ρ H w' where
  dom := h.dom
  inj := h.inj
  blk b k hb := by
    have hb' := h.blk b k hb
    cases k with
    | dead => exact trivial
    | void => exact hb'
    | cells rw cs =>
      obtain ⟨L, C, ty, fz, h1, h2, h3, h4⟩ := hb'
      exact ⟨L, C, ty, fz, h1, h2, (hk _ (by rintro rfl; rw [hq] at h3; cases h3)).trans h3, h4⟩
    | loop r =>
      obtain ⟨L, fn, tm, d, h1, h2, h3, h4⟩ := hb'
      exact ⟨L, fn, tm, d, h1, h2, (hk _ (by rintro rfl; rw [hq] at h3; cases h3)).trans h3, h4⟩

theorem leaves_out {c : Cfg} {F : Fence} {n : Nat} {fn : Func} {tmps : Array Value} {ρ0 : Map} {H0 : Heap} {w0 : World} {v : V} {H' : Heap} {ρ : Map} {st : St} {H : Heap} (hs : SR ρ st tmps)
    (h : resX c.P st H fn.results.toList (fun vs => some (oneOf vs, H)) = some (v, H')) : ∀ (ds : List Deferred) (w : World), Rel ρ H w → Marks w0.heap.size ρ H w ds → Step ρ0 H0 w0 ρ H w →
      LeavesInM F n c.P fn tmps (Back ρ0 H0 w0 v H') ds .returning w
  | [], w, hr, hm, hst => by
    obtain ⟨vs, us, h1, h2, h3⟩ := resX_rel hr hs h
    simp only [Option.some.injEq, Prod.mk.injEq] at h1
    obtain ⟨rfl, rfl⟩ := h1
    exact ⟨_, results_run h3, _, ρ, rfl, oneOf_rel h2, hr, hst⟩
  | d :: ds, w, hr, hm, hst => by
    obtain ⟨q, rfl, hq, hn, hB⟩ := hm.1 d (List.mem_cons_self)
    have hk : ∀ i, i ≠ q → (w.putObj q (.deferred none)).heap[i]? = w.heap[i]? := fun i hi => World.putObj_heap_other hi
    have hr' := hr.other hq hk
    have hst' : Step ρ H w ρ H (w.putObj q (.deferred none)) → True := fun _ => trivial
    have hst2 : Step ρ0 H0 w0 ρ H (w.putObj q (.deferred none)) :=
      ⟨hst.le, hst.len, hst.os, hst.tape, hst.output, by rw [World.putObj_size]; exact hst.size, fun i hi hni => (hk i (by omega)).trans (hst.keep i hi hni), hst.own, hst.live, hst.fresh⟩
    have hm' : Marks w0.heap.size ρ H (w.putObj q (.deferred none)) ds := by
      refine ⟨fun e he => ?_, (List.nodup_cons.1 hm.2).2⟩
      obtain ⟨q', e1, e2, e3, e4⟩ := hm.1 e (List.mem_cons_of_mem _ he)
      refine ⟨q', e1, (hk q' ?_).trans e2, e3, e4⟩
      rintro rfl
      rw [← e1] at hm
      exact (List.nodup_cons.1 hm.2).1 he
    exact ⟨by simp, .inl ⟨q, _, rfl, run_takeDeferred hq, leaves_out hs h ds _ hr' hm' hst2⟩⟩

theorem VR.plain {ρ ρ' : Map} {v : V} {u : Value} (h : VR ρ v u) (hp : v.plain = true) : VR ρ' v u := by
  cases h <;> first | (constructor; done) | (simp [V.plain] at hp)
theorem VRL.plain {ρ ρ' : Map} : ∀ {vs : List V} {us : List Value}, VRL ρ vs us → plains vs = true → VRL ρ' vs us
  | _, _, .nil, _ => .nil
  | _, _, .cons _ _ _ _ h hs, hp => by
    simp only [plains, Bool.and_eq_true] at hp
    exact .cons _ _ _ _ (h.plain hp.1) (hs.plain hp.2)

theorem setParams_rel {ρ : Map} : ∀ {ts : List Tmp} {vs : List V} {us : List Value} {st : St} {tmps : Array Value}, VRL ρ vs us → SR ρ st tmps →
    SR ρ (setParams st ts vs) ((ts.zip us).foldl (fun tmps (x : Tmp × Value) => tmps.setIfInBounds x.1 x.2) tmps)
  | [], _, _, _, _, _, hs => by simpa [setParams] using hs
  | _ :: _, _, _, _, _, .nil, hs => by simpa [setParams] using hs
  | t :: ts, _, _, _, _, .cons v u vs us h hvs, hs => by
    simp only [setParams, List.zip_cons_cons, List.foldl_cons]
    exact setParams_rel hvs (by simpa [SR] using VRL.set t hs h)

def emptyMap : Map := fun _ => none
theorem rel_empty (w : World) : Rel emptyMap [] w := ⟨(fun b L h => by cases h), (fun b k h => by simp at h), (fun b b' L L' _ _ _ h => by cases h)⟩

theorem call_sound {c : Cfg} (hD : ∀ (call : CallF) (F : Fence), FOK F → CallOK c call F → DrawsOK c call F) : ∀ k, CallOK c (callX c k) Fence.wide := by
  intro k
  induction k with
  | zero => intro n fv args H v H' h; simp [callX] at h
  | succ k ih =>
    have hFw : FOK Fence.wide := ⟨fun _ => trivial, rfl⟩
    intro n fv args H v H' h ρ w ufv uargs hr hv hargs
    cases fv with
    | fn f cs =>
      unfold callX at h
      split at h
      · cases h
      · rename_i fn hf
        split at h
        · cases h
        · rename_i body hb
          split at h
          · cases h
          · rename_i hname
            obtain ⟨us, hus, rfl⟩ := hv.inv_fn
            -- the body, from whatever the small machine begins with
            have main : ∀ (ρ0 : Map) (H0 : Heap) (v0 : V) (H1 : Heap), Rel ρ0 H0 w → VRL ρ0 args uargs → VRL ρ0 cs us →
                (codeX c (callX c k) f (k + 1) none body (args ++ cs ++ List.replicate (fn.ntmps - (args ++ cs).length) (.tup [])) H0 fun e st H' => match e with
                  | .exit _ => none
                  | _ => resX c.P st H' fn.results.toList fun vs => some (oneOf vs, H')) = some (v0, H1) →
                CallsIn Fence.wide n c.P f (uargs.toArray ++ us.toArray) w (Back ρ0 H0 w v0 H1) := by
              intro ρ0 H0 v0 H1 hr0 ha0 hc0 h0
              refine callsIn_of_wp_marks hf hb trivial ?_
              refine code_sound (B := w.heap.size) hFw ih (hD _ _ hFw ih) body h0 hr0 ?_ (Marks.nil _ _ _ _) rfl (Nat.le_refl _) ?_
              · have e1 := ha0.append hc0
                have e2 := e1.length
                have e3 := e1.append (VRL.replicate (ρ := ρ0) (fn.ntmps - (args ++ cs).length) (v := .tup []) (u := Go.undef) (.tup [] [] .nil))
                have e4 : (uargs.toArray ++ us.toArray).size = (args ++ cs).length := by rw [← e2]; simp
                unfold SR
                simp only [Array.toList_append, Array.toList_replicate, e4]
                exact e3
              · intro e st1 H2 ρ1 w1 a1 j1 j2 j3 j4 j5
                cases e with
                | normal => exact leaves_out j3 j1 _ w1 j2 j4 j5
                | exit id => cases j1
                | ret => exact leaves_out j3 j1 _ w1 j2 j4 j5
            refine .inl ⟨f, us.toArray, fn, rfl, hf, by simpa using hname, by rw [hb]; rfl, ?_⟩
            by_cases hiso : c.iso.contains f = true
            · rw [if_pos hiso] at h
              by_cases hp : (plains args && plains cs) = true
              · rw [if_pos hp] at h
                simp only [Bool.and_eq_true] at hp
                obtain ⟨⟨v0, H1⟩, h0, h⟩ := Option.bind_eq_some_iff.1 h
                simp only at h
                by_cases hp0 : v0.plain = true
                · rw [if_pos hp0] at h
                  cases h
                  refine (main emptyMap [] v H1 (rel_empty w) (hargs.plain hp.1) (hus.plain hp.2) h0).mono ?_
                  rintro e w' ⟨u, ρ', rfl, k1, k2, k3⟩
                  have hk : ∀ i, i < w.heap.size → w'.heap[i]? = w.heap[i]? := fun i hi => k3.keep i hi (by rintro ⟨b, L, ho, _⟩; rcases ho with ⟨_, ho⟩ | ⟨_, ho⟩ <;> simp at ho)
                  exact ⟨u, ρ, rfl, k1.plain hp0, hr.same hk, Step.still hk k3.size k3.os k3.tape k3.output⟩
                · rw [if_neg hp0] at h; cases h
              · rw [if_neg hp] at h; cases h
            · rw [if_neg hiso] at h
              exact main ρ H v H' hr hargs hus h
    | yld l =>
      unfold callX at h
      split at h
      · rename_i r hb
        obtain ⟨L, hL, hLk, rfl⟩ := hv.inv_yld
        by_cases hc : r.state = .ready ∧ args.length = r.params.size
        · rw [if_pos hc] at h
          obtain ⟨L', fn0, tm0, d0, j1, j2, j3, j4⟩ := hr.blk _ _ hb
          rw [hL] at j1; cases j1
          have hul := hargs.length
          have hFr : FOK (Fence.wide.inRound L.blk) := ⟨fun _ => trivial, rfl⟩
          have ihr := callOK_round L.blk ih
          have hy := run_yield (P := c.P) (args := uargs.toArray) j3 (by simp; omega)
          refine .inr (.inl ⟨L.blk, fn0, _, r.assign, r.body, rfl, hy, roundIn_of_wpIn trivial ?_⟩)
          refine code_sound (B := w.heap.size) hFr ihr (hD _ _ hFr ihr) r.assign h hr ?_ (Marks.nil _ _ _ _) ⟨L, hL, rfl⟩ (Nat.le_refl _) ?_
          · have := setParams_rel (ts := r.params.toList) hargs j4
            have e : (r.params.zip uargs.toArray).foldl (fun tmps (x : Tmp × Value) => tmps.setIfInBounds x.1 x.2) tm0 = (r.params.toList.zip uargs).foldl (fun tmps (x : Tmp × Value) => tmps.setIfInBounds x.1 x.2) tm0 := by
              rw [← Array.foldl_toList, Array.toList_zip]
            simp only at *
            rw [show (r.params.zip uargs.toArray).foldl (fun tmps x => match x with | (t, a) => tmps.setIfInBounds t a) tm0 = _ from e]
            exact this
          · intro e st1 H1 ρ1 w1 a1 q1 q2 q3 q4 q5
            cases e with
            | normal =>
              simp only at q1
              split at q1
              · rename_i r1 hb1
                by_cases hrdy : r1.state = .ready
                · rw [if_pos hrdy] at q1
                  obtain ⟨L1, fn1, tm1, d1, i1, i2, i3, i4⟩ := q2.blk _ _ hb1
                  have hL1 : L1 = L := by have := q5.le _ _ hL; rw [i1] at this; exact Option.some.inj this
                  subst hL1
                  have hbr := run_beginRound (P := c.P) i3 hrdy
                  have ho1 : Owned H1 l := .inr ⟨_, hb1⟩
                  refine ⟨_, hbr, ?_⟩
                  generalize hw2 : (w1.putObj L1.blk (.loop { state := .busy, pending := r1.pending, fn := fn1, tmps := tm1, params := r1.params, assign := r1.assign, body := r1.body, defers := d1 })) = w2
                  have hk2 : ∀ i, i < w1.heap.size → i ≠ L1.blk → w2.heap[i]? = w1.heap[i]? := fun i _ hi => by rw [← hw2]; exact World.putObj_heap_other hi
                  have hlt1 := (Array.getElem?_eq_some_iff.1 i3).1
                  have hr2 : Rel ρ1 (H1.set l (.loop { r1 with state := .busy })) w2 := q2.set l L1 _ i1 ho1 hk2 ⟨L1, fn1, tm1, d1, i1, i2, by rw [← hw2]; exact World.putObj_heap_same hlt1, i4⟩
                  have hst2 : Step ρ1 H1 w1 ρ1 (H1.set l (.loop { r1 with state := .busy })) w2 := Step.set l L1 _ i1 ho1 hk2 (by rw [← hw2]; simp) (by rw [← hw2]; rfl) (by rw [← hw2]; rfl) (by rw [← hw2]; rfl)
                  refine code_sound (B := w.heap.size) hFr ihr (hD _ _ hFr ihr) r.body q1 hr2 q3 (q4.step hst2) ⟨L1, i1, rfl⟩ (Nat.le_trans q5.size hst2.size) ?_
                  intro e st2 H2 ρ2 w3 a2 p1 p2 p3 p4 p5
                  simp only at p1
                  split at p1
                  · rename_i r2 hb2
                    simp only [Option.some.injEq, Prod.mk.injEq] at p1
                    obtain ⟨rfl, rfl⟩ := p1
                    obtain ⟨L2, fn2, tm2, d2, m1, m2, m3, m4⟩ := p2.blk _ _ hb2
                    have hL2 : L2 = L1 := by have := p5.le _ _ i1; rw [m1] at this; exact Option.some.inj this
                    subst hL2
                    have ho2 : Owned H2 l := .inr ⟨_, hb2⟩
                    have hlt3 := (Array.getElem?_eq_some_iff.1 m3).1
                    have done : ∀ jump : Option Code, jump = e.code → ∃ v' w', (Instr.endRound L2.blk jump).run c.P w3 = .ok v' w' ∧ Back ρ H w (.bool (isNormal e)) (H2.set l (.loop { r2 with state := endOf e, pending := e.code })) (.returned v') w' := by
                      rintro jump rfl
                      have hend := run_endRound (P := c.P) e.code m3
                      refine ⟨_, _, hend, ?_⟩
                      generalize hw4 : (w3.putObj L2.blk (.loop { state := if e.code.isNone then .ready else .done, pending := e.code, fn := fn2, tmps := tm2, params := r2.params, assign := r2.assign, body := r2.body, defers := d2 })) = w4
                      have hk4 : ∀ i, i < w3.heap.size → i ≠ L2.blk → w4.heap[i]? = w3.heap[i]? := fun i _ hi => by rw [← hw4]; exact World.putObj_heap_other hi
                      have hstate : (if e.code.isNone then LoopState.ready else .done) = endOf e := by cases e <;> rfl
                      have hbool : e.code.isNone = isNormal e := by cases e <;> rfl
                      have hr4 : Rel ρ2 (H2.set l (.loop { r2 with state := endOf e, pending := e.code })) w4 := p2.set l L2 _ m1 ho2 hk4 ⟨L2, fn2, tm2, d2, m1, m2, by rw [← hw4, hstate]; exact World.putObj_heap_same hlt3, m4⟩
                      have hst4 : Step ρ2 H2 w3 ρ2 (H2.set l (.loop { r2 with state := endOf e, pending := e.code })) w4 := Step.set l L2 _ m1 ho2 hk4 (by rw [← hw4]; simp) (by rw [← hw4]; rfl) (by rw [← hw4]; rfl) (by rw [← hw4]; rfl)
                      exact ⟨_, ρ2, rfl, by rw [hbool]; exact .bool _, hr4, q5.trans (hst2.trans (p5.trans hst4))⟩
                    cases e with
                    | normal => exact done none rfl
                    | exit id => exact done (some (.exit id)) rfl
                    | ret => exact done (some .ret) rfl
                  · cases p1
                · rw [if_neg hrdy] at q1; cases q1
              · cases q1
            | exit id => cases q1
            | ret => cases q1
        · rw [if_neg hc] at h; cases h
      · cases h
    | _ => simp [callX] at h

end Go.Vm
