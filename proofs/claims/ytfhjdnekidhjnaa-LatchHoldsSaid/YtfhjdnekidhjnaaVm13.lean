/-
  Code.
-/
import Derived.Test.YtfhjdnekidhjnaaVm12
set_option linter.unusedVariables false
set_option linter.unusedSimpArgs false
namespace Go.Vm

section
variable {R : Type} {c : Cfg} {call : CallF} {F : Fence} {r : R} {B : Nat} {f : FuncId} {k : Nat} {rd : Option Nat}

/-- A region whose order is drawn. -/
def DrawsOK (c : Cfg) (call : CallF) (F : Fence) : Prop :=
  ∀ (R : Type) (r : R) (n id : Nat) (ops : Array Oper) (st : St) (H : Heap) (K : St → Heap → Option R) (ρ : Map) (w : World) (a : Act) (Q : Exit → Act → World → Prop), drawX c call ops st H K = some r → Rel ρ H w → SR ρ st a.tmps →
    (∀ st' H' ρ' w' a', K st' H' = some r → Rel ρ' H' w' → SR ρ' st' a'.tmps → a'.defers = a.defers → Step ρ H w ρ' H' w' → Q .normal a' w') → (Code.region id ops true).wpIn F n c.P Q a w

theorem range_sound {n : Nat} {x : Operand} {params : Array Tmp} {assign body : Code} {st : St} {H : Heap} {K : Ex → St → Heap → Option R} {ρ : Map} {w : World} {a : Act} {Q : Exit → Act → World → Prop} (hF : FOK F) (hC : CallOK c call F)
    (h : codeX c call f k rd (.rangeFunc x params assign body) st H K = some r) (hr : Rel ρ H w) (hs : SR ρ st a.tmps) (hm : Marks B ρ H w a.defers) (hrd : RdOK F ρ rd) (hB : B ≤ w.heap.size) (hQ : Owes B ρ H w K r Q) :
    (Code.rangeFunc x params assign body).wpIn F n c.P Q a w := by
  unfold codeX at h
  split at h
  · rename_i g cs hx
    by_cases hl : (isLoop H rd && hasBody c.P g) = true
    · rw [if_pos hl] at h
      obtain ⟨hl, hbd⟩ := Bool.and_eq_true_iff.1 hl
      obtain ⟨⟨v, H2⟩, hcall, h⟩ := Option.bind_eq_some_iff.1 h
      obtain ⟨us, hus, hxe⟩ := (ev_rel hs hx).inv_fn
      refine wpIn_rangeFunc fun fn _ => ?_
      -- the record (and, outermost, the block for deferred calls)
      have enter : ∃ (l : Nat) (mark : List Deferred) (w1 : World) (d : Nat), (Instr.enterLoop fn a.tmps params assign body F.round).run c.P w = .ok (l, mark) w1 ∧ w.heap.size ≤ l ∧
          (∀ i, i < w.heap.size → w1.heap[i]? = w.heap[i]?) ∧ w.heap.size ≤ w1.heap.size ∧ w1.os = w.os ∧ w1.tape = w.tape ∧ w1.output = w.output ∧
          w1.heap[l]? = some (.loop { state := .ready, pending := none, fn, tmps := a.tmps, params, assign, body, defers := d }) ∧
          Marks B ρ H w1 (mark ++ a.defers) ∧ ¬ (∃ e ∈ mark ++ a.defers, e = { target := .collected l, args := #[] }) := by
        have hold : ∀ e ∈ a.defers, ∃ r, e = { target := .collected r, args := #[] } ∧ w.heap[r]? = some (.deferred (some [])) ∧ ¬ OwnR ρ H r ∧ B ≤ r := hm.1
        cases rd with
        | none =>
          have hro : F.round = none := hrd
          rw [hro]
          refine ⟨w.heap.size + 1, [{ target := .collected w.heap.size, args := #[] }], (w.alloc (.deferred (some []))).alloc (.loop { state := .ready, pending := none, fn, tmps := a.tmps, params := params, assign, body, defers := w.heap.size }), w.heap.size, run_enterLoop_outer fn a.tmps params assign body, by omega, ?_, (by simp; omega), rfl, rfl, rfl, ?_, ?_, ?_⟩
          · intro i hi
            rw [alloc_same _ _ i (by simp; omega)]
            exact alloc_same w _ i hi
          · have := alloc_new (w.alloc (.deferred (some []))) (.loop { state := .ready, pending := none, fn, tmps := a.tmps, params, assign, body, defers := w.heap.size })
            rw [World.size_alloc] at this
            exact this
          · refine ⟨?_, ?_⟩
            · intro e he
              simp only [List.cons_append, List.nil_append, List.mem_cons] at he
              rcases he with rfl | he
              · refine ⟨w.heap.size, rfl, ?_, ?_, hB⟩
                · rw [alloc_same _ _ _ (by simp)]
                  exact alloc_new w _
                · rintro ⟨b, L, ho, hb, e⟩
                  obtain ⟨L', h1, h2⟩ := hr.lt ho.live
                  rw [hb] at h1; cases h1
                  omega
              · obtain ⟨q, e1, e2, e3, e4⟩ := hold e he
                have hlt := (Array.getElem?_eq_some_iff.1 e2).1
                refine ⟨q, e1, ?_, e3, e4⟩
                rw [alloc_same _ _ _ (by simp; omega), alloc_same w _ _ hlt]
                exact e2
            · refine List.nodup_cons.2 ⟨fun he => ?_, hm.2⟩
              obtain ⟨q, e1, e2, _, _⟩ := hold _ he
              have hlt := (Array.getElem?_eq_some_iff.1 e2).1
              simp only [Deferred.mk.injEq, Target.collected.injEq, and_true] at e1
              omega
          · rintro ⟨e, he, rfl⟩
            simp only [List.cons_append, List.nil_append, List.mem_cons] at he
            rcases he with he | he
            · simp only [Deferred.mk.injEq, Target.collected.injEq, and_true] at he
              omega
            · obtain ⟨q, e1, e2, _, _⟩ := hold _ he
              have hlt := (Array.getElem?_eq_some_iff.1 e2).1
              simp only [Deferred.mk.injEq, Target.collected.injEq, and_true] at e1
              omega
        | some l0 =>
          obtain ⟨L0, hL0, hro⟩ := hrd
          rw [hro]
          unfold isLoop at hl
          simp only at hl
          split at hl
          · rename_i r0 hb0
            obtain ⟨L0', fn0, tm0, d0, j1, j2, j3, j4⟩ := hr.blk _ _ hb0
            rw [hL0] at j1; cases j1
            refine ⟨w.heap.size, [], w.alloc (.loop { state := .ready, pending := none, fn, tmps := a.tmps, params, assign, body, defers := d0 }), d0, ?_, Nat.le_refl _, alloc_same w _, by simp, rfl, rfl, rfl, alloc_new w _, ?_, ?_⟩
            · unfold Instr.enterLoop
              simp [Sem.run_bind, run_getLoop j3, Result.andThen, Sem.run_pure]
            · simp only [List.nil_append]
              exact hm.step (Step.still (alloc_same w _) (by simp) rfl rfl rfl)
            · rintro ⟨e, he, rfl⟩
              simp only [List.nil_append] at he
              obtain ⟨q, e1, e2, _, _⟩ := hold _ he
              have hlt := (Array.getElem?_eq_some_iff.1 e2).1
              simp only [Deferred.mk.injEq, Target.collected.injEq, and_true] at e1
              omega
          · cases hl
      obtain ⟨l, mark, w1, d, e1, e2, e3, e4, e5, e6, e7, e8, e9, e10⟩ := enter
      -- the small machine's record
      have hr1 : Rel (ρ.put H.length ⟨l, 0, 0, .loop⟩) (H ++ [.loop { fid := f, state := .ready, pending := none, st := st, params := params, assign := assign, body := body }]) w1 :=
        hr.snoc _ _ e3 e2 ⟨_, fn, a.tmps, d, Map.put_at _ _ _, rfl, e8, hs.mono (Map.put_le hr.dom _)⟩
      have hst1 : Step ρ H w (ρ.put H.length ⟨l, 0, 0, .loop⟩) (H ++ [.loop { fid := f, state := .ready, pending := none, st := st, params := params, assign := assign, body := body }]) w1 :=
        Step.snoc hr _ _ e3 e4 e2 e5 e6 e7
      have hfv : VR (ρ.put H.length ⟨l, 0, 0, .loop⟩) (.fn g cs) (a.eval x) := (ev_rel hs hx).mono hst1.le
      have hyv : VRL (ρ.put H.length ⟨l, 0, 0, .loop⟩) [V.yld H.length] [Value.func (.yield l) #[] #[]] := .cons _ _ _ _ (.yld _ ⟨l, 0, 0, .loop⟩ (Map.put_at _ _ _) rfl) .nil
      rcases hC (n - 1) _ _ _ _ _ hcall _ w1 _ _ hr1 hfv hyv with ⟨g', us', fn', k1, k2, k3, k4, k5⟩ | ⟨_, _, _, _, _, k1, _, _⟩ | ⟨g', us', fn', u', w', k1, k2, k3, _, _⟩
      · refine ⟨l, mark, w1, { target := .fn (.func g') us', args := #[.func (.yield l) #[] #[]] }, w1, g', _, w1, e1, ?_, fun _ _ => hF.fn _, ?_, (fun hd => by rw [hF.depth] at hd; cases hd), k5.mono ?_⟩
        · unfold resolve
          simp only
          rw [k1]
          simp [Deferred.ofValue, Act.eval]
        · simp [invoke, run_call_fn k2 k3 k4]
        · rintro e w3 ⟨u, ρ3, rfl, hv, hrel, hstep⟩
          simp only at h
          split at h
          · rename_i lr hb3
            obtain ⟨L3, fn3, tm3, d3, j1, j2, j3, j4⟩ := hrel.blk _ _ hb3
            have hL3 : L3 = ⟨l, 0, 0, .loop⟩ := by
              have := hstep.le _ _ (Map.put_at ρ H.length ⟨l, 0, 0, .loop⟩)
              rw [j1] at this
              exact Option.some.inj this
            subst hL3
            by_cases hbusy : lr.state = .busy
            · rw [if_pos hbusy] at h; cases h
            · rw [if_neg hbusy] at h
              have hrun : (Instr.endLoop l).run c.P w3 = .ok lr.pending (w3.putObj l (.loop { state := .exhausted, pending := lr.pending, fn := fn3, tmps := tm3, params := lr.params, assign := lr.assign, body := lr.body, defers := d3 })) := run_endLoop (P := c.P) j3 hbusy
              have ho3 : Owned H2 H.length := .inr ⟨_, hb3⟩
              have hk4 : ∀ i, i < w3.heap.size → i ≠ l → (w3.putObj l (.loop { state := .exhausted, pending := lr.pending, fn := fn3, tmps := tm3, params := lr.params, assign := lr.assign, body := lr.body, defers := d3 })).heap[i]? = w3.heap[i]? :=
                fun i _ hi => World.putObj_heap_other hi
              have hr4 := hrel.set _ ⟨l, 0, 0, .loop⟩ .dead j1 ho3 hk4 trivial
              have hst4 := Step.set (w := w3) H.length ⟨l, 0, 0, .loop⟩ .dead j1 ho3 hk4 (by simp) rfl rfl rfl
              have hst : Step ρ H w ρ3 (H2.set H.length .dead) _ := hst1.trans (hstep.trans hst4)
              have hs4 : SR ρ3 st a.tmps := hs.mono hst.le
              have e9' : Marks B (ρ.put H.length ⟨l, 0, 0, .loop⟩) (H ++ [.loop { fid := f, state := .ready, pending := none, st := st, params := params, assign := assign, body := body }]) w1 (mark ++ a.defers) := by
                refine ⟨fun e he => ?_, e9.2⟩
                obtain ⟨q, q1, q2, q3, q4⟩ := e9.1 e he
                refine ⟨q, q1, q2, fun ho => ?_, q4⟩
                obtain ⟨b, L, o1, o2, o3⟩ := ho
                by_cases hbl : b = H.length
                · subst hbl
                  rw [Map.put_at] at o2; cases o2
                  simp only at o3
                  subst o3
                  exact e10 ⟨e, he, q1⟩
                · refine q3 ⟨b, L, ?_, ?_, o3⟩
                  · rcases o1 with ⟨cs, o1⟩ | ⟨rr, o1⟩
                    · rcases snoc_get o1 with o1 | ⟨rfl, _⟩
                      · exact .inl ⟨_, o1⟩
                      · exact absurd rfl hbl
                    · rcases snoc_get o1 with o1 | ⟨rfl, _⟩
                      · exact .inr ⟨_, o1⟩
                      · exact absurd rfl hbl
                  · unfold Map.put at o2; rw [if_neg hbl] at o2; exact o2
              have hm4 := (e9'.step hstep).step hst4
              generalize (w3.putObj l (.loop { state := .exhausted, pending := lr.pending, fn := fn3, tmps := tm3, params := lr.params, assign := lr.assign, body := lr.body, defers := d3 })) = w4 at *
              refine ⟨lr.pending, w4, hrun, ?_⟩
              split at h
              · rename_i hp
                rw [hp]
                exact hQ .normal st _ ρ3 _ _ h hr4 hs4 hm4 hst
              · rename_i id hp
                rw [hp]
                exact wpIn_exit (hQ (.exit id) st _ ρ3 _ _ h hr4 hs4 hm4 hst)
              · rename_i hp
                rw [hp]
                exact wpIn_ret (hQ .ret st _ ρ3 _ _ h hr4 hs4 hm4 hst)
              · cases h
          · cases h
      · rw [hxe] at k1; cases k1
      · rw [hxe] at k1; cases k1
        exfalso
        simp [hasBody, k2, k3] at hbd
    · rw [if_neg hl] at h; cases h
  · cases h

end
end Go.Vm
