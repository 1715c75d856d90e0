/-
  Regions whose order is drawn: every order comes to the same.
-/
import Derived.Test.YtfhjdnekidhjnaaVm22
set_option linter.unusedVariables false
set_option linter.unusedSimpArgs false
namespace Go.Vm

section
variable {c : Cfg} {call : CallF} {ops : Array Oper} {ord : List Nat} {s0 e : Nat} {st0 : St} {tr : List Tr} {Hm : Heap}
variable {ρ0 : Map} {H0 : Heap} {w0 : World} {ds : List Deferred} {F : Fence} {n : Nat}

theorem isA_not_l {P : Program} {o : Oper} (h : clsOf P o ≠ .w) : isA o = false := by
  cases ha : isA o with
  | false => rfl
  | true => exact absurd (isA_w ha) h

/-- The pending heap does not know of an operation that fills nothing. -/
theorem Run.pend_more (hR : Run c call ops ord s0 e st0 tr Hm) {D : Nat → Prop} {k p : Nat} (hf : fillAt c ops ord tr st0 p = none ∨ p < k) :
    pend c ops ord s0 st0 tr (fun q => D q ∨ q = p) k = pend c ops ord s0 st0 tr D k := by
  funext b
  refine hR.pend_eq fun q cs h1 h2 => ?_
  constructor
  · rintro ⟨h3, h4 | rfl⟩
    · exact ⟨h3, h4⟩
    · rcases hf with hf | hf
      · rw [hf] at h1; cases h1
      · omega
  · rintro ⟨h3, h4⟩; exact ⟨h3, .inl h4⟩

/-- An operation of the region, done when all before it is done. -/
theorem Run.exec (hR : Run c call ops ord s0 e st0 tr Hm) (hF : FOK F) (hC : CallOK c call F) (hs0 : H0.length ≤ s0) {Q : Exit → Act → World → Prop} {k : Nat} {D : Nat → Prop} {ρ : Map} {w : World} {a : Act}
    (hI : Inv c ops ord s0 e st0 tr Hm ρ0 H0 w0 ds k D ρ w a) (hS : Stop c ops ord k D) {p i : Nat} (h1 : ord[p]? = some i) (hD : ¬ D p) (hanc : ∀ q j : Nat, ord[q]? = some j → Anc ops j i → D q)
    {K : Act → World → Prop} (hK : ∀ k' ρ' w' a', Inv c ops ord s0 e st0 tr Hm ρ0 H0 w0 ds k' (fun q => D q ∨ q = p) ρ' w' a' → Stop c ops ord k' (fun q => D q ∨ q = p) → K a' w') :
    wpOpIn F n c.P ops Q i K a w := by
  have hlt := (List.getElem?_eq_some_iff.1 h1).1
  obtain ⟨i', o, t, h1', h2, h3, ⟨d1, d2, hd⟩, h5, h6⟩ := hR.does p hlt
  rw [h1] at h1'; cases h1'
  have hsr := hR.looks hI h1 h2 hD hanc
  -- where a thing that may change the heap lies
  have hpk : clsOf c.P o = .w → k ≤ p := by
    intro hw
    rcases Nat.lt_or_ge p k with h | h
    · exact absurd (hI.wa p i o h h1 h2 hw) hD
    · exact h
  have hpk' : clsOf c.P o = .w → isA o = false → p = k := by
    intro hw ha
    have := hpk hw
    by_cases hkp : k = p
    · exact hkp.symm
    · rcases hS with hS | ⟨j, y, k1, k2, k3, k4⟩
      · omega
      · exact absurd (hanc k j k1 ((hR.pair k p j i y o hkp k1 h1 k2 h2).2.2 (by omega) k3 hw ha)) k4
  -- what the invariant keeps
  have dc' : ∀ p' q i' j : Nat, ord[p']? = some i' → ord[q]? = some j → Anc ops i' j → (D q ∨ q = p) → (D p' ∨ p' = p) := by
    intro p' q i' j q1 q2 q3 q4
    rcases q4 with q4 | rfl
    · exact .inl (hI.dc p' q i' j q1 q2 q3 q4)
    · rw [h1] at q2; cases q2
      exact .inl (hanc p' i' q1 q3)
  have dm' : ∀ q, (D q ∨ q = p) → q < ord.length := by
    rintro q (q1 | rfl)
    · exact hI.dm q q1
    · exact hlt
  have fin : ∀ k' ρ' w' a', Inv c ops ord s0 e st0 tr Hm ρ0 H0 w0 ds k' (fun q => D q ∨ q = p) ρ' w' a' → K a' w' := by
    intro k' ρ' w' a' h
    obtain ⟨k2, j1, j2⟩ := hR.advance _ k' (Nat.le_refl _) h
    exact hK k2 ρ' w' a' j1 j2
  have sz' : ∀ u, (a.put o.dst u).tmps.size = st0.length := by
    intro u
    rw [← hI.sz]
    unfold Act.put
    split <;> simp
  have df' : ∀ u, (a.put o.dst u).defers = ds := fun u => (put_defers _ _ _).trans hI.df
  -- the heap left as it was: places stay free
  have free' : ∀ {ρ' : Map}, (∀ b L, ρ' b = some L → ρ b = some L ∨ (hN tr Hm k).length ≤ b) → ∀ (q j : Nat) (y : Oper), ord[q]? = some j → ops[j]? = some y → isA y = true → ¬ (D q ∨ q = p) → ρ' (slotN ops ord s0 q) = none := by
    intro ρ' hfr q j y q1 q2 q3 q4
    obtain ⟨t', ht'⟩ : ∃ t', tr[q]? = some t' := by
      obtain ⟨_, _, t', _, _, ht', _⟩ := hR.does q (List.getElem?_eq_some_iff.1 q1).1
      exact ⟨t', ht'⟩
    cases hh : ρ' (slotN ops ord s0 q) with
    | none => rfl
    | some L =>
      rcases hfr _ _ hh with h | h
      · rw [hI.free q j y q1 q2 q3 (fun hd => q4 (.inl hd))] at h; cases h
      · have := (hR.at_A q1 q2 ht' q3).2.1
        have := hI.len
        omega
  -- an operation that leaves the heap: the invariant at the same place
  have still : (isA o = true → fillAt c ops ord tr st0 p = none) → (clsOf c.P o = .w → p = k → hN tr Hm (k + 1) = hN tr Hm k) → ∀ {ρ' : Map} {w' : World} {u : Value}, VR ρ' t.v u → Rel ρ' (Hv c ops ord s0 st0 tr Hm D k) w' →
      Step ρ (Hv c ops ord s0 st0 tr Hm D k) w ρ' (Hv c ops ord s0 st0 tr Hm D k) w' → K (a.put o.dst u) w' := by
    intro hfa hst ρ' w' u hv hrel hstep
    have hfill : fillAt c ops ord tr st0 p = none := by
      cases ha : isA o with
      | true => exact hfa ha
      | false => exact fillAt_not h1 h2 ha
    have hHv : Hv c ops ord s0 st0 tr Hm (fun q => D q ∨ q = p) k = Hv c ops ord s0 st0 tr Hm D k := by
      unfold Hv
      rw [hR.pend_more (.inl hfill)]
    have hvals := hR.vals_put (hI.vals.mono hstep.le) h1 h2 h3 hv
    have hfree := free' (ρ' := ρ') fun b L hb => by
      have := hstep.fresh b L hb
      unfold Hv at this
      rwa [ov_len] at this
    by_cases hw : clsOf c.P o = .w ∧ isA o = false
    · have hp := hpk' hw.1 hw.2
      subst hp
      have hHk := hR.pass_still (D := fun q => D q ∨ q = p) (hst hw.1 rfl) hfill
      refine fin (p + 1) ρ' w' _ { le := hlt, wa := ?_, nw := ?_, dc := dc', dm := dm', rel := by rw [hHk, hHv]; exact hrel, step := by rw [hHk, hHv]; exact hI.step.trans hstep, len := by rw [hst hw.1 rfl]; exact hI.len, free := hfree, sz := sz' u, df := df' u, vals := hvals }
      · intro q j y q1 q2 q3 q4
        by_cases hq : q = p
        · exact .inr hq
        · exact .inl (hI.wa q j y (by omega) q2 q3 q4)
      · intro q j y q1 q2 q3 q4 q5
        rintro (q6 | q6)
        · exact hI.nw q j y (by omega) q2 q3 q4 q5 q6
        · omega
    · refine fin k ρ' w' _ { le := hI.le, wa := fun q j y q1 q2 q3 q4 => .inl (hI.wa q j y q1 q2 q3 q4), nw := ?_, dc := dc', dm := dm', rel := by rw [hHv]; exact hrel, step := by rw [hHv]; exact hI.step.trans hstep, len := hI.len, free := hfree, sz := sz' u, df := df' u, vals := hvals }
      intro q j y q1 q2 q3 q4 q5
      rintro (q6 | rfl)
      · exact hI.nw q j y q1 q2 q3 q4 q5 q6
      · rw [h1] at q2; cases q2
        rw [h2] at q3; cases q3
        exact hw ⟨q4, q5⟩
  unfold wpOpIn
  simp only [h2]
  rcases hd with ⟨g, hx, hadr⟩ | ⟨g, hv, hH, _⟩
  · have hwant := guard_wanted hsr (pickS_guard g)
    rw [if_pos hwant]
    cases ha : isA o with
    | true =>
      -- a new variable
      have hw := isA_w (P := c.P) ha
      obtain ⟨e1, e2, e3, h4 | h4⟩ := hR.at_A h1 h2 h3 ha
      · obtain ⟨cs, mk, _, m1, m2, m3, m4⟩ := h4
        rw [newX_congr (pickS_ev (ops := ops))] at m1
        refine wp_new hF ha (new_sound (ρ := ρ) (w := w) m1 hsr) fun u C ty w' x1 x2 x3 x4 x5 x6 x7 => ?_
        have hsl : slotN ops ord s0 p < (Hv c ops ord s0 st0 tr Hm D k).length := by unfold Hv; rw [ov_len]; have := hI.len; omega
        have hfr : ρ (slotN ops ord s0 p) = none := hI.free p i o h1 h2 ha hD
        have hk : ∀ i, i < w.heap.size → w'.heap[i]? = w.heap[i]? := fun i hi => by rw [x1]; exact alloc_same w _ i hi
        have hz : w.heap.size ≤ w'.heap.size := by rw [x1]; simp
        have hle := put_free hfr ⟨w.heap.size, 0, C.size, .rw⟩
        have hblk : BlkR (ρ.put (slotN ops ord s0 p) ⟨w.heap.size, 0, C.size, .rw⟩) w' (slotN ops ord s0 p) (.cells true cs) := by
          refine ⟨_, C, ty, (0, 0), Map.put_at _ _ _, rfl, ?_, fun i v hi => ?_, fun _ => ⟨rfl, by simpa using x6, fun _ _ => by omega⟩⟩
          · rw [x1]; exact alloc_new w _
          · obtain ⟨u', hu', hv'⟩ := x5 i v hi
            exact ⟨u', by simpa using hu', hv'.mono hle⟩
        have hHv : Hv c ops ord s0 st0 tr Hm (fun q => D q ∨ q = p) k = (Hv c ops ord s0 st0 tr Hm D k).set (slotN ops ord s0 p) (.cells true cs) := by
          apply List.ext_getElem?
          intro b
          by_cases hb : b = slotN ops ord s0 p
          · subst hb
            rw [List.getElem?_set_self hsl]
            unfold Hv
            refine ov_some (hR.pend_iff.2 ⟨p, hpk hw, .inr rfl, m3, rfl⟩) ?_
            unfold Hv at hsl
            rwa [ov_len] at hsl
          · rw [List.getElem?_set_ne (Ne.symm hb)]
            unfold Hv
            refine ov_congr rfl (hR.pend_eq fun q cs' q1 q2 => ?_)
            constructor
            · rintro ⟨q3, q4 | rfl⟩
              · exact ⟨q3, q4⟩
              · exact absurd q2.symm hb
            · rintro ⟨q3, q4⟩; exact ⟨q3, .inl q4⟩
        have hv : VR (ρ.put (slotN ops ord s0 p) ⟨w.heap.size, 0, C.size, .rw⟩) t.v u := by
          rw [m2]; exact x7 _ _ (Map.put_at _ _ _)
        have hs0p : H0.length ≤ slotN ops ord s0 p := Nat.le_trans hs0 (hR.slot_le (k := 0) (k' := p) (Nat.zero_le _) (by omega))
        refine fin k _ w' _ { le := hI.le, wa := fun q j y q1 q2 q3 q4 => .inl (hI.wa q j y q1 q2 q3 q4), nw := ?_, dc := dc', dm := dm', rel := ?_, step := ?_, len := hI.len, free := ?_, sz := sz' u, df := df' u, vals := hR.vals_put (hI.vals.mono hle) h1 h2 h3 hv }
        · intro q j y q1 q2 q3 q4 q5
          rintro (q6 | rfl)
          · exact hI.nw q j y q1 q2 q3 q4 q5 q6
          · rw [h1] at q2; cases q2
            rw [h2] at q3; cases q3
            rw [ha] at q5; cases q5
        · rw [hHv]; exact hI.rel.newAt hsl hfr hk (Nat.le_refl _) hblk
        · rw [hHv]; exact hI.step.newAt hfr hk hz (Nat.le_refl _) hs0p x2 x3 x4
        · intro q j y q1 q2 q3 q4
          have hne : slotN ops ord s0 q ≠ slotN ops ord s0 p := by
            intro heq
            obtain ⟨_, _, t', _, _, ht', _⟩ := hR.does q (List.getElem?_eq_some_iff.1 q1).1
            have b1 := (hR.at_A q1 q2 ht' q3).1
            have hql := (List.getElem?_eq_some_iff.1 q1).1
            have hqp : q ≠ p := fun h => q4 (.inr h)
            rcases Nat.lt_or_ge q p with h | h
            · have := hR.slot_le (k := q + 1) (k' := p) (by omega) (by omega); omega
            · have := hR.slot_le (k := p + 1) (k' := q) (by omega) (by omega); omega
          show (if slotN ops ord s0 q = slotN ops ord s0 p then _ else _) = none
          rw [if_neg hne]
          exact hI.free q j y q1 q2 q3 fun hd => q4 (.inl hd)
      · have hw' := guard_wanted hsr (pickS_guard h4.1)
        rw [hwant] at hw'; cases hw'
    | false =>
      unfold opA at hx
      rw [ha] at hx
      simp only [Bool.false_eq_true, if_false] at hx
      rw [opX_congr (pickS_ev (ops := ops))] at hx
      cases hcl : clsOf c.P o with
      | p =>
        obtain ⟨g', hg'⟩ := opX_pure (call := call) (st := pickS ops o (stN ops ord tr st0 p)) hcl
        rw [hg'] at hx
        obtain ⟨v, hv, hKv⟩ := Option.bind_eq_some_iff.1 hx
        simp only [ret2, Option.some.injEq, Prod.mk.injEq] at hKv
        have hx2 : opX c call o (pickS ops o (stN ops ord tr st0 p)) (Hv c ops ord s0 st0 tr Hm D k) ret2 = some (t.v, Hv c ops ord s0 st0 tr Hm D k) := by
          rw [hg', hv]
          simp [ret2, hKv.1]
        refine wp_op hF hC hx2 hI.rel hsr fun v' u ρ' H' w' y1 y2 y3 y4 => ?_
        simp only [ret2, Option.some.injEq, Prod.mk.injEq] at y4
        obtain ⟨rfl, rfl⟩ := y4
        exact still (fun h => by rw [ha] at h; cases h) (fun h => by rw [hcl] at h; cases h) y1 y2 y3
      | l =>
        obtain ⟨g', hg', hgr⟩ := opX_read (call := call) (st := pickS ops o (stN ops ord tr st0 p)) hcl
        rw [hg'] at hx
        obtain ⟨v, hv, hKv⟩ := Option.bind_eq_some_iff.1 hx
        simp only [ret2, Option.some.injEq, Prod.mk.injEq] at hKv
        obtain ⟨rfl, hHH⟩ := hKv
        have hev : addrOf o (pickS ops o (stN ops ord tr st0 p)) = addrOf o (stN ops ord tr st0 p) := by
          unfold addrOf
          rcases clsOf_l hcl with ⟨t, x, hop⟩ | ⟨s, t, x, e, hop, _, _⟩
          · simp only [hop]
            have e1 := pickS_ev (ops := ops) (o := o) (st := stN ops ord tr st0 p) x (by rw [hop]; simp [Op.operands])
            simp only [e1]
          · simp only [hop]
            have e1 := pickS_ev (ops := ops) (o := o) (st := stN ops ord tr st0 p) x (by rw [hop]; simp [Op.operands])
            simp only [e1]
        have hg2 : g' (Hv c ops ord s0 st0 tr Hm D k) = some t.v := by
          obtain ⟨q1, q2⟩ := hgr _ _ hv
          cases had : addrOf o (pickS ops o (stN ops ord tr st0 p)) with
          | none => exact q1 had _
          | some ra =>
            obtain ⟨r, ad⟩ := ra
            rw [q2 r ad had]
            rw [q2 r ad had] at hv
            exact hR.load_at hI h1 h2 h3 hcl hD hanc (by rw [hadr, ← hev]; exact had) hv
        have hx2 : opX c call o (pickS ops o (stN ops ord tr st0 p)) (Hv c ops ord s0 st0 tr Hm D k) ret2 = some (t.v, Hv c ops ord s0 st0 tr Hm D k) := by
          rw [hg', hg2]
          rfl
        refine wp_op hF hC hx2 hI.rel hsr fun v' u ρ' H' w' y1 y2 y3 y4 => ?_
        simp only [ret2, Option.some.injEq, Prod.mk.injEq] at y4
        obtain ⟨rfl, rfl⟩ := y4
        exact still (fun h => by rw [ha] at h; cases h) (fun h => by rw [hcl] at h; cases h) y1 y2 y3
      | w =>
        have hp := hpk' hcl ha
        subst hp
        have hdead : DeadAt (hN tr Hm p) (pend c ops ord s0 st0 tr D p) := by
          intro b cs hb
          have := hR.pend_range hb
          exact hR.dead p i o h1 h2 ha b this.1 this.2
        have hfill : fillAt c ops ord tr st0 p = none := fillAt_not h1 h2 ha
        refine wp_op hF hC hx (hI.rel.kill hdead) hsr fun v' u ρ' H' w' y1 y2 y3 y4 => ?_
        simp only [ret2, Option.some.injEq, Prod.mk.injEq] at y4
        obtain ⟨rfl, rfl⟩ := y4
        have hHv : Hv c ops ord s0 st0 tr Hm (fun q => D q ∨ q = p) (p + 1) = ov (hN tr Hm (p + 1)) (pend c ops ord s0 st0 tr D p) := by
          unfold Hv
          rw [hR.pend_more (.inr (by omega))]
          congr 1
          funext b
          refine hR.pend_eq fun q cs q1 q2 => ?_
          constructor
          · rintro ⟨q3, q4⟩; exact ⟨by omega, q4⟩
          · rintro ⟨q3, q4⟩
            refine ⟨?_, q4⟩
            rcases Nat.lt_or_ge p q with h | h
            · exact h
            · have : q = p := by omega
              subst this
              exact absurd q4 hD
        refine fin (p + 1) ρ' w' _ { le := hlt, wa := ?_, nw := ?_, dc := dc', dm := dm', rel := ?_, step := ?_, len := Nat.le_trans hI.len y3.len, free := free' y3.fresh, sz := sz' u, df := df' u, vals := hR.vals_put (hI.vals.mono y3.le) h1 h2 h3 y1 }
        · intro q j y q1 q2 q3 q4
          by_cases hq : q = p
          · exact .inr hq
          · exact .inl (hI.wa q j y (by omega) q2 q3 q4)
        · intro q j y q1 q2 q3 q4 q5
          rintro (q6 | q6)
          · exact hI.nw q j y (by omega) q2 q3 q4 q5 q6
          · omega
        · rw [hHv]; exact hI.rel.refill hdead y2 y3
        · rw [hHv]; exact Step.refill hI.rel hdead hI.step y3
  · have hwant := guard_wanted hsr (pickS_guard g)
    rw [hwant]
    simp only [Bool.false_eq_true, if_false]
    refine ⟨fun f _ => hF.fn f, ?_⟩
    refine still (fun ha => ?_) (fun _ hp => by subst hp; exact hH) (by rw [hv]; exact .tup [] [] .nil) hI.rel (Step.refl _ _ _)
    obtain ⟨e1, e2, e3, h4 | h4⟩ := hR.at_A h1 h2 h3 ha
    · obtain ⟨cs, mk, g', _⟩ := h4
      have hw' := guard_wanted hsr (pickS_guard g')
      rw [hwant] at hw'; cases hw'
    · exact h4.2.2.1

end
end Go.Vm
