/-
  Regions whose order is drawn: the state behind any part of the operations.
-/
import Derived.Test.YtfhjdnekidhjnaaVm20
set_option linter.unusedVariables false
set_option linter.unusedSimpArgs false
namespace Go.Vm

section
variable {c : Cfg} {call : CallF} {ops : Array Oper} {ord : List Nat} {s0 e : Nat} {st0 : St} {tr : List Tr} {Hm : Heap}

/-- What has come before something has its place before it. -/
theorem Run.anc (hR : Run c call ops ord s0 e st0 tr Hm) {i j : Nat} (h : Anc ops i j) : ∀ q : Nat, ord[q]? = some j → ∃ p : Nat, p < q ∧ ord[p]? = some i := by
  induction h with
  | edge ho he hb => intro q hq; exact hR.edge q _ _ _ hq ho he hb
  | trans _ _ ih1 ih2 =>
    intro q hq
    obtain ⟨p, h1, h2⟩ := ih2 q hq
    obtain ⟨p', h3, h4⟩ := ih1 p h2
    exact ⟨p', by omega, h4⟩

theorem Run.oper (hR : Run c call ops ord s0 e st0 tr Hm) {p i : Nat} (h : ord[p]? = some i) : ∃ o, ops[i]? = some o := by
  obtain ⟨i', o, t, h1, h2, _⟩ := hR.does p (List.getElem?_eq_some_iff.1 h).1
  rw [h] at h1; cases h1
  exact ⟨o, h2⟩

theorem Run.inj (hR : Run c call ops ord s0 e st0 tr Hm) {p q i : Nat} (h : ord[p]? = some i) (h' : ord[q]? = some i) : p = q := by
  obtain ⟨o, ho⟩ := hR.oper h
  by_cases hpq : p = q
  · exact hpq
  · exact absurd rfl (hR.pair p q i i o o hpq h h' ho ho).1

theorem Run.anc_lt (hR : Run c call ops ord s0 e st0 tr Hm) {i j p q : Nat} (h : Anc ops i j) (hp : ord[p]? = some i) (hq : ord[q]? = some j) : p < q := by
  obtain ⟨p', h1, h2⟩ := hR.anc h q hq
  rw [hR.inj hp h2]
  exact h1

theorem Run.slot_le (hR : Run c call ops ord s0 e st0 tr Hm) : ∀ {k k' : Nat}, k ≤ k' → k' ≤ ord.length → slotN ops ord s0 k ≤ slotN ops ord s0 k' := by
  intro k k' h
  induction h with
  | refl => intro _; exact Nat.le_refl _
  | step h ih =>
    intro hk
    rename_i m
    have := ih (by omega)
    obtain ⟨i, o, t, _, _, _, _, _, h5⟩ := hR.does m (by omega)
    rw [h5]
    unfold slot'
    split <;> omega

/-- What the operation at a place puts into the place kept for it. -/
def fillAt (c : Cfg) (ops : Array Oper) (ord : List Nat) (tr : List Tr) (st0 : St) (q : Nat) : Option (List V) :=
  match opAt ops ord q, tr[q]? with
  | some o, some t => if isA o then (match t.v with
      | .tup _ => none
      | _ => (newX c o (stN ops ord tr st0 q)).map (·.1)) else none
  | _, _ => none

theorem opAt_of {p i : Nat} {o : Oper} (h : ord[p]? = some i) (ho : ops[i]? = some o) : opAt ops ord p = some o := by
  simp [opAt, h, ho]

theorem fillAt_not {p i : Nat} {o : Oper} (h : ord[p]? = some i) (ho : ops[i]? = some o) (ha : isA o = false) : fillAt c ops ord tr st0 p = none := by
  unfold fillAt
  rw [opAt_of h ho]
  split
  · rename_i h1 h2
    cases h1
    rw [ha]
    rfl
  · rfl

theorem fillAt_some {p : Nat} {cs : List V} (h : fillAt c ops ord tr st0 p = some cs) : ∃ (i : Nat) (o : Oper) (t : Tr), ord[p]? = some i ∧ ops[i]? = some o ∧ tr[p]? = some t ∧ isA o = true := by
  unfold fillAt at h
  split at h
  · rename_i o t h1 h2
    unfold opAt at h1
    obtain ⟨i, k1, k2⟩ := Option.bind_eq_some_iff.1 h1
    refine ⟨i, o, t, k1, k2, h2, ?_⟩
    cases ha : isA o with
    | true => rfl
    | false => rw [ha] at h; cases h
  · cases h

/-- A place for a new variable: what happens there in the run. -/
theorem Run.at_A (hR : Run c call ops ord s0 e st0 tr Hm) {p i : Nat} {o : Oper} {t : Tr} (h : ord[p]? = some i) (ho : ops[i]? = some o) (ht : tr[p]? = some t) (ha : isA o = true) :
    slotN ops ord s0 (p + 1) = slotN ops ord s0 p + 1 ∧ slotN ops ord s0 p < e ∧ t.s = slotN ops ord s0 p ∧
    ((∃ cs mk, GuardIs ops (stN ops ord tr st0 p) o true ∧ newX c o (stN ops ord tr st0 p) = some (cs, mk) ∧ t.v = mk (slotN ops ord s0 p) ∧ fillAt c ops ord tr st0 p = some cs ∧
        hN tr Hm (p + 1) = (hN tr Hm p).set (slotN ops ord s0 p) (.cells true cs)) ∨
      (GuardIs ops (stN ops ord tr st0 p) o false ∧ t.v = .tup [] ∧ fillAt c ops ord tr st0 p = none ∧ hN tr Hm (p + 1) = hN tr Hm p)) := by
  have hlt := (List.getElem?_eq_some_iff.1 h).1
  obtain ⟨i', o', t', h1, h2, h3, ⟨_, hs, hd⟩, h5, h6⟩ := hR.does p hlt
  rw [h] at h1; cases h1
  rw [ho] at h2; cases h2
  rw [ht] at h3; cases h3
  have h7 : slotN ops ord s0 (p + 1) = slotN ops ord s0 p + 1 := by rw [h6]; unfold slot'; rw [if_pos ha]
  have h8 : slotN ops ord s0 p < e := by
    have := hR.slot_le (k := p + 1) (k' := ord.length) (by omega) (Nat.le_refl _)
    rw [hR.last] at this
    omega
  refine ⟨h7, h8, hs, ?_⟩
  rcases hd with ⟨g, hx, _⟩ | ⟨g, hv, hH, _⟩
  · refine .inl ?_
    unfold opA at hx
    rw [if_pos ha] at hx
    split at hx
    · rename_i cs mk hn
      simp only [ret2, Option.some.injEq, Prod.mk.injEq] at hx
      refine ⟨cs, mk, g, hn, hx.1.symm, ?_, hx.2.symm⟩
      unfold fillAt
      rw [opAt_of h ho, ht]
      simp only [ha, if_true]
      have := new_tup hn (slotN ops ord s0 p)
      rw [← hx.1]
      split
      · rename_i vs hvs; exact absurd hvs (this vs)
      · rw [hn]; rfl
    · cases hx
  · refine .inr ⟨g, hv, ?_, hH⟩
    unfold fillAt
    rw [opAt_of h ho, ht]
    simp only [ha, if_true, hv]

/-- Elsewhere, unless it may change the heap, nothing does. -/
theorem Run.at_still (hR : Run c call ops ord s0 e st0 tr Hm) {p i : Nat} {o : Oper} (h : ord[p]? = some i) (ho : ops[i]? = some o) (hc : clsOf c.P o ≠ .w) : hN tr Hm (p + 1) = hN tr Hm p := by
  have hlt := (List.getElem?_eq_some_iff.1 h).1
  obtain ⟨i', o', t', h1, h2, h3, ⟨_, hs, hd⟩, h5, h6⟩ := hR.does p hlt
  rw [h] at h1; cases h1
  rw [ho] at h2; cases h2
  rcases hd with ⟨g, hx, _⟩ | ⟨g, hv, hH, _⟩
  · have ha : isA o = false := by
      cases ha : isA o with
      | false => rfl
      | true =>
        exfalso
        apply hc
        unfold isA at ha
        unfold clsOf
        split at ha <;> simp_all
    unfold opA at hx
    rw [ha] at hx
    simp only [Bool.false_eq_true, if_false] at hx
    cases hcl : clsOf c.P o with
    | p =>
      obtain ⟨g', hg'⟩ := opX_pure (call := call) (st := stN ops ord tr st0 p) hcl
      rw [hg'] at hx
      obtain ⟨v, hv, hK⟩ := Option.bind_eq_some_iff.1 hx
      simp only [ret2, Option.some.injEq, Prod.mk.injEq] at hK
      exact hK.2.symm
    | l =>
      obtain ⟨g', hg', _⟩ := opX_read (call := call) (st := stN ops ord tr st0 p) hcl
      rw [hg'] at hx
      obtain ⟨v, hv, hK⟩ := Option.bind_eq_some_iff.1 hx
      simp only [ret2, Option.some.injEq, Prod.mk.injEq] at hK
      exact hK.2.symm
    | w => exact absurd hcl hc
  · exact hH

/-- The kept places that are filled ahead of place k. -/
noncomputable def pend (c : Cfg) (ops : Array Oper) (ord : List Nat) (s0 : Nat) (st0 : St) (tr : List Tr) (D : Nat → Prop) (k b : Nat) : Option (List V) :=
  open Classical in if h : ∃ cs q, k ≤ q ∧ D q ∧ fillAt c ops ord tr st0 q = some cs ∧ slotN ops ord s0 q = b then some h.choose else none

theorem Run.slot_inj (hR : Run c call ops ord s0 e st0 tr Hm) {p q : Nat} {cs cs' : List V} (h : fillAt c ops ord tr st0 p = some cs) (h' : fillAt c ops ord tr st0 q = some cs') (he : slotN ops ord s0 p = slotN ops ord s0 q) : p = q := by
  obtain ⟨i, o, t, h1, h2, h3, h4⟩ := fillAt_some h
  obtain ⟨i', o', t', h1', h2', h3', h4'⟩ := fillAt_some h'
  have a1 := (hR.at_A h1 h2 h3 h4).1
  have a2 := (hR.at_A h1' h2' h3' h4').1
  have l1 := (List.getElem?_eq_some_iff.1 h1).1
  have l2 := (List.getElem?_eq_some_iff.1 h1').1
  rcases Nat.lt_trichotomy p q with hl | hl | hl
  · have := hR.slot_le (k := p + 1) (k' := q) (by omega) (by omega); omega
  · exact hl
  · have := hR.slot_le (k := q + 1) (k' := p) (by omega) (by omega); omega

theorem Run.pend_iff (hR : Run c call ops ord s0 e st0 tr Hm) {D : Nat → Prop} {k b : Nat} {cs : List V} :
    pend c ops ord s0 st0 tr D k b = some cs ↔ ∃ q, k ≤ q ∧ D q ∧ fillAt c ops ord tr st0 q = some cs ∧ slotN ops ord s0 q = b := by
  unfold pend
  constructor
  · intro h
    split at h
    · rename_i hh
      cases h
      exact hh.choose_spec
    · cases h
  · rintro ⟨q, h1, h2, h3, h4⟩
    have hh : ∃ cs q, k ≤ q ∧ D q ∧ fillAt c ops ord tr st0 q = some cs ∧ slotN ops ord s0 q = b := ⟨cs, q, h1, h2, h3, h4⟩
    rw [dif_pos hh]
    obtain ⟨q', k1, k2, k3, k4⟩ := hh.choose_spec
    have := hR.slot_inj h3 k3 (h4.trans k4.symm)
    subst this
    rw [h3] at k3
    exact k3.symm

theorem Run.pend_range (hR : Run c call ops ord s0 e st0 tr Hm) {D : Nat → Prop} {k b : Nat} {cs : List V} (h : pend c ops ord s0 st0 tr D k b = some cs) : slotN ops ord s0 k ≤ b ∧ b < e := by
  obtain ⟨q, h1, h2, h3, h4⟩ := hR.pend_iff.1 h
  obtain ⟨i, o, t, k1, k2, k3, k4⟩ := fillAt_some h3
  have := (hR.at_A k1 k2 k3 k4).2.1
  have l1 := (List.getElem?_eq_some_iff.1 k1).1
  have := hR.slot_le (k := k) (k' := q) h1 (by omega)
  omega

theorem Run.pend_eq (hR : Run c call ops ord s0 e st0 tr Hm) {D D' : Nat → Prop} {k k' b : Nat}
    (h : ∀ q cs, fillAt c ops ord tr st0 q = some cs → slotN ops ord s0 q = b → ((k ≤ q ∧ D q) ↔ (k' ≤ q ∧ D' q))) : pend c ops ord s0 st0 tr D k b = pend c ops ord s0 st0 tr D' k' b := by
  apply Option.ext
  intro cs
  rw [hR.pend_iff, hR.pend_iff]
  constructor
  · rintro ⟨q, h1, h2, h3, h4⟩
    obtain ⟨k1, k2⟩ := (h q cs h3 h4).1 ⟨h1, h2⟩
    exact ⟨q, k1, k2, h3, h4⟩
  · rintro ⟨q, h1, h2, h3, h4⟩
    obtain ⟨k1, k2⟩ := (h q cs h3 h4).2 ⟨h1, h2⟩
    exact ⟨q, k1, k2, h3, h4⟩

/-- The heap behind the operations of D: those before place k, and the new variables among the others. -/
noncomputable def Hv (c : Cfg) (ops : Array Oper) (ord : List Nat) (s0 : Nat) (st0 : St) (tr : List Tr) (Hm : Heap) (D : Nat → Prop) (k : Nat) : Heap :=
  ov (hN tr Hm k) (pend c ops ord s0 st0 tr D k)

theorem ov_congr {H H' : Heap} {g g' : Nat → Option (List V)} {b : Nat} (h : H[b]? = H'[b]?) (hg : g b = g' b) : (ov H g)[b]? = (ov H' g')[b]? := by
  unfold ov
  rw [List.getElem?_mapIdx, List.getElem?_mapIdx, h, hg]

/-- A place that changes no heap can be passed. -/
theorem Run.pass_still (hR : Run c call ops ord s0 e st0 tr Hm) {D : Nat → Prop} {k : Nat} (hH : hN tr Hm (k + 1) = hN tr Hm k) (hf : fillAt c ops ord tr st0 k = none) :
    Hv c ops ord s0 st0 tr Hm D (k + 1) = Hv c ops ord s0 st0 tr Hm D k := by
  unfold Hv
  rw [hH]
  congr 1
  funext b
  refine hR.pend_eq fun q cs h1 h2 => ?_
  constructor
  · rintro ⟨h3, h4⟩; exact ⟨by omega, h4⟩
  · rintro ⟨h3, h4⟩
    refine ⟨?_, h4⟩
    rcases Nat.lt_or_ge k q with h | h
    · exact h
    · have : q = k := by omega
      subst this
      rw [hf] at h1; cases h1

/-- The place of a new variable that has been made can be passed. -/
theorem Run.pass_new (hR : Run c call ops ord s0 e st0 tr Hm) {D : Nat → Prop} {k i : Nat} {o : Oper} {t : Tr} (h : ord[k]? = some i) (ho : ops[i]? = some o) (ht : tr[k]? = some t) (ha : isA o = true) (hD : D k) :
    Hv c ops ord s0 st0 tr Hm D (k + 1) = Hv c ops ord s0 st0 tr Hm D k := by
  obtain ⟨e1, e2, e3, h4 | h4⟩ := hR.at_A h ho ht ha
  · obtain ⟨cs, mk, g, k1, k2, k3, k4⟩ := h4
    unfold Hv
    apply List.ext_getElem?
    intro b
    by_cases hb : b = slotN ops ord s0 k
    · subst hb
      have p1 : pend c ops ord s0 st0 tr D k (slotN ops ord s0 k) = some cs := hR.pend_iff.2 ⟨k, Nat.le_refl _, hD, k3, rfl⟩
      have p2 : pend c ops ord s0 st0 tr D (k + 1) (slotN ops ord s0 k) = none := by
        cases hp : pend c ops ord s0 st0 tr D (k + 1) (slotN ops ord s0 k) with
        | none => rfl
        | some cs' =>
          have := (hR.pend_range hp).1
          omega
      rw [ov_none p2, k4]
      by_cases hlt : slotN ops ord s0 k < (hN tr Hm k).length
      · rw [ov_some p1 hlt, List.getElem?_set_self hlt]
      · rw [ov_out (by omega), List.getElem?_eq_none (by rw [List.length_set]; omega)]
    · refine ov_congr (by rw [k4, List.getElem?_set_ne (Ne.symm hb)]) (hR.pend_eq fun q cs' q1 q2 => ?_)
      constructor
      · rintro ⟨q3, q4⟩; exact ⟨by omega, q4⟩
      · rintro ⟨q3, q4⟩
        refine ⟨?_, q4⟩
        rcases Nat.lt_or_ge k q with h | h
        · exact h
        · have : q = k := by omega
          subst this
          exact absurd q2.symm hb
  · exact hR.pass_still h4.2.2.2 h4.2.2.1

/-! ### States -/

theorem Run.stN_get (hR : Run c call ops ord s0 e st0 tr Hm) {t : Nat} {v : V} : ∀ {p : Nat}, p ≤ ord.length → (stN ops ord tr st0 p)[t]? = some v →
    (∃ (q i : Nat) (o : Oper) (tq : Tr), q < p ∧ ord[q]? = some i ∧ ops[i]? = some o ∧ o.dst = some t ∧ tr[q]? = some tq ∧ v = tq.v) ∨ ((∀ (q i : Nat) (o : Oper), q < p → ord[q]? = some i → ops[i]? = some o → o.dst ≠ some t) ∧ st0[t]? = some v)
  | 0, _, h => .inr ⟨fun q i o hq => by omega, h⟩
  | p + 1, hp, h => by
    obtain ⟨i, o, tp, h1, h2, h3, _, h5, _⟩ := hR.does p (by omega)
    rw [h5] at h
    by_cases hd : o.dst = some t
    · left
      refine ⟨p, i, o, tp, by omega, h1, h2, hd, h3, ?_⟩
      rw [hd] at h
      unfold putT at h
      simp only at h
      rw [List.getElem?_set] at h
      simp only [if_true] at h
      split at h
      · cases h; rfl
      · cases h
    · have h' : (stN ops ord tr st0 p)[t]? = some v := by
        cases hd' : o.dst with
        | none => rw [hd'] at h; exact h
        | some d =>
          rw [hd'] at h
          unfold putT at h
          simp only at h
          rw [List.getElem?_set_ne (by rintro rfl; exact hd hd')] at h
          exact h
      rcases hR.stN_get (by omega) h' with ⟨q, i', o', tq, k1, k2⟩ | ⟨k1, k2⟩
      · exact .inl ⟨q, i', o', tq, by omega, k2⟩
      · refine .inr ⟨fun q i' o' hq k3 k4 => ?_, k2⟩
        by_cases hqp : q = p
        · subst hqp
          rw [h1] at k3; cases k3
          rw [h2] at k4; cases k4
          exact hd
        · exact k1 q i' o' (by omega) k3 k4

theorem Run.stN_len (hR : Run c call ops ord s0 e st0 tr Hm) : ∀ {p : Nat}, p ≤ ord.length → (stN ops ord tr st0 p).length = st0.length
  | 0, _ => rfl
  | p + 1, hp => by
    obtain ⟨i, o, tp, h1, h2, h3, _, h5, _⟩ := hR.does p (by omega)
    rw [h5, ← hR.stN_len (p := p) (by omega)]
    unfold putT
    split <;> simp

end
end Go.Vm
