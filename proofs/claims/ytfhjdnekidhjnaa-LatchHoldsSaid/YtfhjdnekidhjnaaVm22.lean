/-
  Regions whose order is drawn: one operation.
-/
import Derived.Test.YtfhjdnekidhjnaaVm21
set_option linter.unusedVariables false
set_option linter.unusedSimpArgs false
namespace Go.Vm

section
variable {c : Cfg} {call : CallF} {ops : Array Oper} {ord : List Nat} {s0 e : Nat} {st0 : St} {tr : List Tr} {Hm : Heap}
variable {ρ0 : Map} {H0 : Heap} {w0 : World} {ds : List Deferred}

/-- The values behind the operations of D. -/
def Vals (ops : Array Oper) (ord : List Nat) (st0 : St) (tr : List Tr) (D : Nat → Prop) (ρ : Map) (tmps : Array Value) : Prop :=
  ∀ (t : Nat) (u : Value), tmps[t]? = some u →
    (∀ (p i : Nat) (o : Oper) (tp : Tr), ord[p]? = some i → ops[i]? = some o → o.dst = some t → D p → tr[p]? = some tp → VR ρ tp.v u) ∧
    ((∀ (p i : Nat) (o : Oper), ord[p]? = some i → ops[i]? = some o → o.dst = some t → ¬ D p) → ∀ v, st0[t]? = some v → VR ρ v u)

structure Inv (c : Cfg) (ops : Array Oper) (ord : List Nat) (s0 e : Nat) (st0 : St) (tr : List Tr) (Hm : Heap) (ρ0 : Map) (H0 : Heap) (w0 : World) (ds : List Deferred) (k : Nat) (D : Nat → Prop) (ρ : Map) (w : World) (a : Act) : Prop where
  le : k ≤ ord.length
  wa : ∀ (p i : Nat) (o : Oper), p < k → ord[p]? = some i → ops[i]? = some o → clsOf c.P o = .w → D p
  nw : ∀ (p i : Nat) (o : Oper), k ≤ p → ord[p]? = some i → ops[i]? = some o → clsOf c.P o = .w → isA o = false → ¬ D p
  dc : ∀ p q i j : Nat, ord[p]? = some i → ord[q]? = some j → Anc ops i j → D q → D p
  dm : ∀ p, D p → p < ord.length
  rel : Rel ρ (Hv c ops ord s0 st0 tr Hm D k) w
  step : Step ρ0 H0 w0 ρ (Hv c ops ord s0 st0 tr Hm D k) w
  len : e ≤ (hN tr Hm k).length
  free : ∀ (p i : Nat) (o : Oper), ord[p]? = some i → ops[i]? = some o → isA o = true → ¬ D p → ρ (slotN ops ord s0 p) = none
  sz : a.tmps.size = st0.length
  df : a.defers = ds
  vals : Vals ops ord st0 tr D ρ a.tmps

def Stop (c : Cfg) (ops : Array Oper) (ord : List Nat) (k : Nat) (D : Nat → Prop) : Prop :=
  k = ord.length ∨ ∃ (i : Nat) (o : Oper), ord[k]? = some i ∧ ops[i]? = some o ∧ clsOf c.P o = .w ∧ ¬ D k

theorem isA_w {P : Program} {o : Oper} (h : isA o = true) : clsOf P o = .w := by
  unfold isA at h
  unfold clsOf
  split at h <;> simp_all

theorem Run.advance (hR : Run c call ops ord s0 e st0 tr Hm) {D : Nat → Prop} {ρ : Map} {w : World} {a : Act} : ∀ (n k : Nat), ord.length - k ≤ n → Inv c ops ord s0 e st0 tr Hm ρ0 H0 w0 ds k D ρ w a →
    ∃ k', Inv c ops ord s0 e st0 tr Hm ρ0 H0 w0 ds k' D ρ w a ∧ Stop c ops ord k' D
  | 0, k, hn, h => ⟨k, h, .inl (by have := h.le; omega)⟩
  | n + 1, k, hn, h => by
    by_cases hk : k = ord.length
    · exact ⟨k, h, .inl hk⟩
    · have hlt : k < ord.length := by have := h.le; omega
      obtain ⟨i, o, t, h1, h2, h3, _⟩ := hR.does k hlt
      have go : (clsOf c.P o = .w → D k) → Hv c ops ord s0 st0 tr Hm D (k + 1) = Hv c ops ord s0 st0 tr Hm D k → ∃ k', Inv c ops ord s0 e st0 tr Hm ρ0 H0 w0 ds k' D ρ w a ∧ Stop c ops ord k' D := by
        intro hw hH
        refine hR.advance n (k + 1) (by omega) { h with le := by omega, wa := ?_, nw := ?_, rel := by rw [hH]; exact h.rel, step := by rw [hH]; exact h.step, len := ?_ }
        · intro p i' o' hp hp1 hp2 hp3
          by_cases e1 : p = k
          · subst e1
            rw [h1] at hp1; cases hp1
            rw [h2] at hp2; cases hp2
            exact hw hp3
          · exact h.wa p i' o' (by omega) hp1 hp2 hp3
        · intro p i' o' hp
          exact h.nw p i' o' (by omega)
        · have := congrArg List.length hH
          unfold Hv at this
          rw [ov_len, ov_len] at this
          rw [this]
          exact h.len
      by_cases hc : clsOf c.P o = .w
      · cases ha : isA o with
        | false => exact ⟨k, h, .inr ⟨i, o, h1, h2, hc, h.nw k i o (Nat.le_refl _) h1 h2 hc ha⟩⟩
        | true =>
          by_cases hD : D k
          · exact go (fun _ => hD) (hR.pass_new h1 h2 h3 ha hD)
          · exact ⟨k, h, .inr ⟨i, o, h1, h2, hc, hD⟩⟩
      · have ha : isA o = false := by
          cases ha : isA o with
          | false => rfl
          | true => exact absurd (isA_w ha) hc
        exact go (fun hw => absurd hw hc) (hR.pass_still (hR.at_still h1 h2 hc) (fillAt_not h1 h2 ha))

theorem Vals.mono {D : Nat → Prop} {ρ ρ' : Map} {tmps : Array Value} (h : Vals ops ord st0 tr D ρ tmps) (hle : Map.le ρ ρ') : Vals ops ord st0 tr D ρ' tmps := fun t u hu =>
  ⟨fun p i o tp h1 h2 h3 h4 h5 => ((h t u hu).1 p i o tp h1 h2 h3 h4 h5).mono hle, fun hn v hv => ((h t u hu).2 hn v hv).mono hle⟩

theorem Run.vals_put (hR : Run c call ops ord s0 e st0 tr Hm) {D : Nat → Prop} {ρ : Map} {a : Act} (h : Vals ops ord st0 tr D ρ a.tmps) {p i : Nat} {o : Oper} {tp : Tr} (h1 : ord[p]? = some i) (h2 : ops[i]? = some o) (h3 : tr[p]? = some tp)
    {u : Value} (hv : VR ρ tp.v u) : Vals ops ord st0 tr (fun q => D q ∨ q = p) ρ (a.put o.dst u).tmps := by
  -- the one place that writes it
  have uniq : ∀ {q j : Nat} {y : Oper} {d : Nat}, ord[q]? = some j → ops[j]? = some y → y.dst = some d → o.dst = some d → q = p := by
    intro q j y d k1 k2 k3 k4
    by_cases hqp : q = p
    · exact hqp
    · exact absurd k3 ((hR.pair q p j i y o hqp k1 h1 k2 h2).2.1 d k4).1
  intro t x hx
  by_cases hd : o.dst = some t
  · rw [hd] at hx
    unfold Act.put at hx
    simp only at hx
    rw [Array.getElem?_setIfInBounds] at hx
    simp only [if_true] at hx
    split at hx
    · cases hx
      refine ⟨fun q j y tq k1 k2 k3 k4 k5 => ?_, fun hn => ?_⟩
      · have := uniq k1 k2 k3 hd
        subst this
        rw [h3] at k5; cases k5
        exact hv
      · exact absurd (Or.inr rfl) (hn p i o h1 h2 hd)
    · cases hx
  · have hx' : a.tmps[t]? = some x := by
      cases hd' : o.dst with
      | none => rw [hd'] at hx; exact hx
      | some d =>
        rw [hd'] at hx
        unfold Act.put at hx
        simp only at hx
        rw [Array.getElem?_setIfInBounds_ne (by rintro rfl; exact hd hd')] at hx
        exact hx
    refine ⟨fun q j y tq k1 k2 k3 k4 k5 => ?_, fun hn v hv => ?_⟩
    · rcases k4 with k4 | rfl
      · exact (h t x hx').1 q j y tq k1 k2 k3 k4 k5
      · rw [h1] at k1; cases k1
        rw [h2] at k2; cases k2
        exact absurd k3 hd
    · exact (h t x hx').2 (fun q j y k1 k2 k3 k4 => hn q j y k1 k2 k3 (Or.inl k4)) v hv

/-- What an operation looks at is what it looked at in the run. -/
def pickS (ops : Array Oper) (o : Oper) (st : St) : St := st.mapIdx fun t v => if (o.looksAt ops).contains t then v else .undef

theorem pickS_get {o : Oper} {st : St} {t : Nat} (h : t ∈ o.looksAt ops) : (pickS ops o st)[t]? = st[t]? := by
  unfold pickS
  rw [List.getElem?_mapIdx]
  have : (o.looksAt ops).contains t = true := by simpa using h
  rw [this]
  cases st[t]? <;> rfl

theorem pickS_ev {o : Oper} {st : St} : ∀ x ∈ o.op.operands.toList, ev st x = ev (pickS ops o st) x := by
  intro x hx
  cases x with
  | tmp t =>
    show st[t]? = (pickS ops o st)[t]?
    rw [pickS_get]
    exact List.mem_append_left _ (List.mem_filterMap.2 ⟨.tmp t, hx, rfl⟩)
  | _ => rfl

theorem pickS_guard {o : Oper} {st : St} {b : Bool} (h : GuardIs ops st o b) : GuardIs ops (pickS ops o st) o b := by
  unfold GuardIs at *
  split at h
  · exact h
  · rename_i j want hg
    obtain ⟨g, h1, h2⟩ := h
    refine ⟨g, h1, ?_⟩
    rw [pickS_get]
    · exact h2
    · unfold Oper.looksAt
      rw [hg]
      refine List.mem_append_right _ ?_
      simp only [h1, Option.toList_some, List.mem_singleton]

theorem guard_wanted {ρ : Map} {st : St} {tmps : Array Value} {o : Oper} (hs : SR ρ st tmps) {b : Bool} (h : GuardIs ops st o b) : Region.wanted o (yielded ops tmps) = b := by
  unfold GuardIs at h
  split at h
  · rename_i hg
    rw [h]
    simp [Region.wanted, hg]
  · rename_i j want hg
    obtain ⟨g, h1, h2⟩ := h
    cases b with
    | true =>
      simp only [if_true] at h2
      have := yielded_bool hs h1 h2
      simp [Region.wanted, hg, this]
    | false =>
      simp only [Bool.false_eq_true, if_false] at h2
      rcases h2 with h2 | h2
      · have := yielded_bool hs h1 h2
        simp [Region.wanted, hg, this]
      · have := yielded_none hs h1 h2
        simp [Region.wanted, hg, this]

theorem Run.looks (hR : Run c call ops ord s0 e st0 tr Hm) {k : Nat} {D : Nat → Prop} {ρ : Map} {w : World} {a : Act} (hI : Inv c ops ord s0 e st0 tr Hm ρ0 H0 w0 ds k D ρ w a) {p i : Nat} {o : Oper} (h1 : ord[p]? = some i) (h2 : ops[i]? = some o)
    (hD : ¬ D p) (hanc : ∀ q j : Nat, ord[q]? = some j → Anc ops j i → D q) : SR ρ (pickS ops o (stN ops ord tr st0 p)) a.tmps := by
  have hlt := (List.getElem?_eq_some_iff.1 h1).1
  refine VRL.of_get ?_ fun t v hv => ?_
  · unfold pickS
    rw [List.length_mapIdx, hR.stN_len (by omega), Array.length_toList, hI.sz]
  · have htl : t < a.tmps.size := by
      have := (List.getElem?_eq_some_iff.1 hv).1
      unfold pickS at this
      rw [List.length_mapIdx, hR.stN_len (by omega)] at this
      rw [hI.sz]; exact this
    refine ⟨a.tmps[t], by simp, ?_⟩
    have hu : a.tmps[t]? = some a.tmps[t] := Array.getElem?_eq_getElem htl
    by_cases hm : t ∈ o.looksAt ops
    · rw [pickS_get hm] at hv
      rcases hR.stN_get (by omega) hv with ⟨q, j, y, tq, q1, q2, q3, q4, q5, rfl⟩ | ⟨q1, q2⟩
      · have hne : p ≠ q := by omega
        rcases ((hR.pair p q i j o y hne h1 q2 h2 q3).2.1 t q4).2 hm with k1 | k1
        · have := hR.anc_lt k1 h1 q2; omega
        · exact (hI.vals t _ hu).1 q j y tq q2 q3 q4 (hanc q j q2 k1) q5
      · refine (hI.vals t _ hu).2 (fun q j y k1 k2 k3 k4 => ?_) v q2
        by_cases hpq : p = q
        · subst hpq; exact hD k4
        · rcases ((hR.pair p q i j o y hpq h1 k1 h2 k2).2.1 t k3).2 hm with k5 | k5
          · exact hD (hI.dc p q i j h1 k1 k5 k4)
          · have := hR.anc_lt k5 k1 h1
            exact q1 q j y this k1 k2 k3
    · unfold pickS at hv
      rw [List.getElem?_mapIdx] at hv
      have : (o.looksAt ops).contains t = false := by simpa using hm
      rw [this] at hv
      obtain ⟨x, hx, rfl⟩ := Option.map_eq_some_iff.1 hv
      exact .undef _

/-- Things that lie apart: a load behind or before what has not been ordered. -/
theorem chkLA_ne {ti tq : Tr} {ty : Rd} {ad : Nat × Nat} (h : chkLA ti tq = true) (hp : ti.p = some (ty, ad)) : ad.1 ≠ tq.s := by
  unfold chkLA at h
  rw [hp] at h
  simpa using h

theorem chkLW_spec {P : Program} {e : Nat} {ti tq : Tr} {Hn : Heap} {ty : Rd} {ad : Nat × Nat} (h : chkLW P e ti tq Hn = true) (hp : ti.p = some (ty, ad)) :
    (ad.1 < tq.s ∨ e ≤ ad.1) ∧ loadR P ty tq.H ad.1 ad.2 = some ti.v ∧ loadR P ty Hn ad.1 ad.2 = some ti.v := by
  unfold chkLW at h
  rw [hp] at h
  simp only [Bool.and_eq_true, Bool.or_eq_true, decide_eq_true_eq] at h
  exact ⟨h.1, eqLoad_spec h.2.1, eqLoad_spec h.2.2⟩

theorem Run.load_at (hR : Run c call ops ord s0 e st0 tr Hm) {k : Nat} {D : Nat → Prop} {ρ : Map} {w : World} {a : Act} (hI : Inv c ops ord s0 e st0 tr Hm ρ0 H0 w0 ds k D ρ w a)
    {p i : Nat} {o : Oper} {tp : Tr} (h1 : ord[p]? = some i) (h2 : ops[i]? = some o) (h3 : tr[p]? = some tp) (hcl : clsOf c.P o = .l) (hD : ¬ D p) (hanc : ∀ q j : Nat, ord[q]? = some j → Anc ops j i → D q)
    {ty : Rd} {ad : Nat × Nat} (hp : tp.p = some (ty, ad)) (hl : loadR c.P ty (hN tr Hm p) ad.1 ad.2 = some tp.v) :
    loadR c.P ty (Hv c ops ord s0 st0 tr Hm D k) ad.1 ad.2 = some tp.v := by
  have hlt := (List.getElem?_eq_some_iff.1 h1).1
  have hna : isA o = false := by
    cases ha : isA o with
    | false => rfl
    | true => have := isA_w (P := c.P) ha; rw [this] at hcl; cases hcl
  -- behind p, what is done is not ordered with p
  have later : ∀ (q j : Nat), ord[q]? = some j → p < q → D q → ¬ Anc ops i j ∧ ¬ Anc ops j i := by
    intro q j hq hpq hDq
    exact ⟨fun h => hD (hI.dc p q i j h1 hq h hDq), fun h => by have := hR.anc_lt h hq h1; omega⟩
  -- before p, what is not done
  have sooner : ∀ (q j : Nat), ord[q]? = some j → q < p → ¬ D q → ¬ Anc ops i j ∧ ¬ Anc ops j i := by
    intro q j hq hpq hDq
    exact ⟨fun h => by have := hR.anc_lt h h1 hq; omega, fun h => hDq (hanc q j hq h)⟩
  have slotNe : ∀ (q j : Nat) (y : Oper) (tq : Tr), ord[q]? = some j → ops[j]? = some y → tr[q]? = some tq → isA y = true → ¬ Anc ops i j ∧ ¬ Anc ops j i → ad.1 ≠ slotN ops ord s0 q := by
    intro q j y tq k1 k2 k3 k4 k5
    have := chkLA_ne ((hR.chk p q i j o y tp tq h1 k1 h2 k2 h3 k3 hcl (isA_w k4) k5.1 k5.2).1 k4) hp
    rw [(hR.at_A k1 k2 k3 k4).2.2.1] at this
    exact this
  -- from hN to Hv, where no pending place is the load's
  have toHv : ∀ (j' : Nat), (∀ q j, j' ≤ q → D q → ord[q]? = some j → q ≠ p → ¬ Anc ops i j ∧ ¬ Anc ops j i) → pend c ops ord s0 st0 tr D j' ad.1 = none := by
    intro j' hq
    cases hpd : pend c ops ord s0 st0 tr D j' ad.1 with
    | none => rfl
    | some cs =>
      exfalso
      obtain ⟨q, q1, q2, q3, q4⟩ := hR.pend_iff.1 hpd
      obtain ⟨j, y, tq, k1, k2, k3, k4⟩ := fillAt_some q3
      have hqp : q ≠ p := by
        rintro rfl
        rw [h1] at k1; cases k1
        rw [h2] at k2; cases k2
        rw [hna] at k4; cases k4
      exact slotNe q j y tq k1 k2 k3 k4 (hq q j q1 q2 k1 hqp) q4.symm
  rcases Nat.lt_or_ge p k with hpk | hpk
  · -- the load comes late
    have up : ∀ n, p + n ≤ k → loadR c.P ty (hN tr Hm (p + n)) ad.1 ad.2 = some tp.v := by
      intro n
      induction n with
      | zero => intro _; exact hl
      | succ n ih =>
        intro hn
        have ih := ih (by omega)
        obtain ⟨j, y, tq, k1, k2, k3, _⟩ := hR.does (p + n) (by have := hI.le; omega)
        by_cases hc : clsOf c.P y = .w
        · have hpn : p < p + n := by
            rcases Nat.eq_zero_or_pos n with h | h
            · subst h
              rw [Nat.add_zero] at k1
              rw [h1] at k1; cases k1
              rw [h2] at k2; cases k2
              rw [hcl] at hc; cases hc
            · omega
          have hDq := hI.wa (p + n) j y (by omega) k1 k2 hc
          have hun := later (p + n) j k1 hpn hDq
          cases ha : isA y with
          | true =>
            have hne := slotNe (p + n) j y tq k1 k2 k3 ha hun
            obtain ⟨e1, e2, e3, h4 | h4⟩ := hR.at_A k1 k2 k3 ha
            · obtain ⟨cs, mk, g, m1, m2, m3, m4⟩ := h4
              rw [← Nat.add_assoc, m4, loadR_congr (H' := hN tr Hm (p + n)) (List.getElem?_set_ne (Ne.symm hne))]
              exact ih
            · rw [← Nat.add_assoc, h4.2.2.2]; exact ih
          | false =>
            exact (chkLW_spec ((hR.chk p (p + n) i j o y tp tq h1 k1 h2 k2 h3 k3 hcl hc hun.1 hun.2).2 ha) hp).2.2
        · rw [← Nat.add_assoc, hR.at_still k1 k2 hc]; exact ih
    have hk := up (k - p) (by omega)
    rw [show p + (k - p) = k by omega] at hk
    have hpd := toHv k fun q j q1 q2 q3 q4 => later q j q3 (by omega) q2
    rw [← hk]
    exact loadR_congr (ov_none hpd)
  · -- the load comes early
    have down : ∀ n, n ≤ p - k → loadR c.P ty (Hv c ops ord s0 st0 tr Hm D (p - n)) ad.1 ad.2 = some tp.v := by
      intro n
      induction n with
      | zero =>
        intro _
        have hpd := toHv p fun q j q1 q2 q3 q4 => later q j q3 (by omega) q2
        rw [← hl]
        exact loadR_congr (ov_none hpd)
      | succ n ih =>
        intro hn
        have ih := ih (by omega)
        obtain ⟨m, hm⟩ : ∃ m, m = p - (n + 1) := ⟨_, rfl⟩
        have e0 : p - n = m + 1 := by omega
        rw [← hm]
        rw [e0] at ih
        obtain ⟨j, y, tq, k1, k2, k3, ⟨d1, d2, _⟩, _⟩ := hR.does m (by omega)
        by_cases hc : clsOf c.P y = .w
        · cases ha : isA y with
          | true =>
            by_cases hDm : D m
            · rw [← hR.pass_new k1 k2 k3 ha hDm]; exact ih
            · have hne := slotNe m j y tq k1 k2 k3 ha (sooner m j k1 (by omega) hDm)
              rw [← ih]
              refine loadR_congr (ov_congr ?_ (hR.pend_eq fun q cs q1 q2 => ?_))
              · obtain ⟨e1, e2, e3, h4 | h4⟩ := hR.at_A k1 k2 k3 ha
                · obtain ⟨cs, mk, g, m1, m2, m3, m4⟩ := h4
                  rw [m4, List.getElem?_set_ne (Ne.symm hne)]
                · rw [h4.2.2.2]
              · constructor
                · rintro ⟨q3, q4⟩
                  refine ⟨?_, q4⟩
                  rcases Nat.lt_or_ge m q with h | h
                  · exact h
                  · have : q = m := by omega
                    subst this
                    exact absurd q4 hDm
                · rintro ⟨q3, q4⟩; exact ⟨by omega, q4⟩
          | false =>
            have hDm : ¬ D m := hI.nw m j y (by omega) k1 k2 hc ha
            have hun := sooner m j k1 (by omega) hDm
            obtain ⟨x1, x2, x3⟩ := chkLW_spec ((hR.chk p m i j o y tp tq h1 k1 h2 k2 h3 k3 hcl hc hun.1 hun.2).2 ha) hp
            rw [d1] at x2
            rw [d2] at x1
            have hpd : pend c ops ord s0 st0 tr D m ad.1 = none := by
              cases hpd : pend c ops ord s0 st0 tr D m ad.1 with
              | none => rfl
              | some cs => have := hR.pend_range hpd; omega
            rw [← x2]
            exact loadR_congr (ov_none hpd)
        · have ha : isA y = false := by
            cases ha : isA y with
            | false => rfl
            | true => exact absurd (isA_w ha) hc
          rw [← hR.pass_still (hR.at_still k1 k2 hc) (fillAt_not k1 k2 ha)]; exact ih
    have := down (p - k) (Nat.le_refl _)
    rwa [show p - (p - k) = k by omega] at this

end
end Go.Vm
