/-
  Regions whose order is drawn: the theorem.
-/
import Derived.Test.YtfhjdnekidhjnaaVm23
set_option linter.unusedVariables false
set_option linter.unusedSimpArgs false
namespace Go.Vm

section
variable {c : Cfg} {call : CallF} {ops : Array Oper} {ord : List Nat} {s0 e : Nat} {st0 : St} {tr : List Tr} {Hm : Heap}
variable {ρ0 : Map} {H0 : Heap} {w0 : World} {ds : List Deferred} {F : Fence} {n : Nat}

def Dl (ord : List Nat) (listed : Array Bool) (p : Nat) : Prop := ∃ i : Nat, ord[p]? = some i ∧ listed.getD i false = true

theorem getD_lt {listed : Array Bool} {i : Nat} (h : listed.getD i true = false) : i < listed.size ∧ listed.getD i false = false := by
  rcases Nat.lt_or_ge i listed.size with h' | h'
  · refine ⟨h', ?_⟩
    simp [h'] at h ⊢
    exact h
  · simp [Array.getElem?_eq_none h'] at h

theorem Run.dl_more (hR : Run c call ops ord s0 e st0 tr Hm) {listed : Array Bool} {p i : Nat} (h : ord[p]? = some i) (hi : i < listed.size) : Dl ord (listed.setIfInBounds i true) = fun q => Dl ord listed q ∨ q = p := by
  funext q
  apply propext
  constructor
  · rintro ⟨j, h1, h2⟩
    by_cases hj : i = j
    · subst hj; exact .inr (hR.inj h1 h)
    · rw [getD_set_ne false hj] at h2
      exact .inl ⟨j, h1, h2⟩
  · rintro (⟨j, h1, h2⟩ | rfl)
    · exact ⟨j, h1, getD_set_true h2⟩
    · refine ⟨i, h, ?_⟩
      simp [hi]

theorem Run.all_any (hR : Run c call ops ord s0 e st0 tr Hm) (hF : FOK F) (hC : CallOK c call F) (hs0 : H0.length ≤ s0) {Q : Exit → Act → World → Prop}
    (hQ : ∀ ρ w a, Rel ρ (hN tr Hm ord.length) w → SR ρ (stN ops ord tr st0 ord.length) a.tmps → a.defers = ds → Step ρ0 H0 w0 ρ (hN tr Hm ord.length) w → Q .normal a w) :
    ∀ (fuel : Nat) (listed : Array Bool) (U : List Nat) (k : Nat) (ρ : Map) (w : World) (a : Act), listed.size = ops.size → (∀ i, i < ops.size → listed.getD i false = false → i ∈ U) → U.length ≤ fuel →
      Inv c ops ord s0 e st0 tr Hm ρ0 H0 w0 ds k (Dl ord listed) ρ w a → Stop c ops ord k (Dl ord listed) → wpAnyIn F n c.P .any ops Q fuel listed a w := by
  -- nothing can be taken: all is done
  have done : ∀ (listed : Array Bool) (k : Nat) (ρ : Map) (w : World) (a : Act), listed.size = ops.size → Region.ready .any ops listed = [] →
      Inv c ops ord s0 e st0 tr Hm ρ0 H0 w0 ds k (Dl ord listed) ρ w a → Stop c ops ord k (Dl ord listed) → Q .normal a w := by
    intro listed k ρ w a hsz hrd hI hS
    have all : ∀ p, p < ord.length → Dl ord listed p := by
      intro p
      induction p using Nat.strongRecOn with
      | _ p ih =>
        intro hp
        obtain ⟨i, o, t, h1, h2, _⟩ := hR.does p hp
        refine ⟨i, h1, ?_⟩
        cases hl : listed.getD i false with
        | true => rfl
        | false =>
          exfalso
          have hi : i < listed.size := by rw [hsz]; exact (Array.getElem?_eq_some_iff.1 h2).1
          have : i ∈ Region.ready .any ops listed := by
            refine mem_ready.2 ⟨?_, o, h2, fun ed he hb => ?_⟩
            · simp [hi] at hl ⊢; exact hl
            · obtain ⟨q, q1, q2⟩ := hR.edge p i o ed h1 h2 he hb
              obtain ⟨j, j1, j2⟩ := ih q q1 (by omega)
              rw [q2] at j1; cases j1
              exact j2
          rw [hrd] at this
          cases this
    have hk : k = ord.length := by
      rcases hS with hS | ⟨i, o, h1, _, _, h4⟩
      · exact hS
      · exact absurd (all k (List.getElem?_eq_some_iff.1 h1).1) h4
    subst hk
    have hHv : Hv c ops ord s0 st0 tr Hm (Dl ord listed) ord.length = hN tr Hm ord.length := by
      unfold Hv
      apply List.ext_getElem?
      intro b
      refine ov_none ?_
      cases hp : pend c ops ord s0 st0 tr (Dl ord listed) ord.length b with
      | none => rfl
      | some cs =>
        obtain ⟨q, q1, q2, _⟩ := hR.pend_iff.1 hp
        have := hI.dm q q2
        omega
    have hrel := hI.rel
    have hstep := hI.step
    rw [hHv] at hrel hstep
    refine hQ ρ w a hrel ?_ hI.df hstep
    refine VRL.of_get (by rw [hR.stN_len (Nat.le_refl _), Array.length_toList, hI.sz]) fun t v hv => ?_
    have htl : t < a.tmps.size := by
      have := (List.getElem?_eq_some_iff.1 hv).1
      rw [hR.stN_len (Nat.le_refl _)] at this
      rw [hI.sz]; exact this
    have hu : a.tmps[t]? = some a.tmps[t] := Array.getElem?_eq_getElem htl
    refine ⟨a.tmps[t], by simp, ?_⟩
    rcases hR.stN_get (Nat.le_refl _) hv with ⟨q, j, y, tq, q1, q2, q3, q4, q5, rfl⟩ | ⟨q1, q2⟩
    · exact (hI.vals t _ hu).1 q j y tq q2 q3 q4 (all q q1) q5
    · refine (hI.vals t _ hu).2 (fun q j y k1 k2 k3 k4 => ?_) v q2
      exact q1 q j y (hI.dm q k4) k1 k2 k3
  intro fuel
  induction fuel with
  | zero =>
    intro listed U k ρ w a hsz hU hlen hI hS
    have hU0 : U = [] := List.eq_nil_of_length_eq_zero (by omega)
    have hrd : Region.ready .any ops listed = [] := by
      cases hr : Region.ready .any ops listed with
      | nil => rfl
      | cons i is =>
        exfalso
        have hm : i ∈ Region.ready .any ops listed := by rw [hr]; exact List.mem_cons_self
        obtain ⟨h1, o, h2, _⟩ := mem_ready.1 hm
        have := hU i (Array.getElem?_eq_some_iff.1 h2).1 (getD_lt h1).2
        rw [hU0] at this
        cases this
    exact ⟨hrd, done listed k ρ w a hsz hrd hI hS⟩
  | succ fuel ih =>
    intro listed U k ρ w a hsz hU hlen hI hS
    refine ⟨fun hrd => done listed k ρ w a hsz hrd hI hS, fun i hi => ?_⟩
    obtain ⟨h1, o, h2, h3⟩ := mem_ready.1 hi
    obtain ⟨hil, hif⟩ := getD_lt h1
    obtain ⟨p, hp⟩ := hR.all i (by rw [← hsz]; exact hil)
    have hD : ¬ Dl ord listed p := by
      rintro ⟨j, j1, j2⟩
      rw [hp] at j1; cases j1
      rw [hif] at j2; cases j2
    have hanc : ∀ j : Nat, Anc ops j i → ∀ q : Nat, ord[q]? = some j → Dl ord listed q := by
      have key : ∀ {j i' : Nat}, Anc ops j i' → i' = i → ∀ q : Nat, ord[q]? = some j → Dl ord listed q := by
        intro j i' h
        induction h with
        | edge ho he hb =>
          rintro rfl q hq
          rw [h2] at ho; cases ho
          exact ⟨_, hq, h3 _ he hb⟩
        | trans ha _ ih1 ih2 =>
          rintro rfl q hq
          rename_i m _ hmi
          obtain ⟨qm, m1, m2⟩ := hR.anc hmi p hp
          exact hI.dc q qm _ _ hq m2 ha (ih2 rfl qm m2)
      exact fun j h => key h rfl
    refine hR.exec hF hC hs0 hI hS hp hD (fun q j hq ha => hanc j ha q hq) fun k' ρ' w' a' hI' hS' => ?_
    rw [← hR.dl_more hp hil] at hI' hS'
    refine ih (listed.setIfInBounds i true) (U.erase i) k' ρ' w' a' (by simp [hsz]) (fun j hj hjl => ?_) ?_ hI' hS'
    · by_cases hij : i = j
      · subst hij
        simp [hil] at hjl
      · rw [getD_set_ne false hij] at hjl
        exact (List.mem_erase_of_ne (Ne.symm hij)).2 (hU j hj hjl)
    · have hm := hU i (by rw [← hsz]; exact hil) hif
      rw [List.length_erase_of_mem hm]
      omega

end

/-- Whatever is drawn, it comes to the same. -/
theorem draws_ok {c : Cfg} (hm : c.P.follows .mixedOrders = true) (call : CallF) (F : Fence) (hF : FOK F) (hC : CallOK c call F) : DrawsOK c call F := by
  intro R r n id ops st H K ρ w a Q h hr hs hQ
  obtain ⟨ord, tr, st', Hm, hK, hR, e1, e2, e3⟩ := run_of h
  refine wpIn_region_any hm ?_
  have hr' : Rel ρ H { w with drawn := w.drawn + 1 } := hr.drew
  have hst' : Step ρ H w ρ H { w with drawn := w.drawn + 1 } := Step.drew ρ H w
  have hnone : ∀ p : Nat, ¬ Dl ord (Array.replicate ops.size false) p := by
    rintro p ⟨i, _, hi⟩
    rw [Array.getD_eq_getD_getElem?, Array.getElem?_replicate] at hi
    split at hi <;> simp at hi
  have hHv : Hv c ops ord H.length st tr Hm (Dl ord (Array.replicate ops.size false)) 0 = H ++ List.replicate (numA c.P ops) .dead := by
    rw [← e3]
    unfold Hv
    apply List.ext_getElem?
    intro b
    refine ov_none ?_
    cases hp : pend c ops ord H.length st tr (Dl ord (Array.replicate ops.size false)) 0 b with
    | none => rfl
    | some cs =>
      obtain ⟨q, q1, q2, _⟩ := hR.pend_iff.1 hp
      exact absurd q2 (hnone q)
  have hI : Inv c ops ord H.length (H.length + numA c.P ops) st tr Hm ρ H w a.defers 0 (Dl ord (Array.replicate ops.size false)) ρ { w with drawn := w.drawn + 1 } a := {
    le := Nat.zero_le _
    wa := fun p i o hp => by omega
    nw := fun p _ _ _ _ _ _ _ => hnone p
    dc := fun p q i j _ _ _ h => absurd h (hnone q)
    dm := fun p h => absurd h (hnone p)
    rel := by rw [hHv]; exact hr'.pad _
    step := by rw [hHv]; exact hst'.pad _
    len := by rw [e3]; simp
    free := fun p i o h1 _ _ _ => by
      cases hh : ρ (slotN ops ord H.length p) with
      | none => rfl
      | some L =>
        have := hr.dom _ _ hh
        have := hR.slot_le (k := 0) (k' := p) (Nat.zero_le _) (by have := (List.getElem?_eq_some_iff.1 h1).1; omega)
        simp only [slotN] at this
        omega
    sz := by have := hs.length; simpa using this
    df := rfl
    vals := fun t u hu => ⟨fun p _ _ _ _ _ _ h => absurd h (hnone p), fun _ v hv => by
      obtain ⟨u', h1, h2⟩ := hs.at_ hv
      rw [hu] at h1; cases h1
      exact h2⟩ }
  obtain ⟨k, hI', hS⟩ := hR.advance _ 0 (Nat.le_refl _) hI
  refine hR.all_any hF hC (Nat.le_refl _) (fun ρ' w' a' h1 h2 h3 h4 => ?_) ops.size _ (List.range ops.size) k ρ _ a (by simp) (fun i hi _ => List.mem_range.2 hi) (by simp) hI' hS
  rw [e2] at h1 h4
  rw [← e1] at h2
  exact hQ st' Hm ρ' w' a' hK h1 h2 h3 h4

theorem call_ok {c : Cfg} (hm : c.P.follows .mixedOrders = true) : ∀ k, CallOK c (callX c k) Fence.wide := call_sound (draws_ok hm)

end Go.Vm
