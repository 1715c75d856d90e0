/-
  Regions whose order is drawn: the run in the text's order, told place by place.
-/
import Derived.Test.YtfhjdnekidhjnaaVm16
set_option linter.unusedVariables false
set_option linter.unusedSimpArgs false
namespace Go.Vm

section
variable {c : Cfg} {call : CallF} {ops : Array Oper}

def GuardIs (ops : Array Oper) (st : St) (o : Oper) (b : Bool) : Prop :=
  match o.guard with
  | none => b = true
  | some (j, want) => ∃ g, (ops[j]?).bind (·.dst) = some g ∧ if b = true then st[g]? = some (.bool want) else st[g]? = some (.bool (!want)) ∨ st[g]? = some (.tup [])

def Does (c : Cfg) (call : CallF) (ops : Array Oper) (s : Nat) (o : Oper) (st : St) (H : Heap) (t : Tr) (H1 : Heap) : Prop :=
  t.H = H ∧ t.s = s ∧ ((GuardIs ops st o true ∧ opA c call s o st H ret2 = some (t.v, H1) ∧ t.p = addrOf o st) ∨ (GuardIs ops st o false ∧ t.v = .tup [] ∧ H1 = H ∧ t.p = none))

def Facts (c : Cfg) (call : CallF) (ops : Array Oper) : List Nat → Nat → St → Heap → List Tr → St → Heap → Prop
  | [], _, st, H, [], st', H' => st' = st ∧ H' = H
  | i :: is, s, st, H, t :: tr, st', H' => ∃ o H1, ops[i]? = some o ∧ Does c call ops s o st H t H1 ∧ Facts c call ops is (slot' s o) (putT st o.dst t.v) H1 tr st' H'
  | _, _, _, _, _, _, _ => False

theorem set_same {st : St} {g : Nat} {v : V} (hg : st[g]? = some v) : st.set g v = st := by
  apply List.ext_getElem?
  intro i
  by_cases hi : g = i
  · subst hi
    rw [List.getElem?_set_self (List.getElem?_eq_some_iff.1 hg).1, hg]
  · rw [List.getElem?_set_ne hi]

theorem opA_split {R : Type} {s : Nat} {o : Oper} {st : St} {H : Heap} {K : V → Heap → Option R} : opA c call s o st H K = (opA c call s o st H ret2).bind fun x => K x.1 x.2 := by
  unfold opA
  split
  · split <;> rfl
  · rw [opX_split]

theorem facts_of {R : Type} : ∀ (is : List Nat) {s : Nat} {st : St} {H : Heap} {tr0 : List Tr} {K : St → Heap → List Tr → Option R} {r : R}, opsD c call ops is s st H tr0 K = some r →
    ∃ tr st' H', K st' H' (tr0 ++ tr) = some r ∧ Facts c call ops is s st H tr st' H'
  | [], s, st, H, tr0, K, r, h => ⟨[], st, H, by simpa [opsD] using h, rfl, rfl⟩
  | i :: is, s, st, H, tr0, K, r, h => by
    unfold opsD at h
    split at h
    · cases h
    · rename_i o ho
      split at h
      · rename_i hg
        rw [opA_split] at h
        obtain ⟨⟨v, H1⟩, h1, h2⟩ := Option.bind_eq_some_iff.1 h
        obtain ⟨tr, st', H', k1, k3⟩ := facts_of is h2
        refine ⟨⟨v, H, addrOf o st, s⟩ :: tr, st', H', by rw [← k1]; simp, o, H1, ho, ⟨rfl, rfl, .inl ⟨?_, h1, rfl⟩⟩, k3⟩
        simp [GuardIs, hg]
      · rename_i j want hg
        split at h
        · cases h
        · rename_i g hj
          split at h
          · rename_i b hb
            by_cases hbw : b = want
            · rw [if_pos hbw] at h
              subst hbw
              rw [set_same hb] at h
              rw [opA_split] at h
              obtain ⟨⟨v, H1⟩, h1, h2⟩ := Option.bind_eq_some_iff.1 h
              obtain ⟨tr, st', H', k1, k3⟩ := facts_of is h2
              refine ⟨⟨v, H, addrOf o st, s⟩ :: tr, st', H', by rw [← k1]; simp, o, H1, ho, ⟨rfl, rfl, .inl ⟨?_, h1, rfl⟩⟩, k3⟩
              unfold GuardIs
              rw [hg]
              exact ⟨g, hj, by simpa using hb⟩
            · rw [if_neg hbw] at h
              have hb' : b = !want := by cases b <;> cases want <;> simp_all
              subst hb'
              rw [set_same hb] at h
              obtain ⟨tr, st', H', k1, k3⟩ := facts_of is h
              refine ⟨⟨.tup [], H, none, s⟩ :: tr, st', H', by rw [← k1]; simp, o, H, ho, ⟨rfl, rfl, .inr ⟨?_, rfl, rfl, rfl⟩⟩, k3⟩
              unfold GuardIs
              rw [hg]
              exact ⟨g, hj, by simpa using Or.inl hb⟩
          · rename_i hb
            obtain ⟨tr, st', H', k1, k3⟩ := facts_of is h
            refine ⟨⟨.tup [], H, none, s⟩ :: tr, st', H', by rw [← k1]; simp, o, H, ho, ⟨rfl, rfl, .inr ⟨?_, rfl, rfl, rfl⟩⟩, k3⟩
            unfold GuardIs
            rw [hg]
            exact ⟨g, hj, by simpa using Or.inr hb⟩
          · cases h

def opAt (ops : Array Oper) (ord : List Nat) (k : Nat) : Option Oper := (ord[k]?).bind fun i => ops[i]?

/-- The states, heaps, and places for new variables along the run. -/
def stN (ops : Array Oper) (ord : List Nat) (tr : List Tr) (st0 : St) : Nat → St
  | 0 => st0
  | k + 1 => match opAt ops ord k, tr[k]? with
    | some o, some t => putT (stN ops ord tr st0 k) o.dst t.v
    | _, _ => stN ops ord tr st0 k

def slotN (ops : Array Oper) (ord : List Nat) (s0 : Nat) : Nat → Nat
  | 0 => s0
  | k + 1 => match opAt ops ord k with
    | some o => slot' (slotN ops ord s0 k) o
    | none => slotN ops ord s0 k

theorem facts_head {is : List Nat} {s : Nat} {st : St} {H : Heap} {tr : List Tr} {st' : St} {H' : Heap} (h : Facts c call ops is s st H tr st' H') : hN tr H' 0 = H := by
  cases is with
  | nil => cases tr with
    | nil => exact h.2
    | cons t tr => cases h
  | cons i is => cases tr with
    | nil => cases h
    | cons t tr => obtain ⟨o, H1, _, hd, _⟩ := h; exact hd.1

theorem facts_len : ∀ {is : List Nat} {s : Nat} {st : St} {H : Heap} {tr : List Tr} {st' : St} {H' : Heap}, Facts c call ops is s st H tr st' H' → tr.length = is.length
  | [], _, _, _, [], _, _, _ => rfl
  | [], _, _, _, _ :: _, _, _, h => by cases h
  | _ :: _, _, _, _, [], _, _, h => by cases h
  | i :: is, _, _, _, t :: tr, _, _, ⟨_, _, _, _, h⟩ => by simp [facts_len h]

theorem facts_at {ord : List Nat} {s0 : Nat} {st0 : St} {H0 : Heap} {tr : List Tr} {st' : St} {H' : Heap} (h : Facts c call ops ord s0 st0 H0 tr st' H') :
    ∀ k, k ≤ ord.length → Facts c call ops (ord.drop k) (slotN ops ord s0 k) (stN ops ord tr st0 k) (hN tr H' k) (tr.drop k) st' H'
  | 0, _ => by
    rw [facts_head h]
    exact h
  | k + 1, hk => by
    have ih := facts_at h k (by omega)
    have hl := facts_len h
    have hlt : k < ord.length := by omega
    have hlt' : k < tr.length := by omega
    rw [List.drop_eq_getElem_cons hlt, List.drop_eq_getElem_cons hlt'] at ih
    obtain ⟨o, H1, ho, hd, hrest⟩ := ih
    have hoa : opAt ops ord k = some o := by simp [opAt, List.getElem?_eq_getElem hlt, ho]
    have e1 : stN ops ord tr st0 (k + 1) = putT (stN ops ord tr st0 k) o.dst tr[k].v := by
      simp only [stN, hoa, List.getElem?_eq_getElem hlt']
    have e3 : slotN ops ord s0 (k + 1) = slot' (slotN ops ord s0 k) o := by
      simp only [slotN, hoa]
    have e2 : hN tr H' (k + 1) = H1 := by
      have := facts_head hrest
      rw [← this]
      unfold hN
      simp
    rw [e1, e2, e3]
    exact hrest

theorem facts_does {ord : List Nat} {s0 : Nat} {st0 : St} {H0 : Heap} {tr : List Tr} {st' : St} {H' : Heap} (h : Facts c call ops ord s0 st0 H0 tr st' H') {k : Nat} (hk : k < ord.length) :
    ∃ o t, opAt ops ord k = some o ∧ tr[k]? = some t ∧ Does c call ops (slotN ops ord s0 k) o (stN ops ord tr st0 k) (hN tr H' k) t (hN tr H' (k + 1)) ∧
      stN ops ord tr st0 (k + 1) = putT (stN ops ord tr st0 k) o.dst t.v ∧ slotN ops ord s0 (k + 1) = slot' (slotN ops ord s0 k) o := by
  have ih := facts_at h k (by omega)
  have hl := facts_len h
  have hlt' : k < tr.length := by omega
  rw [List.drop_eq_getElem_cons hk, List.drop_eq_getElem_cons hlt'] at ih
  obtain ⟨o, H1, ho, hd, hrest⟩ := ih
  have hoa : opAt ops ord k = some o := by simp [opAt, List.getElem?_eq_getElem hk, ho]
  have e2 : hN tr H' (k + 1) = H1 := by
    have := facts_head hrest
    rw [← this]
    unfold hN
    simp
  refine ⟨o, tr[k], hoa, by simp [hlt'], by rw [e2]; exact hd, ?_, ?_⟩
  · simp only [stN, hoa, List.getElem?_eq_getElem hlt']
  · simp only [slotN, hoa]

theorem facts_end {ord : List Nat} {s0 : Nat} {st0 : St} {H0 : Heap} {tr : List Tr} {st' : St} {H' : Heap} (h : Facts c call ops ord s0 st0 H0 tr st' H') : st' = stN ops ord tr st0 ord.length ∧ hN tr H' ord.length = H' := by
  have := facts_at h ord.length (Nat.le_refl _)
  have hl := facts_len h
  rw [List.drop_length, ← hl, List.drop_length] at this
  refine ⟨by rw [← hl]; exact this.1, ?_⟩
  unfold hN
  rw [List.getElem?_eq_none (by omega)]

/-! ### What comes before what -/

inductive Anc (ops : Array Oper) : Nat → Nat → Prop
  | edge {i : Nat} {o : Oper} {e : Edge} (h : ops[i]? = some o) (he : e ∈ o.after) (hb : Region.binds .any e = true) : Anc ops e.on i
  | trans {i j k : Nat} (h : Anc ops i j) (h' : Anc ops j k) : Anc ops i k

theorem edgeMask_spec {acc : List Nat} {j : Nat} : ∀ {es : List Edge}, (edgeMask acc es).testBit j = true → ∃ e ∈ es, Region.binds .any e = true ∧ (j = e.on ∨ (acc.getD e.on 0).testBit j = true)
  | [], h => by simp [edgeMask] at h
  | e :: es, h => by
    unfold edgeMask at h
    split at h
    · rename_i hb
      rw [Nat.testBit_or, Nat.testBit_or, Bool.or_eq_true, Bool.or_eq_true] at h
      rcases h with (h | h) | h
      · rw [Nat.testBit_two_pow] at h
        exact ⟨e, List.mem_cons_self, hb, .inl (by have : e.on = j := (by simpa using h); exact this.symm)⟩
      · exact ⟨e, List.mem_cons_self, hb, .inr h⟩
      · obtain ⟨e', h1, h2⟩ := edgeMask_spec h
        exact ⟨e', List.mem_cons_of_mem _ h1, h2⟩
    · obtain ⟨e', h1, h2⟩ := edgeMask_spec h
      exact ⟨e', List.mem_cons_of_mem _ h1, h2⟩

theorem masksOf_spec : ∀ (os : List Oper) (acc : List Nat) (pre : List Oper), ops.toList = pre ++ os → acc.length = pre.length → (∀ i j, (acc.getD i 0).testBit j = true → Anc ops j i) →
    ∀ i j, ((masksOf os acc).getD i 0).testBit j = true → Anc ops j i
  | [], acc, pre, _, _, h => h
  | o :: os, acc, pre, he, hl, h => by
    refine masksOf_spec os (acc ++ [edgeMask acc o.after.toList]) (pre ++ [o]) (by simp [he]) (by simp [hl]) ?_
    intro i j hb
    rcases Nat.lt_trichotomy i acc.length with hi | hi | hi
    · refine h i j ?_
      rw [List.getD_eq_getElem?_getD, List.getElem?_append_left hi] at hb
      rw [List.getD_eq_getElem?_getD]
      exact hb
    · subst hi
      rw [List.getD_eq_getElem?_getD] at hb
      simp at hb
      obtain ⟨e, h1, h2, h3⟩ := edgeMask_spec hb
      have ho : ops[acc.length]? = some o := by
        rw [← Array.getElem?_toList, he, hl]
        simp
      have hedge : Anc ops e.on acc.length := .edge ho (by simpa using h1) h2
      rcases h3 with rfl | h3
      · exact hedge
      · exact .trans (h _ _ h3) hedge
    · rw [List.getD_eq_getElem?_getD, List.getElem?_eq_none (by simp; omega)] at hb
      simp at hb

theorem masks_anc {i j : Nat} (h : ((masksOf ops.toList []).getD i 0).testBit j = true) : Anc ops j i :=
  masksOf_spec ops.toList [] [] rfl rfl (fun i j h => by simp at h) i j h

theorem ordered_anc {i j : Nat} (h : ordered (masksOf ops.toList []) i j = true) : Anc ops i j ∨ Anc ops j i := by
  unfold ordered at h
  rcases Bool.or_eq_true_iff.1 h with h | h
  · exact .inl (masks_anc h)
  · exact .inr (masks_anc h)

end
end Go.Vm
