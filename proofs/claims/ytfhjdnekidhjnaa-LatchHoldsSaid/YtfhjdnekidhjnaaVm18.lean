/-
  Regions whose order is drawn: what 'drawOk' and 'chkAll' say, place by place.
-/
import Derived.Test.YtfhjdnekidhjnaaVm17
set_option linter.unusedVariables false
set_option linter.unusedSimpArgs false
namespace Go.Vm

theorem ordOk_spec {P : Program} {ops : Array Oper} {ms : List Nat} : ∀ {is before : List Nat}, ordOk P ops ms before is = true →
    ∀ p i, is[p]? = some i → edgesOk ops (before ++ is.take p) i = true ∧ ∀ q j, p < q → is[q]? = some j → pairOk P ops ms true i j = true ∧ pairOk P ops ms false j i = true
  | [], _, _, p, i, hp => by simp at hp
  | x :: is, before, h, p, i, hp => by
    unfold ordOk at h
    simp only [Bool.and_eq_true] at h
    obtain ⟨⟨h1, h2⟩, h3⟩ := h
    cases p with
    | zero =>
      simp at hp
      subst hp
      refine ⟨by simpa using h1, fun q j hq hj => ?_⟩
      obtain ⟨q, rfl⟩ : ∃ q', q = q' + 1 := ⟨q - 1, by omega⟩
      rw [List.getElem?_cons_succ] at hj
      have key : ∀ {js : List Nat}, pairsOk P ops ms x js = true → j ∈ js → pairOk P ops ms true x j = true ∧ pairOk P ops ms false j x = true := by
        intro js
        induction js with
        | nil => intro _ hm; simp at hm
        | cons y js ih =>
          intro hh hm
          unfold pairsOk at hh
          simp only [Bool.and_eq_true] at hh
          rcases List.mem_cons.1 hm with rfl | hm
          · exact ⟨hh.1.1, hh.1.2⟩
          · exact ih hh.2 hm
      exact key h2 (List.mem_of_getElem? hj)
    | succ p =>
      rw [List.getElem?_cons_succ] at hp
      obtain ⟨k1, k2⟩ := ordOk_spec h3 p i hp
      refine ⟨by simpa using k1, fun q j hq hj => ?_⟩
      obtain ⟨q, rfl⟩ : ∃ q', q = q' + 1 := ⟨q - 1, by omega⟩
      rw [List.getElem?_cons_succ] at hj
      exact k2 q j (by omega) hj

theorem pairOk_spec {P : Program} {ops : Array Oper} {lt : Bool} {i j : Nat} {x y : Oper} (hx : ops[i]? = some x) (hy : ops[j]? = some y) (h : pairOk P ops (masksOf ops.toList []) lt i j = true) :
    i ≠ j ∧ (∀ d, y.dst = some d → x.dst ≠ some d ∧ (d ∈ x.looksAt ops → Anc ops i j ∨ Anc ops j i)) ∧ (lt = true → clsOf P x = .w → clsOf P y = .w → isA y = false → Anc ops i j) := by
  unfold pairOk at h
  simp only [hx, hy, Bool.and_eq_true, bne_iff_ne, ne_eq] at h
  obtain ⟨h1, h2, h3⟩ := h
  refine ⟨h1, fun d hd => ?_, fun hl e1 e2 e3 => ?_⟩
  · rw [hd] at h2
    simp only [Bool.and_eq_true, bne_iff_ne, ne_eq, Bool.or_eq_true, Bool.not_eq_true'] at h2
    refine ⟨h2.1, fun hm => ?_⟩
    rcases h2.2 with h2 | h2
    · simp at h2; exact absurd hm h2
    · exact ordered_anc h2
  · rw [hl, e1, e2, e3] at h3
    simp at h3
    exact masks_anc h3

theorem chkAll_spec {P : Program} {ops : Array Oper} {ms ord : List Nat} {e : Nat} {tr : List Tr} {Hm : Heap} {m : Nat} : ∀ {n : Nat}, chkAll P ops ms ord e tr Hm m n = true →
    ∀ q, q < n → chkDead ops ord e tr q = true ∧ ∀ p, p < m → chk1 P ops ms ord e tr Hm q p = true
  | 0, _, q, hq => by omega
  | n + 1, h, q, hq => by
    unfold chkAll at h
    simp only [Bool.and_eq_true] at h
    obtain ⟨⟨h1, h2⟩, h3⟩ := h
    by_cases e1 : q = n
    · subst e1
      refine ⟨h1, ?_⟩
      have key : ∀ {m : Nat}, chkRow P ops ms ord e tr Hm q m = true → ∀ p, p < m → chk1 P ops ms ord e tr Hm q p = true := by
        intro m
        induction m with
        | zero => intro _ p hp; omega
        | succ m ih =>
          intro hh p hp
          unfold chkRow at hh
          simp only [Bool.and_eq_true] at hh
          by_cases e2 : p = m
          · subst e2; exact hh.1
          · exact ih hh.2 p (by omega)
      exact key h2
    · exact chkAll_spec h3 q (by omega)

theorem deadN_spec {H : Heap} : ∀ {n s : Nat}, deadN H s n = true → ∀ b, s ≤ b → b < s + n → H[b]? = some .dead
  | 0, s, _, b, h1, h2 => by omega
  | n + 1, s, h, b, h1, h2 => by
    unfold deadN at h
    simp only [Bool.and_eq_true] at h
    by_cases e : b = s
    · subst e
      have := h.1
      split at this
      · assumption
      · cases this
    · exact deadN_spec h.2 b (by omega) (by omega)

/-- A run of the small machine through such a region, and all that was asked of it. -/
structure Run (c : Cfg) (call : CallF) (ops : Array Oper) (ord : List Nat) (s0 e : Nat) (st0 : St) (tr : List Tr) (Hm : Heap) : Prop where
  does : ∀ k, k < ord.length → ∃ (i : Nat) (o : Oper) (t : Tr), ord[k]? = some i ∧ ops[i]? = some o ∧ tr[k]? = some t ∧ Does c call ops (slotN ops ord s0 k) o (stN ops ord tr st0 k) (hN tr Hm k) t (hN tr Hm (k + 1)) ∧
    stN ops ord tr st0 (k + 1) = putT (stN ops ord tr st0 k) o.dst t.v ∧ slotN ops ord s0 (k + 1) = slot' (slotN ops ord s0 k) o
  all : ∀ i, i < ops.size → ∃ p : Nat, ord[p]? = some i
  edge : ∀ (p i : Nat) o ed, ord[p]? = some i → ops[i]? = some o → ed ∈ o.after → Region.binds .any ed = true → ∃ q : Nat, q < p ∧ ord[q]? = some ed.on
  pair : ∀ (p q i j : Nat) x y, p ≠ q → ord[p]? = some i → ord[q]? = some j → ops[i]? = some x → ops[j]? = some y →
    i ≠ j ∧ (∀ d, y.dst = some d → x.dst ≠ some d ∧ (d ∈ x.looksAt ops → Anc ops i j ∨ Anc ops j i)) ∧ (p < q → clsOf c.P x = .w → clsOf c.P y = .w → isA y = false → Anc ops i j)
  chk : ∀ (p q i j : Nat) x y tp tq, ord[p]? = some i → ord[q]? = some j → ops[i]? = some x → ops[j]? = some y → tr[p]? = some tp → tr[q]? = some tq → clsOf c.P x = .l → clsOf c.P y = .w → ¬ Anc ops i j → ¬ Anc ops j i →
    (isA y = true → chkLA tp tq = true) ∧ (isA y = false → chkLW c.P e tp tq (hN tr Hm (q + 1)) = true)
  dead : ∀ (q j : Nat) y, ord[q]? = some j → ops[j]? = some y → isA y = false → ∀ b, slotN ops ord s0 q ≤ b → b < e → (hN tr Hm q)[b]? = some .dead
  last : slotN ops ord s0 ord.length = e

theorem slotN_count {ops : Array Oper} {ord : List Nat} {s0 : Nat} : ∀ k, k ≤ ord.length → slotN ops ord s0 k = s0 + ((ord.take k).filter (isAat ops)).length
  | 0, _ => by simp [slotN]
  | k + 1, hk => by
    have ih := slotN_count (ops := ops) (ord := ord) (s0 := s0) k (by omega)
    have hlt : k < ord.length := by omega
    rw [List.take_add_one, List.getElem?_eq_getElem hlt]
    simp only [Option.toList_some, List.filter_append, List.length_append]
    unfold slotN
    cases ho : ops[ord[k]]? with
    | none =>
      simp [opAt, List.getElem?_eq_getElem hlt, ho, isAat, ih, List.filter_cons]
    | some o =>
      simp [opAt, List.getElem?_eq_getElem hlt, ho, isAat, ih, List.filter_cons, slot']
      split <;> simp_all <;> omega

theorem run_of {R : Type} {c : Cfg} {call : CallF} {ops : Array Oper} {st : St} {H : Heap} {K : St → Heap → Option R} {r : R} (h : drawX c call ops st H K = some r) :
    ∃ ord tr st' Hm, K st' Hm = some r ∧ Run c call ops ord H.length (H.length + numA c.P ops) st tr Hm ∧ st' = stN ops ord tr st ord.length ∧ hN tr Hm ord.length = Hm ∧
      hN tr Hm 0 = H ++ List.replicate (numA c.P ops) .dead := by
  unfold drawX at h
  split at h
  · rename_i hd
    obtain ⟨tr, st', Hm, hk, hf⟩ := facts_of _ h
    simp only [List.nil_append] at hk
    split at hk
    · rename_i hc
      unfold drawOk at hd
      simp only [Bool.and_eq_true, List.all_eq_true, List.mem_range] at hd
      obtain ⟨hall, hord⟩ := hd
      have hsp := ordOk_spec hord
      have hche := chkAll_spec hc
      have hsz : ∀ {p i : Nat}, (ordOf c.P ops)[p]? = some i → i < ops.size := by
        intro p i hp
        have := (hsp p i hp).1
        unfold edgesOk at this
        split at this
        · rename_i o ho
          exact (Array.getElem?_eq_some_iff.1 ho).1
        · cases this
      have inj : ∀ p q i : Nat, (ordOf c.P ops)[p]? = some i → (ordOf c.P ops)[q]? = some i → p = q := by
        intro p q i hp hq
        rcases Nat.lt_trichotomy p q with hl | hl | hl
        · have := ((hsp p i hp).2 q i hl hq).1
          have hi := hsz hp
          exact absurd rfl (pairOk_spec (Array.getElem?_eq_getElem hi) (Array.getElem?_eq_getElem hi) this).1
        · exact hl
        · have := ((hsp q i hq).2 p i hl hp).1
          have hi := hsz hp
          exact absurd rfl (pairOk_spec (Array.getElem?_eq_getElem hi) (Array.getElem?_eq_getElem hi) this).1
      have hlen : ∀ p i : Nat, (ordOf c.P ops)[p]? = some i → p < ops.size := by
        intro p i hp
        -- the order has no more places than there are operations
        have nd : (ordOf c.P ops).Nodup := by
          refine List.pairwise_iff_getElem.2 fun a b ha hb hab heq => ?_
          have := inj a b _ (List.getElem?_eq_getElem ha) (by rw [heq]; exact List.getElem?_eq_getElem hb)
          omega
        have hsub : ∀ x ∈ ordOf c.P ops, x ∈ List.range ops.size := by
          intro x hx
          obtain ⟨q, hq⟩ := List.getElem?_of_mem hx
          exact List.mem_range.2 (hsz hq)
        have key : ∀ (l m : List Nat), l.Nodup → (∀ x ∈ l, x ∈ m) → l.length ≤ m.length := by
          intro l
          induction l with
          | nil => intro m _ _; simp
          | cons x l ih =>
            intro m hn hs
            have hx := hs x (List.mem_cons_self)
            have := ih (m.erase x) (List.nodup_cons.1 hn).2 fun y hy => by
              have hne : y ≠ x := fun e => (List.nodup_cons.1 hn).1 (e ▸ hy)
              exact (List.mem_erase_of_ne hne).2 (hs y (List.mem_cons_of_mem _ hy))
            rw [List.length_erase_of_mem hx] at this
            have hpos : 0 < m.length := List.length_pos_of_mem hx
            simp
            omega
        have := key _ _ nd hsub
        rw [List.length_range] at this
        have := (List.getElem?_eq_some_iff.1 hp).1
        omega
      refine ⟨ordOf c.P ops, tr, st', Hm, hk, ⟨?_, ?_, ?_, ?_, ?_, ?_, ?_⟩, (facts_end hf).1, (facts_end hf).2, ?_⟩
      · intro k hlt
        obtain ⟨o, t, e1, e2, e3, e4, e5⟩ := facts_does hf hlt
        have e1' := e1
        unfold opAt at e1'
        rw [List.getElem?_eq_getElem hlt] at e1'
        exact ⟨_, o, t, List.getElem?_eq_getElem hlt, e1', e2, e3, e4, e5⟩
      · intro i hi
        have := hall i hi
        rw [List.contains_iff_mem] at this
        exact List.getElem?_of_mem this
      · intro p i o ed hp ho he hb
        have := (hsp p i hp).1
        unfold edgesOk at this
        rw [ho] at this
        simp only [List.nil_append, List.all_eq_true] at this
        have := this ed (by simpa using he)
        rw [hb] at this
        simp at this
        obtain ⟨q, hq⟩ := List.getElem?_of_mem this
        have hqp : q < p := by
          have := (List.getElem?_eq_some_iff.1 hq).1
          rw [List.length_take] at this
          omega
        refine ⟨q, hqp, ?_⟩
        rw [List.getElem?_take] at hq
        simpa [hqp] using hq
      · intro p q i j x y hpq hp hq hx hy
        rcases Nat.lt_or_ge p q with hl | hl
        · obtain ⟨h1, h2, h3⟩ := pairOk_spec hx hy ((hsp p i hp).2 q j hl hq).1
          exact ⟨h1, h2, fun _ => h3 rfl⟩
        · obtain ⟨h1, h2, h3⟩ := pairOk_spec hx hy ((hsp q j hq).2 p i (by omega) hp).2
          exact ⟨h1, h2, fun hlt => by omega⟩
      · intro p q i j x y tp tq hp hq hx hy htp htq e1 e2 e3 e4
        have := (hche p (hlen p i hp)).2 q (hlen q j hq)
        unfold chk1 at this
        simp only [hp, hq, hx, hy, htp, htq] at this
        have hno : ordered (masksOf ops.toList []) i j = false := by
          cases hb : ordered (masksOf ops.toList []) i j with
          | false => rfl
          | true =>
            rcases ordered_anc hb with hb | hb
            · exact absurd hb e3
            · exact absurd hb e4
        rw [if_pos ⟨e1, e2, hno⟩] at this
        refine ⟨fun ha => ?_, fun ha => ?_⟩
        · rw [if_pos ha] at this; exact this
        · rw [if_neg (by simp [ha])] at this; exact this
      · intro q j y hq hy ha b h1 h2
        have hql := (List.getElem?_eq_some_iff.1 hq).1
        obtain ⟨o, t, e1, e2, e3, e4, e5⟩ := facts_does hf hql
        have hoy : o = y := by
          unfold opAt at e1
          rw [hq] at e1
          simp [hy] at e1
          exact e1.symm
        subst hoy
        have := (hche q (hlen q j hq)).1
        unfold chkDead at this
        simp only [hq, e2] at this
        have hia : isAat ops j = false := by simp [isAat, hy, ha]
        rw [hia] at this
        simp only [Bool.false_eq_true, if_false] at this
        obtain ⟨d1, d2, _⟩ := e3
        rw [d1, d2] at this
        exact deadN_spec this b h1 (by omega)
      · rw [slotN_count _ (Nat.le_refl _), List.take_length]
        rfl
      · exact facts_head hf
    · cases hk
  · cases h

end Go.Vm
