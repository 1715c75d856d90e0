/-
  The operations that write nothing.
-/
import Derived.Test.YtfhjdnekidhjnaaVm4
import Derived.ChangeKeysEq
set_option linter.unusedVariables false
set_option linter.unusedSimpArgs false
namespace Go.Vm

def Did {R : Type} (c : Cfg) (o : Oper) (a : Act) (K : V → Heap → Option R) (r : R) (ρ : Map) (H : Heap) (w : World) : Prop :=
  ∃ nx v u ρ' H' w', (execOp a.eval o).run c.P w = .ok nx w' ∧ (nx = .value u ∨ (nx = .skip ∧ u = Go.undef)) ∧ VR ρ' v u ∧ Rel ρ' H' w' ∧ Step ρ H w ρ' H' w' ∧ K v H' = some r

section
variable {R : Type} {c : Cfg} {call : CallF} {o : Oper} {st : St} {H : Heap} {K : V → Heap → Option R} {r : R} {ρ : Map} {w : World} {a : Act}

theorem Did.still {v : V} {u : Value} (hr : Rel ρ H w) (hx : (execOp a.eval o).run c.P w = .ok (.value u) w) (hv : VR ρ v u) (hK : K v H = some r) : Did c o a K r ρ H w :=
  ⟨.value u, v, u, ρ, H, w, hx, .inl rfl, hv, hr, Step.refl _ _ _, hK⟩

theorem did_move {x : Operand} (ho : o.op = .move x ∨ o.op = .assign x) (h : opX c call o st H K = some r) (hr : Rel ρ H w) (hs : SR ρ st a.tmps) : Did c o a K r ρ H w := by
  unfold opX at h
  rcases ho with ho | ho
  all_goals
    rw [ho] at h
    simp only at h
    split at h
    · rename_i v hv
      refine Did.still hr ?_ (ev_rel hs hv) h
      simp [execOp, ho]
    · cases h

theorem did_pick {x y z : Operand} (ho : o.op = .pick x y z) (h : opX c call o st H K = some r) (hr : Rel ρ H w) (hs : SR ρ st a.tmps) : Did c o a K r ρ H w := by
  unfold opX at h
  rw [ho] at h
  simp only at h
  split at h
  · rename_i t p q h1 h2 h3
    have e1 := (ev_rel hs h1).inv_bool
    have e2 := (ev_rel hs h2).inv_bool
    have e3 := (ev_rel hs h3).inv_bool
    refine Did.still (u := .bool (cond t p q)) hr ?_ (.bool _) h
    cases t <;> simp [execOp, asBool, ho, e1, e2, e3]
  · rename_i t p q _ h1 h2 h3
    have e1 := (ev_rel hs h1).inv_bool
    cases t
    · exact Did.still (u := a.eval z) hr (by simp [execOp, asBool, ho, e1]) (ev_rel hs h3) (by simpa using h)
    · exact Did.still (u := a.eval y) hr (by simp [execOp, asBool, ho, e1]) (ev_rel hs h2) (by simpa using h)
  · cases h

theorem did_nilCheck {x : Operand} (ho : o.op = .nilCheck x) (h : opX c call o st H K = some r) (hr : Rel ρ H w) (hs : SR ρ st a.tmps) : Did c o a K r ρ H w := by
  unfold opX at h
  rw [ho] at h
  simp only at h
  split at h
  · rename_i p h1
    cases p with
    | none => cases h
    | some p =>
      obtain ⟨b, o'⟩ := p
      have e := ev_rel hs h1
      obtain ⟨L, _, _, e1⟩ := e.inv_ptr
      exact Did.still (u := a.eval x) hr (by simp [execOp, ho, e1]) e h
  · rename_i f cs h1
    have e := ev_rel hs h1
    obtain ⟨us, _, e1⟩ := e.inv_fn
    exact Did.still (u := a.eval x) hr (by simp [execOp, ho, e1]) e h
  · rename_i l h1
    have e := ev_rel hs h1
    obtain ⟨us, _, _, e1⟩ := e.inv_yld
    exact Did.still (u := a.eval x) hr (by simp [execOp, ho, e1]) e h
  · cases h

theorem did_unOp {op : UnOp} {t : TypeId} {x : Operand} (ho : o.op = .unOp op t x) (h : opX c call o st H K = some r) (hr : Rel ρ H w) (hs : SR ρ st a.tmps) : Did c o a K r ρ H w := by
  unfold opX at h
  rw [ho] at h
  simp only at h
  split at h
  · rename_i u h1
    split at h
    · rename_i v h2
      have e := ev_rel hs h1
      unfold unV at h2
      split at h2
      · cases h2
        exact Did.still hr (by simp [execOp, ho, e.inv_int, Op.unary, Op.intArith]) (.int _ _) h
      · cases h2
        exact Did.still hr (by simp [execOp, ho, e.inv_int, Op.unary, Op.intBits, bits]) (.int _ _) h
      · cases h2
        exact Did.still hr (by simp [execOp, ho, e.inv_bool, Op.unary]) (.bool _) h
      · cases h2
    · cases h
  · cases h

theorem did_extract {x : Operand} {i : Nat} (ho : o.op = .extract x i) (h : opX c call o st H K = some r) (hr : Rel ρ H w) (hs : SR ρ st a.tmps) : Did c o a K r ρ H w := by
  unfold opX at h
  rw [ho] at h
  simp only at h
  split at h
  · rename_i vs h1
    split at h
    · rename_i v h2
      obtain ⟨us, hus, e1⟩ := (ev_rel hs h1).inv_tup
      obtain ⟨u, hu, hv⟩ := hus.get h2
      exact Did.still (u := u) hr (by simp [execOp, ho, e1, Instr.extract, hu]) hv h
    · cases h
  · cases h

theorem did_load {t : TypeId} {x : Operand} (ho : o.op = .load t x) (h : opX c call o st H K = some r) (hr : Rel ρ H w) (hs : SR ρ st a.tmps) : Did c o a K r ρ H w := by
  unfold opX at h
  rw [ho] at h
  simp only at h
  split at h
  · rename_i p h1
    cases p with
    | none => cases h
    | some p =>
      obtain ⟨b, o'⟩ := p
      obtain ⟨L, hL, _, e1⟩ := (ev_rel hs h1).inv_ptr
      obtain ⟨v, u, hK, hv, hrun⟩ := loadT_rel (K := fun v => K v H) h hr hL
      exact Did.still (u := u) hr (by simp [execOp, ho, e1, Instr.loadAt, Instr.sureAddr, hrun, Result.andThen]) hv hK
  · cases h

theorem did_fieldAddr {s : TypeId} {x : Operand} {f : Nat} (ho : o.op = .fieldAddr s x f) (h : opX c call o st H K = some r) (hr : Rel ρ H w) (hs : SR ρ st a.tmps) : Did c o a K r ρ H w := by
  unfold opX at h
  rw [ho] at h
  simp only at h
  split at h
  · rename_i p fs h1 h2
    split at h
    · rename_i fd h3
      by_cases hz : 0 < esOf c.P fd.type
      · rw [if_pos hz] at h
        cases p with
        | none => cases h
        | some p =>
          obtain ⟨b, o'⟩ := p
          obtain ⟨L, hL, hk, e1⟩ := (ev_rel hs h1).inv_ptr
          refine Did.still (u := .pointer (some ⟨L.blk, L.base + (o' + fd.offset), none⟩)) hr ?_ (.ptr _ _ _ hL hk) h
          have hne : esOf c.P fd.type ≠ 0 := by omega
          simp [execOp, ho, e1, Instr.fieldAt, run_underlying h2, h3, Instr.sureAddr, fieldPlace, run_sizeOf (info_of_es hz), hne, Result.andThen, Addr.add_lit, Nat.add_assoc]
      · rw [if_neg hz] at h; cases h
    · cases h
  · cases h

theorem did_indexAddr {t : TypeId} {x y : Operand} (ho : o.op = .indexAddr t x y) (h : opX c call o st H K = some r) (hr : Rel ρ H w) (hs : SR ρ st a.tmps) : Did c o a K r ρ H w := by
  unfold opX at h
  rw [ho] at h
  simp only at h
  split at h
  · rename_i es p n k i e h1 h2 h3
    by_cases hc : (slE es (esOf c.P e) = true ∨ n = 0) ∧ 0 < esOf c.P e
    · rw [if_pos hc] at h
      obtain ⟨hc, hz⟩ := hc
      by_cases hi : 0 ≤ i ∧ i < n
      · rw [if_pos hi] at h
        cases p with
        | none => cases h
        | some p =>
          obtain ⟨b, o'⟩ := p
          obtain ⟨L, ad, cap, hL, hn, ha, hrw, hv, hl, e1⟩ := (ev_rel hs h1).inv_sl
          have e2 := (ev_rel hs h2).inv_int
          have ha' : ad = ⟨L.blk, L.base + o', none⟩ := ha.resolve_left (by omega)
          subst ha'
          have hk : L.kind = .rw ∨ L.kind = .ro := by
            cases hk : L.kind
            · exact .inl rfl
            · exact .inr rfl
            · have := hv hk; omega
            · exact absurd hk hl
          refine Did.still (u := .pointer (some ⟨L.blk, L.base + (o' + i.toNat * esOf c.P e), none⟩)) hr ?_ (.ptr _ _ _ hL hk) h
          have hel : c.P.elem t = e := by simp [Program.elem, h3]
          have hrun : (Instr.indexAt t (.slice (some ⟨L.blk, L.base + o', none⟩) n cap) (.int k i)).run c.P w = .ok (.pointer (some ⟨L.blk, L.base + (o' + i.toNat * esOf c.P e), none⟩)) w := by
            rw [run_indexAt_slice w t _ n cap k i (by rw [hel]; exact h3), if_pos hi, hel, run_sizeOf (info_of_es hz)]
            simp [Result.andThen, Addr.add_lit, Nat.add_assoc]
          simp [execOp, ho, e1, e2, hrun, Result.andThen]
      · rw [if_neg hi] at h; cases h
    · rw [if_neg hc] at h; cases h
  · rename_i p k i n e h1 h2 h3
    by_cases hi : 0 < esOf c.P e ∧ 0 ≤ i ∧ i < n
    · rw [if_pos hi] at h
      cases p with
      | none => cases h
      | some p =>
        obtain ⟨b, o'⟩ := p
        obtain ⟨L, hL, hk, e1⟩ := (ev_rel hs h1).inv_ptr
        have e2 := (ev_rel hs h2).inv_int
        refine Did.still (u := .pointer (some ⟨L.blk, L.base + (o' + i.toNat * esOf c.P e), none⟩)) hr ?_ (.ptr _ _ _ hL hk) h
        have hel : c.P.elem t = e := by simp [Program.elem, h3]
        have hln : c.P.arrayLen t = n := by simp [Program.arrayLen, h3]
        have hrun : (Instr.indexAt t (.pointer (some ⟨L.blk, L.base + o', none⟩)) (.int k i)).run c.P w = .ok (.pointer (some ⟨L.blk, L.base + (o' + i.toNat * esOf c.P e), none⟩)) w := by
          rw [run_indexAt_array w t _ k i (by rw [hel, hln]; exact h3), hln, if_pos hi.2, hel, run_sizeOf (info_of_es hi.1)]
          simp [Result.andThen, Addr.add_lit, Nat.add_assoc]
        simp [execOp, ho, e1, e2, hrun, Result.andThen]
    · rw [if_neg hi] at h; cases h
  · cases h

theorem did_field {s : TypeId} {x : Operand} {f : Nat} (ho : o.op = .field s x f) (h : opX c call o st H K = some r) (hr : Rel ρ H w) (hs : SR ρ st a.tmps) : Did c o a K r ρ H w := by
  unfold opX at h
  rw [ho] at h
  simp only at h
  split at h
  · rename_i cs fs h1 h2
    split at h
    · rename_i fd h3
      obtain ⟨us, hus, e1⟩ := (ev_rel hs h1).inv_agg
      by_cases ha : isAggT c.P fd.type = true
      · rw [if_pos ha] at h
        obtain ⟨d, hd⟩ : ∃ d, c.P.underlying fd.type = some d := by
          unfold isAggT at ha
          cases hd : c.P.underlying fd.type with
          | none => rw [hd] at ha; simp at ha
          | some d => exact ⟨d, rfl⟩
        have hinfo : (c.P.info? fd.type).isSome = true := by
          simp only [Program.underlying] at hd
          cases hi : c.P.info? fd.type with
          | none => rw [hi] at hd; simp at hd
          | some i => rfl
        refine Did.still (u := .agg ((us.drop fd.offset).take (esOf c.P fd.type)).toArray) hr ?_ (.agg _ _ ((hus.drop _).take _)) h
        simp [execOp, ho, e1, Instr.field, run_underlying h2, h3, part, run_isAgg hd, ha, asAgg, run_sizeOf hinfo, Result.andThen]
        try omega
      · rw [if_neg ha] at h
        by_cases hu : (c.P.underlying fd.type).isSome = true
        · rw [if_pos hu] at h
          obtain ⟨d, hd⟩ := Option.isSome_iff_exists.1 hu
          split at h
          · rename_i v hv
            obtain ⟨u, hu, hvu⟩ := hus.get hv
            have ha' : isAggT c.P fd.type = false := by simpa using ha
            exact Did.still (u := u) hr (by simp [execOp, ho, e1, Instr.field, run_underlying h2, h3, part, run_isAgg hd, ha', asAgg, hu, Result.andThen]) hvu h
          · cases h
        · rw [if_neg hu] at h; cases h
    · cases h
  · cases h

theorem equal_of {P : Program} {t : TypeId} {x y : Value} {b : Bool} (h : ∀ d, (Op.equalIn (d + 1) t x y).run P w = .ok b w) : (Op.equal t x y).run P w = .ok b w := h 9999

theorem partV_rel {P : Program} {t : TypeId} {cs : List V} {us : List Value} {off : Nat} {v : V} (h : partV P t cs off = some v) {ρ : Map} (hr : VRL ρ cs us) : ∃ u, (∀ w, (part t us.toArray off).run P w = .ok u w) ∧ VR ρ v u := by
  unfold partV at h
  split at h
  · rename_i ha
    split at h
    · rename_i hi
      cases h
      obtain ⟨d, hd⟩ : ∃ d, P.underlying t = some d := by
        unfold isAggT at ha
        cases hd : P.underlying t with
        | none => rw [hd] at ha; simp at ha
        | some d => exact ⟨d, rfl⟩
      refine ⟨.agg ((us.drop off).take (esOf P t)).toArray, fun w => ?_, .agg _ _ ((hr.drop _).take _)⟩
      simp [part, run_isAgg hd, ha, Vm.run_sizeOf hi, Result.andThen]
      try omega
    · cases h
  · rename_i ha
    split at h
    · rename_i hu
      obtain ⟨d, hd⟩ := Option.isSome_iff_exists.1 hu
      obtain ⟨u, hu, hv⟩ := hr.get h
      have ha' : isAggT P t = false := by simpa using ha
      exact ⟨u, fun w => by simp [part, run_isAgg hd, ha', hu, Result.andThen], hv⟩
    · cases h

theorem allB_cons {x : Option Bool} {xs : List (Option Bool)} {b : Bool} (h : allB (x :: xs) = some b) : ∃ p q, x = some p ∧ allB xs = some q ∧ b = (p && q) := by
  cases x with
  | none => cases h
  | some p =>
    unfold allB at h
    split at h
    · rename_i q hq; cases h; exact ⟨p, q, rfl, hq, rfl⟩
    · cases h

theorem eqD_rel {P : Program} (w : World) {ρ : Map} : ∀ (d : Nat) {t : TypeId} {u v : V} {b : Bool} {ux uy : Value}, eqD P d t u v = some b → VR ρ u ux → VR ρ v uy → ∀ D, d ≤ D → (Op.equalIn D t ux uy).run P w = .ok b w := by
  intro d
  induction d with
  | zero => intro t u v b ux uy h; cases h
  | succ d ih =>
    intro t u v b ux uy h e1 e2 D hD
    obtain ⟨D, rfl⟩ : ∃ D', D = D' + 1 := ⟨D - 1, by omega⟩
    unfold eqD at h
    split at h
    · rename_i p q ht
      cases h
      rw [e1.inv_bool, e2.inv_bool]
      simp [Op.equalIn, run_underlying ht]
    · rename_i k p k' q ht
      split at h
      · rename_i hk
        cases h
        subst hk
        rw [e1.inv_int, e2.inv_int]
        simp [Op.equalIn, run_underlying ht]
      · cases h
    · rename_i p q ht
      cases h
      rw [e1.inv_str, e2.inv_str]
      simp [Op.equalIn, run_underlying ht, beq_toListBytes]
    · rename_i fs xs ys ht
      split at h
      · cases h
      · rename_i hst
        obtain ⟨us, hus, rfl⟩ := e1.inv_agg
        obtain ⟨us', hus', rfl⟩ := e2.inv_agg
        have hf : P.fieldsOf t = fs := by unfold Program.fieldsOf; rw [ht]
        rw [run_equalIn_struct w D t _ _ (by rw [hf]; exact ht) (by simpa using hst), hf]
        clear ht hf
        generalize fs.toList = l at h
        induction l generalizing b with
        | nil => cases h; simp [Op.eqFields]
        | cons f l ihl =>
          obtain ⟨p, q, h1, h2, rfl⟩ := allB_cons h
          have k2 := ihl h2
          by_cases hn : f.name = "_"
          · simp only [hn, if_true] at h1
            cases h1
            simp only [Op.eqFields, hn, ne_eq, not_true_eq_false, if_false, Bool.true_and]
            exact k2
          · simp only [hn, if_false] at h1
            split at h1
            · rename_i a b hp1 hp2
              obtain ⟨ua, r1, v1⟩ := partV_rel hp1 hus
              obtain ⟨ub, r2, v2⟩ := partV_rel hp2 hus'
              have k1 := ih h1 v1 v2 D (by omega)
              simp only [Op.eqFields, hn, ne_eq, not_false_eq_true, if_true, Sem.run_bind, r1, r2, k1, Result.andThen_ok]
              cases p
              · simp
              · simpa using k2
            · cases h1
    · rename_i n e xs ys ht
      split at h
      · rename_i hi
        obtain ⟨us, hus, rfl⟩ := e1.inv_agg
        obtain ⟨us', hus', rfl⟩ := e2.inv_agg
        obtain ⟨i, hi⟩ := Option.isSome_iff_exists.1 hi
        have hc : P.cellsOf e = esOf P e := by simp [Program.cellsOf, esOf, hi]
        rw [run_equalIn_array w D _ _ ht hi, hc]
        generalize List.range n = l at h
        induction l generalizing b with
        | nil => cases h; simp [Op.eqItems]
        | cons j l ihl =>
          obtain ⟨p, q, h1, h2, rfl⟩ := allB_cons h
          have k2 := ihl h2
          simp only at h1
          split at h1
          · rename_i a b hp1 hp2
            obtain ⟨ua, r1, v1⟩ := partV_rel hp1 hus
            obtain ⟨ub, r2, v2⟩ := partV_rel hp2 hus'
            have k1 := ih h1 v1 v2 D (by omega)
            simp only [Op.eqItems, Sem.run_bind, r1, r2, k1, Result.andThen_ok]
            cases p
            · simp
            · simpa using k2
          · cases h1
      · cases h
    · cases h

theorem eqV_rel {P : Program} {t : TypeId} {u v : V} {b : Bool} (hb : eqV P t u v = some b) {ρ : Map} {x y : Operand} {ux uy : Value} (e1 : VR ρ u ux) (e2 : VR ρ v uy) :
    (∀ op, (eqGuard op t x y ux uy).run P w = .ok () w) ∧ (Op.equal t ux uy).run P w = .ok b w ∧
    binOp .eql t ux uy = (do pure (.bool (← Op.equal t ux uy))) ∧ binOp .neq t ux uy = (do pure (.bool (!(← Op.equal t ux uy)))) := by
  unfold eqV at hb
  split at hb
  · rename_i p q ht
    cases hb
    rw [e1.inv_bool, e2.inv_bool]
    exact ⟨fun op => by cases op <;> simp [eqGuard], equal_of fun d => by simp [Op.equalIn, run_underlying ht], rfl, rfl⟩
  · rename_i _ p ht
    cases hb
    obtain ⟨A, hA, hn⟩ := e1.inv_ptrany
    rw [hA, e2.inv_ptrN, ← hn]
    refine ⟨fun op => by cases op <;> simp [eqGuard], equal_of fun d => ?_, rfl, rfl⟩
    cases A <;> simp [Op.equalIn, run_underlying ht]
  · rename_i p _ ht
    cases hb
    obtain ⟨A, hA, hn⟩ := e2.inv_ptrany
    rw [hA, e1.inv_ptrN, ← hn]
    refine ⟨fun op => by cases op <;> simp [eqGuard], equal_of fun d => ?_, rfl, rfl⟩
    cases A <;> simp [Op.equalIn, run_underlying ht]
  · rename_i _ es p n es' n' ht
    cases hb
    obtain ⟨A, cap, hA, _, hn⟩ := e1.inv_slany
    obtain ⟨_, h2⟩ := e2.inv_slN
    rw [hA, h2, ← hn]
    refine ⟨fun op => by cases op <;> simp [eqGuard], equal_of fun d => ?_, rfl, rfl⟩
    cases A <;> simp [Op.equalIn, run_underlying ht]
  · rename_i es n es' p n' _ ht
    cases hb
    obtain ⟨A, cap, hA, _, hn⟩ := e2.inv_slany
    obtain ⟨_, h2⟩ := e1.inv_slN
    rw [hA, h2, ← hn]
    refine ⟨fun op => by cases op <;> simp [eqGuard], equal_of fun d => ?_, rfl, rfl⟩
    cases A <;> simp [Op.equalIn, run_underlying ht]
  · rename_i ht
    cases hb
    rw [e1.inv_nilFn, e2.inv_nilFn]
    exact ⟨fun op => by cases op <;> simp [eqGuard], equal_of fun d => by simp [Op.equalIn, run_underlying ht], rfl, rfl⟩
  · rename_i ht
    cases hb
    obtain ⟨us, _, h1⟩ := e1.inv_fn
    rw [h1, e2.inv_nilFn]
    exact ⟨fun op => by cases op <;> simp [eqGuard], equal_of fun d => by simp [Op.equalIn, run_underlying ht], rfl, rfl⟩
  · rename_i ht
    cases hb
    obtain ⟨L, _, _, h1⟩ := e1.inv_yld
    rw [h1, e2.inv_nilFn]
    exact ⟨fun op => by cases op <;> simp [eqGuard], equal_of fun d => by simp [Op.equalIn, run_underlying ht], rfl, rfl⟩
  · rename_i fs xs ys ht
    split at hb
    · cases hb
    · rename_i hg
      have hg' : P.eqGuardType P.depth t = false := by simpa using hg
      have hq := eqD_rel w 20 hb e1 e2 10000 (by omega)
      obtain ⟨us, hus, rfl⟩ := e1.inv_agg
      obtain ⟨us', hus', rfl⟩ := e2.inv_agg
      exact ⟨fun op => by cases op <;> simp [eqGuard, hg'], hq, rfl, rfl⟩
  · rename_i n e xs ys ht
    split at hb
    · cases hb
    · rename_i hg
      have hg' : P.eqGuardType P.depth t = false := by simpa using hg
      have hq := eqD_rel w 20 hb e1 e2 10000 (by omega)
      obtain ⟨us, hus, rfl⟩ := e1.inv_agg
      obtain ⟨us', hus', rfl⟩ := e2.inv_agg
      exact ⟨fun op => by cases op <;> simp [eqGuard, hg'], hq, rfl, rfl⟩
  · cases hb

theorem did_binOp {op : BinOp} {t t' : TypeId} {x y : Operand} (ho : o.op = .binOp op t x y t') (h : opX c call o st H K = some r) (hr : Rel ρ H w) (hs : SR ρ st a.tmps) : Did c o a K r ρ H w := by
  unfold opX at h
  rw [ho] at h
  simp only at h
  split at h
  · rename_i u v h1 h2
    split at h
    · rename_i z hz
      have e1 := ev_rel hs h1
      have e2 := ev_rel hs h2
      unfold binV at hz
      split at hz
      · rename_i k p k' q
        have e1 := e1.inv_int
        have e2 := e2.inv_int
        by_cases hsh : isShift op = true
        · rw [if_pos hsh] at hz
          unfold shiftI at hz
          by_cases hq : q < 0
          · rw [if_pos hq] at hz; cases hz
          · rw [if_neg hq] at hz
            cases op <;> simp [isShift] at hsh <;> simp only at hz <;> cases hz
            · exact Did.still hr (by simp [execOp, ho, e1, e2, eqGuard, binOp, Op.shift, hq]) (.int _ _) h
            · exact Did.still hr (by simp [execOp, ho, e1, e2, eqGuard, binOp, Op.shift, hq]) (.int _ _) h
        · rw [if_neg hsh] at hz
          by_cases hk : k = k'
          · rw [if_pos hk] at hz
            subst hk
            cases op <;> simp [isShift] at hsh <;> simp only [binI] at hz
            case quo =>
              by_cases hq : q = 0
              · rw [if_pos hq] at hz; cases hz
              · rw [if_neg hq] at hz; cases hz
                exact Did.still hr (by simp [execOp, ho, e1, e2, eqGuard, binOp, Op.intDiv, hq]) (.int _ _) h
            case rem =>
              by_cases hq : q = 0
              · rw [if_pos hq] at hz; cases hz
              · rw [if_neg hq] at hz; cases hz
                exact Did.still hr (by simp [execOp, ho, e1, e2, eqGuard, binOp, Op.intDiv, hq]) (.int _ _) h
            all_goals
              cases hz
              refine Did.still hr ?_ (by constructor) h
              simp [execOp, ho, e1, e2, eqGuard, binOp, Op.intArith, Op.intBits, Op.intCmp, bits]
          · rw [if_neg hk] at hz; cases hz
      · rename_i p q
        have e1 := e1.inv_str
        have e2 := e2.inv_str
        unfold binS at hz
        cases op <;> simp only at hz
        case add =>
          by_cases hq : ((p.size + q.size : Nat) : Int) > IntKind.i64.max
          · rw [if_pos hq] at hz; cases hz
          · rw [if_neg hq] at hz; cases hz
            refine Did.still hr ?_ (by constructor) h
            simp only [IntKind.max_i64] at hq
            simp [execOp, ho, e1, e2, eqGuard, binOp, Op.stringOp]
            omega
        all_goals first
          | (cases hz; done)
          | (cases hz
             refine Did.still hr ?_ (by constructor) h
             simp [execOp, ho, e1, e2, eqGuard, binOp, Op.stringOp])
      · rename_i hni hns
        split at hz
        · split at hz
          · rename_i b hb
            cases hz
            obtain ⟨k1, k2, k3, _⟩ := eqV_rel (w := w) (x := x) (y := y) hb e1 e2
            exact Did.still hr (by simp [execOp, ho, k1, k2, k3, Result.andThen]) (.bool _) h
          · cases hz
        · split at hz
          · rename_i b hb
            cases hz
            obtain ⟨k1, k2, _, k3⟩ := eqV_rel (w := w) (x := x) (y := y) hb e1 e2
            exact Did.still hr (by simp [execOp, ho, k1, k2, k3, Result.andThen]) (.bool _) h
          · cases hz
        · cases hz
    · cases h
  · cases h

end
end Go.Vm
