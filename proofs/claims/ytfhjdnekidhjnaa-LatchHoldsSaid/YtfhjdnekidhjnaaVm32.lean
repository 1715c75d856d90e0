/-
  The machine that asks is sound.
-/
import Derived.Test.YtfhjdnekidhjnaaVm31
set_option linter.unusedVariables false
set_option linter.unusedSimpArgs false
namespace Go.Vm

open Classical in
noncomputable def callT (T : List CT) : CallF := fun fv args H =>
  match T.find? (fun t => t.H.length == H.length) with
  | some t => if fv = t.fv ∧ args = t.args ∧ H = t.H then some (t.v, t.H') else none
  | none => none

def Good (c : Cfg) (T : List CT) : Prop := ∀ t ∈ T, OK c t.fv t.args t.H t.v t.H'

theorem find_at : ∀ {T : List CT}, dupFree T = true → ∀ {t : CT}, t ∈ T → T.find? (fun u => u.H.length == t.H.length) = some t
  | [], _, t, ht => by simp at ht
  | u :: T, hd, t, ht => by
    simp only [dupFree, Bool.and_eq_true, List.all_eq_true] at hd
    rcases List.mem_cons.1 ht with rfl | ht
    · simp
    · have h1 := hd.1 t ht
      have h2 : (u.H.length == t.H.length) = false := by
        simp only [bne_iff_ne, ne_eq] at h1
        simp only [beq_eq_false_iff_ne, ne_eq]
        exact fun e => h1 e.symm
      rw [List.find?_cons, h2]
      exact find_at hd.2 ht

theorem callT_at {T : List CT} (hd : dupFree T = true) {t : CT} (ht : t ∈ T) : callT T t.fv t.args t.H = some (t.v, t.H') := by
  unfold callT
  rw [find_at hd ht]
  simp

theorem callT_ok {c : Cfg} {T : List CT} (h : Good c T) (fv : V) (args : List V) (H : Heap) (v : V) (H' : Heap) (hc : callT T fv args H = some (v, H')) : OK c fv args H v H' := by
  unfold callT at hc
  split at hc
  · rename_i t ht
    split at hc
    · rename_i he
      obtain ⟨rfl, rfl, rfl⟩ := he
      cases hc
      exact h t (List.mem_of_find?_eq_some ht)
    · cases hc
  · cases hc

theorem opX_noCall_le {c : Cfg} {call : CallF} {o : Oper} {st : St} {H : Heap} {r : V × Heap} (h : opX c noCall o st H ret2 = some r) : opX c call o st H ret2 = some r := by
  cases hi : isCall o with
  | false => rw [← opX_noCall (call := noCall) hi]; exact h
  | true =>
    exfalso
    unfold isCall at hi
    split at hi
    · rename_i cl ho
      cases hcl : cl.callee with
      | value f =>
        unfold opX at h
        simp only [ho, hcl] at h
        split at h
        · simp [noCall] at h
        · cases h
      | builtin b => simp [hcl] at hi
      | invoke x m => simp [hcl] at hi
    · cases hi

theorem opQ_ok {c : Cfg} {o : Oper} {st : St} {H : Heap} {K : V → Heap → Prop} (h : opQ c o st H K) : ∃ v H', opX c noCall o st H ret2 = some (v, H') ∧ K v H' := by
  unfold opQ at h
  split at h
  · rename_i t x y ho
    split at h
    · rename_i es p n k i e h1 h2 h3
      split at h
      · rename_i hc
        refine ⟨_, _, ?_, h.2⟩
        unfold opX
        simp only [ho, h1, h2, h3, if_pos hc, if_pos h.1, Option.bind_some]
      · exact h.elim
    · rename_i p k i n e h1 h2 h3
      refine ⟨_, _, ?_, h.2⟩
      unfold opX
      simp only [ho, h1, h2, h3, if_pos h.1, Option.bind_some]
    · exact h.elim
  · rename_i t x lo hi mx ho
    split at h
    · rename_i es p n e i h1 h2 h3
      split at h
      · rename_i j h4
        split at h
        · rename_i hc
          refine ⟨_, _, ?_, h.2⟩
          unfold opX
          simp only [ho, h1, h2, h3, h4, if_pos hc, if_pos h.1]
        · exact h.elim
      · exact h.elim
    · rename_i es p n e i m h1 h2 h3
      split at h
      · rename_i y j km mm h5 h4
        split at h
        · rename_i hc
          refine ⟨_, _, ?_, h.2⟩
          unfold opX
          simp only [ho, h1, h2, h3, h4, h5, if_pos hc, if_pos h.1]
        · exact h.elim
      · exact h.elim
    · rename_i p n e i h1 h2 h3
      split at h
      · rename_i j h4
        split at h
        · rename_i hc
          refine ⟨_, _, ?_, h.2⟩
          unfold opX
          simp only [ho, h1, h2, h3, h4, if_pos hc, if_pos h.1]
        · exact h.elim
      · exact h.elim
    · rename_i s i h1 h2 h3
      split at h
      · rename_i j h4
        refine ⟨_, _, ?_, h.2⟩
        unfold opX
        simp only [ho, h1, h2, h3, h4, if_pos h.1]
      · exact h.elim
    · exact h.elim
  · rename_i t x y ho
    split at h
    · rename_i p v h1 h2
      split at h
      · rename_i hc
        split at h
        · rename_i cs hb
          refine ⟨_, _, ?_, h.2⟩
          unfold opX
          simp only [ho, h1, h2, if_pos hc, Option.bind_some]
          unfold putH
          simp only [hb, if_pos h.1, Option.bind_some]
        · exact h.elim
      · exact h.elim
    · exact h.elim
  · rename_i op t x y t' ho
    split at h
    · rename_i k a k' b h1 h2
      obtain ⟨rfl, hb, h⟩ := h
      refine ⟨_, _, ?_, h⟩
      unfold opX
      simp only [ho, h1, h2]
      simp [binV, isShift, binI, hb]
    · rename_i k a k' b h1 h2
      obtain ⟨rfl, hb, h⟩ := h
      refine ⟨_, _, ?_, h⟩
      unfold opX
      simp only [ho, h1, h2]
      simp [binV, isShift, binI, hb]
    · rename_i k a k' b h1 h2
      obtain ⟨hb, h⟩ := h
      refine ⟨_, _, ?_, h⟩
      unfold opX
      simp only [ho, h1, h2]
      have : ¬ b < 0 := by omega
      simp [binV, isShift, shiftI, this]
    · rename_i k a k' b h1 h2
      obtain ⟨hb, h⟩ := h
      refine ⟨_, _, ?_, h⟩
      unfold opX
      simp only [ho, h1, h2]
      have : ¬ b < 0 := by omega
      simp [binV, isShift, shiftI, this]
    · rename_i a b h1 h2
      refine ⟨_, _, ?_, h.2⟩
      unfold opX
      simp only [ho, h1, h2]
      have : ¬ ((a.size + b.size : Nat) : Int) > IntKind.i64.max := by omega
      simp only [binV, binS, if_neg this]
    · exact h.elim
  · rename_i t x y ho
    split at h
    · rename_i e k n k' m h1 h2 h3
      split at h
      · rename_i z hz
        split at h
        · rename_i hsm
          refine ⟨_, _, ?_, h.2⟩
          unfold opX
          simp only [ho, h1, h2, h3, hz]
          rw [if_pos ⟨h.1.1, h.1.2.1, h.1.2.2.1, h.1.2.2.2.1, h.1.2.2.2.2, hsm⟩]
        · exact h.elim
      · exact h.elim
    · exact h.elim
  · exact h.elim

abbrev Sub (acc acc' : List CT) : Prop := ∀ t ∈ acc, t ∈ acc'

theorem opP_ok {c : Cfg} {o : Oper} {st : St} {H : Heap} {acc : List CT} {os : List Ans} {K : KO} (hg : Good c acc) (h : opP c o st H acc os K) :
    ∃ v H' acc' os', K v H' acc' os' ∧ Good c acc' ∧ Sub acc acc' ∧ ∀ T, Sub acc' T → dupFree T = true → opX c (callT T) o st H ret2 = some (v, H') := by
  have plain : ∀ {v H' os'}, opX c noCall o st H ret2 = some (v, H') → K v H' acc os' →
      ∃ v H' acc' os', K v H' acc' os' ∧ Good c acc' ∧ Sub acc acc' ∧ ∀ T, Sub acc' T → dupFree T = true → opX c (callT T) o st H ret2 = some (v, H') :=
    fun h1 h2 => ⟨_, _, acc, _, h2, hg, fun _ ht => ht, fun T _ _ => opX_noCall_le h1⟩
  unfold opP at h
  split at h
  · split at h
    · rename_i r hr
      exact plain hr h
    · exact h.elim
  · obtain ⟨v, H', h1, h2⟩ := opQ_ok h
    exact plain h1 h2
  · split at h
    · rename_i x a b ho
      split at h
      · rename_i t p q h1 h2 h3
        obtain ⟨rfl, h⟩ := h
        refine plain ?_ h
        unfold opX
        simp only [ho, h1, h2, h3]
        cases p <;> cases q <;> rfl
      · exact h.elim
    · exact h.elim
  · split at h
    · rename_i x a b ho
      split at h
      · rename_i t p q h1 h2 h3
        obtain ⟨rfl, h⟩ := h
        refine plain ?_ h
        unfold opX
        simp only [ho, h1, h2, h3]
        cases p <;> cases q <;> rfl
      · exact h.elim
    · exact h.elim
  · split at h
    · rename_i t x ho
      split at h
      · rename_i a h1
        refine plain ?_ h.2
        unfold opX
        simp only [ho, h1, Option.bind_some]
        rw [loadT_split, h.1]
        rfl
      · exact h.elim
    · exact plain h.1 h.2
  · split at h
    · rename_i u H' os' _ cl ho
      split at h
      · rename_i f hf
        split at h
        · rename_i fv args h1 h2
          obtain ⟨hok, h⟩ := h
          split at h
          · rename_i u' hu
            refine ⟨u', H', _, _, h, ?_, fun t ht => List.mem_cons_of_mem _ ht, fun T hT hd => ?_⟩
            · intro t ht
              rcases List.mem_cons.1 ht with rfl | ht
              · exact hok
              · exact hg t ht
            · have := callT_at hd (hT _ List.mem_cons_self)
              simp only at this
              unfold opX
              simp only [ho, hf, h1, h2, this, Option.bind_some]
              rw [callView_split, hu]
              rfl
          · exact h.elim
        · exact h.elim
      · exact plain h.1 h.2
    · exact plain h.1 h.2
  · exact h.elim

theorem opsP_ok {c : Cfg} {ops : Array Oper} : ∀ {is : List Nat} {st : St} {H : Heap} {acc : List CT} {os : List Ans} {K : St → Heap → List CT → List Ans → Prop}, Good c acc → opsP c ops is st H acc os K →
    ∃ st' H' acc' os', K st' H' acc' os' ∧ Good c acc' ∧ Sub acc acc' ∧ ∀ T, Sub acc' T → dupFree T = true → opsX c (callT T) ops is st H (fun st H => some (st, H)) = some (st', H')
  | [], st, H, acc, os, K, hg, h => ⟨st, H, acc, os, h, hg, fun _ ht => ht, fun _ _ _ => rfl⟩
  | i :: is, st, H, acc, os, K, hg, h => by
    unfold opsP at h
    split at h
    · exact h.elim
    · rename_i o ho
      split at h
      · rename_i hgd
        obtain ⟨v, H1, acc1, os1, k1, k2, k3, k4⟩ := opP_ok hg h
        obtain ⟨st', H', acc', os', k5, k6, k7, k8⟩ := opsP_ok k2 k1
        refine ⟨st', H', acc', os', k5, k6, fun t ht => k7 t (k3 t ht), fun T hT hd => ?_⟩
        unfold opsX
        simp only [ho, hgd]
        rw [opX_split, k4 T (fun t ht => hT t (k7 t ht)) hd]
        exact k8 T hT hd
      · rename_i j want hgd
        split at h
        · exact h.elim
        · rename_i g hj
          split at h
          · rename_i b hb
            have yes : ∀ {os}, b = want → (opP c o (st.set g (.bool want)) H acc os fun v H acc os => opsP c ops is (putT (st.set g (.bool want)) o.dst v) H acc os K) →
                ∃ st' H' acc' os', K st' H' acc' os' ∧ Good c acc' ∧ Sub acc acc' ∧ ∀ T, Sub acc' T → dupFree T = true → opsX c (callT T) ops (i :: is) st H (fun st H => some (st, H)) = some (st', H') := by
              intro os hbw h
              obtain ⟨v, H1, acc1, os1, k1, k2, k3, k4⟩ := opP_ok hg h
              obtain ⟨st', H', acc', os', k5, k6, k7, k8⟩ := opsP_ok k2 k1
              refine ⟨st', H', acc', os', k5, k6, fun t ht => k7 t (k3 t ht), fun T hT hd => ?_⟩
              unfold opsX
              simp only [ho, hgd, hj, hb, if_pos hbw]
              rw [opX_split, k4 T (fun t ht => hT t (k7 t ht)) hd]
              exact k8 T hT hd
            have no : ∀ {os}, b = (!want) → (opsP c ops is (putT (st.set g (.bool (!want))) o.dst (.tup [])) H acc os K) →
                ∃ st' H' acc' os', K st' H' acc' os' ∧ Good c acc' ∧ Sub acc acc' ∧ ∀ T, Sub acc' T → dupFree T = true → opsX c (callT T) ops (i :: is) st H (fun st H => some (st, H)) = some (st', H') := by
              intro os hbw h
              obtain ⟨st', H', acc', os', k5, k6, k7, k8⟩ := opsP_ok hg h
              refine ⟨st', H', acc', os', k5, k6, k7, fun T hT hd => ?_⟩
              unfold opsX
              simp only [ho, hgd, hj, hb]
              rw [if_neg (by rw [hbw]; cases want <;> simp)]
              exact k8 T hT hd
            split at h
            · split at h
              · rename_i hbw; exact yes (by simpa using hbw) h
              · rename_i hbw; exact no (beq_want hbw) h
            · exact yes h.1 h.2
            · exact no h.1 h.2
            · exact h.elim
          · rename_i hb
            obtain ⟨st', H', acc', os', k5, k6, k7, k8⟩ := opsP_ok hg h
            refine ⟨st', H', acc', os', k5, k6, k7, fun T hT hd => ?_⟩
            unfold opsX
            simp only [ho, hgd, hj, hb]
            exact k8 T hT hd
          · exact h.elim

theorem opAP_ok {c : Cfg} {s : Nat} {o : Oper} {st : St} {H : Heap} {acc : List CT} {os : List Ans} {K : KO} (hg : Good c acc) (h : opAP c s o st H acc os K) :
    ∃ v H' acc' os', K v H' acc' os' ∧ Good c acc' ∧ Sub acc acc' ∧ ∀ T, Sub acc' T → dupFree T = true → opA c (callT T) s o st H ret2 = some (v, H') := by
  unfold opAP at h
  split at h
  · rename_i hA
    split at h
    · rename_i cs mk hn
      split at h
      · exact ⟨_, _, acc, _, h, hg, fun _ ht => ht, fun T _ _ => by unfold opA; rw [if_pos hA]; simp only [hn]⟩
      · exact h.elim
    · exact h.elim
  · rename_i hA
    obtain ⟨v, H', acc', os', k1, k2, k3, k4⟩ := opP_ok hg h
    exact ⟨v, H', acc', os', k1, k2, k3, fun T hT hd => by unfold opA; rw [if_neg hA]; exact k4 T hT hd⟩

theorem opsDP_ok {c : Cfg} {ops : Array Oper} : ∀ {is : List Nat} {s : Nat} {st : St} {H : Heap} {tr : List Tr} {acc : List CT} {os : List Ans} {K : St → Heap → List Tr → List CT → List Ans → Prop}, Good c acc → opsDP c ops is s st H tr acc os K →
    ∃ st' H' tr' acc' os', K st' H' tr' acc' os' ∧ Good c acc' ∧ Sub acc acc' ∧ ∀ T, Sub acc' T → dupFree T = true → opsD c (callT T) ops is s st H tr (fun st H tr => some (st, H, tr)) = some (st', H', tr')
  | [], s, st, H, tr, acc, os, K, hg, h => ⟨st, H, tr, acc, os, h, hg, fun _ ht => ht, fun _ _ _ => rfl⟩
  | i :: is, s, st, H, tr, acc, os, K, hg, h => by
    unfold opsDP at h
    split at h
    · exact h.elim
    · rename_i o ho
      split at h
      · rename_i hgd
        obtain ⟨v, H1, acc1, os1, k1, k2, k3, k4⟩ := opAP_ok hg h
        obtain ⟨st', H', tr', acc', os', k5, k6, k7, k8⟩ := opsDP_ok k2 k1
        refine ⟨st', H', tr', acc', os', k5, k6, fun t ht => k7 t (k3 t ht), fun T hT hd => ?_⟩
        unfold opsD
        simp only [ho, hgd]
        rw [opA_split, k4 T (fun t ht => hT t (k7 t ht)) hd]
        exact k8 T hT hd
      · rename_i j want hgd
        split at h
        · exact h.elim
        · rename_i g hj
          split at h
          · rename_i b hb
            have yes : ∀ {os}, b = want → (opAP c s o (st.set g (.bool want)) H acc os fun v H' acc os => opsDP c ops is (slot' s o) (putT (st.set g (.bool want)) o.dst v) H' (tr ++ [⟨v, H, addrOf o (st.set g (.bool want)), s⟩]) acc os K) →
                ∃ st' H' tr' acc' os', K st' H' tr' acc' os' ∧ Good c acc' ∧ Sub acc acc' ∧ ∀ T, Sub acc' T → dupFree T = true → opsD c (callT T) ops (i :: is) s st H tr (fun st H tr => some (st, H, tr)) = some (st', H', tr') := by
              intro os hbw h
              obtain ⟨v, H1, acc1, os1, k1, k2, k3, k4⟩ := opAP_ok hg h
              obtain ⟨st', H', tr', acc', os', k5, k6, k7, k8⟩ := opsDP_ok k2 k1
              refine ⟨st', H', tr', acc', os', k5, k6, fun t ht => k7 t (k3 t ht), fun T hT hd => ?_⟩
              unfold opsD
              simp only [ho, hgd, hj, hb, if_pos hbw]
              rw [opA_split, k4 T (fun t ht => hT t (k7 t ht)) hd]
              exact k8 T hT hd
            have no : ∀ {os}, b = (!want) → (opsDP c ops is (slot' s o) (putT (st.set g (.bool (!want))) o.dst (.tup [])) H (tr ++ [⟨.tup [], H, none, s⟩]) acc os K) →
                ∃ st' H' tr' acc' os', K st' H' tr' acc' os' ∧ Good c acc' ∧ Sub acc acc' ∧ ∀ T, Sub acc' T → dupFree T = true → opsD c (callT T) ops (i :: is) s st H tr (fun st H tr => some (st, H, tr)) = some (st', H', tr') := by
              intro os hbw h
              obtain ⟨st', H', tr', acc', os', k5, k6, k7, k8⟩ := opsDP_ok hg h
              refine ⟨st', H', tr', acc', os', k5, k6, k7, fun T hT hd => ?_⟩
              unfold opsD
              simp only [ho, hgd, hj, hb]
              rw [if_neg (by rw [hbw]; cases want <;> simp)]
              exact k8 T hT hd
            split at h
            · split at h
              · rename_i hbw; exact yes (by simpa using hbw) h
              · rename_i hbw; exact no (beq_want hbw) h
            · exact yes h.1 h.2
            · exact no h.1 h.2
            · exact h.elim
          · rename_i hb
            obtain ⟨st', H', tr', acc', os', k5, k6, k7, k8⟩ := opsDP_ok hg h
            refine ⟨st', H', tr', acc', os', k5, k6, k7, fun T hT hd => ?_⟩
            unfold opsD
            simp only [ho, hgd, hj, hb]
            exact k8 T hT hd
          · exact h.elim

theorem drawP_ok {c : Cfg} {ops : Array Oper} {st : St} {H : Heap} {os : List Ans} {K : St → Heap → List Ans → Prop} (h : drawP c ops st H os K) :
    ∃ T st' H' os', Good c T ∧ drawX c (callT T) ops st H (fun st H => some (st, H)) = some (st', H') ∧ K st' H' os' := by
  unfold drawP at h
  split at h
  · rename_i hd
    obtain ⟨st', H', tr', acc', os', ⟨k1, k2, k3⟩, k4, k5, k6⟩ := opsDP_ok (fun t ht => by simp at ht) h
    refine ⟨acc', st', H', os', k4, ?_, k3⟩
    unfold drawX
    rw [if_pos hd]
    have k7 := k6 acc' (fun _ ht => ht) k1
    have := @opsD_then (St × Heap) _ c (callT acc') ops (fun x => if chkAll c.P ops (masksOf ops.toList []) (ordOf c.P ops) (H.length + numA c.P ops) x.2.2 x.2.1 ops.size ops.size then some (x.1, x.2.1) else none) (ordOf c.P ops) H.length st (H ++ List.replicate (numA c.P ops) .dead) [] (fun st H tr => some (st, H, tr))
    rw [k7] at this
    simp only [Option.bind_some, k2, if_true] at this
    exact this.symm
  · exact h.elim

theorem codeP_ok {c : Cfg} (hm : c.P.follows .mixedOrders = true) {n : Nat} {rd : Option Nat} {F : Fence} (hF : FW F) {B m : Nat} : ∀ (code : Code) {st : St} {H : Heap} {os : List Ans} {K : KC} {ρ : Map} {w : World} {a : Act} {Q : Exit → Act → World → Prop},
    codeP c n rd code st H os K → Rel ρ H w → SR ρ st a.tmps → Marks B ρ H w a.defers → RdOK F ρ rd → B ≤ w.heap.size → (∀ e st' H' os', K e st' H' os' → Ends B ρ H w e st' H' Q) → code.wpIn F m c.P Q a w := by
  intro code
  induction code with
  | skip =>
    intro st H os K ρ w a Q h hr hs hmk hrd hB hQ
    exact wpIn_skip (hQ _ _ _ _ h ρ w a hr hs hmk (Step.refl _ _ _))
  | region id ops draw =>
    intro st H os K ρ w a Q h hr hs hmk hrd hB hQ
    unfold codeP at h
    cases draw with
    | true =>
      simp only [if_true] at h
      obtain ⟨T, st', H', os', hT, hX, hK⟩ := drawP_ok h
      refine draws_ok hm (callT T) F hF.ok (hF.call (callT_ok hT)) _ _ m id ops st H _ ρ w a Q hX hr hs ?_
      intro st2 H2 ρ2 w2 a2 he h1 h2 h3 h4
      cases he
      exact hQ _ _ _ _ hK ρ2 w2 a2 h1 h2 (by rw [h3]; exact hmk.step h4) h4
    | false =>
      simp only [Bool.false_eq_true, if_false] at h
      obtain ⟨st', H', acc, os', ⟨hd, hK⟩, hT, _, hX⟩ := opsP_ok (fun t ht => by simp at ht) h
      refine wpIn_region (ops_sound hF.ok (hF.call (callT_ok hT)) _ (hX acc (fun _ ht => ht) hd) hr hs ?_)
      intro st2 H2 ρ2 w2 a2 he h1 h2 h3 h4
      cases he
      exact hQ _ _ _ _ hK ρ2 w2 a2 h1 h2 (by rw [h3]; exact hmk.step h4) h4
  | seq x y ihx ihy =>
    intro st H os K ρ w a Q h hr hs hmk hrd hB hQ
    unfold codeP at h
    split at h
    · exact h.1 F hF B m ρ w a Q hr hs hmk hrd hB (hQ _ _ _ _ h.2)
    · refine wpIn_seq (ihx h hr hs hmk hrd hB ?_)
      intro e st1 H1 os1 hk ρ1 w1 a1 h2 h3 h4 h5
      cases e with
      | normal => exact ihy hk h2 h3 h4 (hrd.mono h5.le) (Nat.le_trans hB h5.size) fun e st2 H2 os2 hk2 ρ2 w2 a2 j2 j3 j4 j5 => hQ e st2 H2 os2 hk2 ρ2 w2 a2 j2 j3 j4 (h5.trans j5)
      | exit id => exact hQ (.exit id) st1 H1 os1 hk ρ1 w1 a1 h2 h3 h4 h5
      | ret => exact hQ .ret st1 H1 os1 hk ρ1 w1 a1 h2 h3 h4 h5
  | cond x y z ihy ihz =>
    intro st H os K ρ w a Q h hr hs hmk hrd hB hQ
    unfold codeP at h
    split at h
    · rename_i t hx
      have e := (ev_rel hs hx).inv_bool
      refine wpIn_cond e ?_
      split at h
      · split at h
        · exact ihy h hr hs hmk hrd hB hQ
        · exact ihz h hr hs hmk hrd hB hQ
      · obtain ⟨rfl, h⟩ := h
        exact ihy h hr hs hmk hrd hB hQ
      · obtain ⟨rfl, h⟩ := h
        exact ihz h hr hs hmk hrd hB hQ
      · exact h.elim
    · exact h.elim
  | block id x ih =>
    intro st H os K ρ w a Q h hr hs hmk hrd hB hQ
    unfold codeP at h
    refine wpIn_block (ih h hr hs hmk hrd hB ?_)
    intro e st1 H1 os1 hk ρ1 w1 a1 h2 h3 h4 h5
    cases e with
    | normal => exact hQ .normal st1 H1 os1 hk ρ1 w1 a1 h2 h3 h4 h5
    | exit i =>
      simp only [blockP] at hk
      show if i = id then Q .normal a1 w1 else Q (.exit i) a1 w1
      by_cases hi : i = id
      · rw [if_pos hi] at hk ⊢
        exact hQ .normal st1 H1 os1 hk ρ1 w1 a1 h2 h3 h4 h5
      · rw [if_neg hi] at hk ⊢
        exact hQ (.exit i) st1 H1 os1 hk ρ1 w1 a1 h2 h3 h4 h5
    | ret => exact hQ .ret st1 H1 os1 hk ρ1 w1 a1 h2 h3 h4 h5
  | loop x ih =>
    intro st H os K ρ w a Q h hr hs hmk hrd hB hQ
    unfold codeP at h
    split at h
    · exact wpIn_of_LW (h.1 F hF B m ρ w a Q hr hs hmk hrd hB (hQ _ _ _ _ h.2))
    · refine wpIn_of_LW ?_
      have key : ∀ (j : Nat) {st : St} {H : Heap} {os : List Ans} {ρ : Map} {w : World} {a : Act}, iterP (codeP c n rd x) j st H os K → Rel ρ H w → SR ρ st a.tmps → Marks B ρ H w a.defers → RdOK F ρ rd → B ≤ w.heap.size →
          (∀ e st' H' os', K e st' H' os' → Ends B ρ H w e st' H' Q) → LW F m c.P x Q a w := by
        intro j
        induction j with
        | zero => intro st H os ρ w a h; exact h.elim
        | succ j ihj =>
          intro st H os ρ w a h hr hs hmk hrd hB hQ
          unfold iterP at h
          refine LW_of (ih h hr hs hmk hrd hB ?_)
          intro e st1 H1 os1 hk ρ1 w1 a1 h2 h3 h4 h5
          cases e with
          | normal => exact ihj hk h2 h3 h4 (hrd.mono h5.le) (Nat.le_trans hB h5.size) fun e st2 H2 os2 hk2 ρ2 w2 a2 j2 j3 j4 j5 => hQ e st2 H2 os2 hk2 ρ2 w2 a2 j2 j3 j4 (h5.trans j5)
          | exit id => exact hQ (.exit id) st1 H1 os1 hk ρ1 w1 a1 h2 h3 h4 h5
          | ret => exact hQ .ret st1 H1 os1 hk ρ1 w1 a1 h2 h3 h4 h5
      exact key n h hr hs hmk hrd hB hQ
    · exact h.elim
  | rangeFunc x ps as bd _ _ =>
    intro st H os K ρ w a Q h hr hs hmk hrd hB hQ
    unfold codeP at h
    split at h
    · rename_i g cs hx
      split at h
      · rename_i v H2 os'
        obtain ⟨hl, hok, h⟩ := h
        let t : CT := ⟨.fn g cs, [.yld H.length], H ++ [.loop { fid := 0, state := .ready, pending := none, st := st, params := ps, assign := as, body := bd }], v, H2⟩
        have hT : Good c [t] := fun u hu => by rw [List.mem_singleton.1 hu]; exact hok
        have hcall : callT [t] (.fn g cs) [.yld H.length] (H ++ [.loop { fid := 0, state := .ready, pending := none, st := st, params := ps, assign := as, body := bd }]) = some (v, H2) :=
          callT_at (T := [t]) rfl (t := t) (by simp)
        split at h
        · rename_i l hl2
          obtain ⟨hb, h⟩ := h
          have fin : ∀ e H', (match l.pending with
                | none => some (Ex.normal, st, H2.set H.length .dead)
                | some (.exit id) => some (Ex.exit id, st, H2.set H.length .dead)
                | some .ret => some (Ex.ret, st, H2.set H.length .dead)
                | _ => none) = some (e, st, H') → K e st H' os' → (Code.rangeFunc x ps as bd).wpIn F m c.P Q a w := by
            intro e H' he hK
            have hX : codeX c (callT [t]) 0 0 rd (.rangeFunc x ps as bd) st H ret3 = some (e, st, H') := by
              unfold codeX
              simp only [hx, if_pos hl, hcall, Option.bind_some, hl2, if_neg hb]
              split at he <;> first | (cases he; done) | (rename_i hp; simp only [hp]; exact he)
            refine range_sound hF.ok (hF.call (callT_ok hT)) hX hr hs hmk hrd hB ?_
            intro e2 st2 H3 ρ2 w2 a2 k1 k2 k3 k4 k5
            cases k1
            exact hQ _ _ _ _ hK ρ2 w2 a2 k2 k3 k4 k5
          split at h
          · rename_i hp; exact fin .normal _ (by simp only [hp]) h
          · rename_i id hp; exact fin (.exit id) _ (by simp only [hp]) h
          · rename_i hp; exact fin .ret _ (by simp only [hp]) h
          · exact h.elim
        · exact h.elim
      · exact h.elim
    · exact h.elim
  | scope x ih =>
    intro st H os K ρ w a Q h hr hs hmk hrd hB hQ
    unfold codeP at h
    refine wpIn_scope (ih h hr hs hmk hrd hB ?_)
    intro e st1 H1 os1 hk ρ1 w1 a1 h2 h3 h4 h5
    cases e with
    | normal => exact ⟨fun l hl => (by cases hl), hQ .normal st1 H1 os1 hk ρ1 w1 a1 h2 h3 h4 h5⟩
    | exit i => exact ⟨fun l hl => (by cases hl), hQ (.exit i) st1 H1 os1 hk ρ1 w1 a1 h2 h3 h4 h5⟩
    | ret => exact ⟨fun l hl => (by cases hl), hQ .ret st1 H1 os1 hk ρ1 w1 a1 h2 h3 h4 h5⟩
  | label l =>
    intro st H os K ρ w a Q h hr hs hmk hrd hB hQ
    unfold codeP at h
    exact wpIn_label (hQ .normal st H os h ρ w a hr hs hmk (Step.refl _ _ _))
  | exit id =>
    intro st H os K ρ w a Q h hr hs hmk hrd hB hQ
    exact wpIn_exit (hQ _ _ _ _ h ρ w a hr hs hmk (Step.refl _ _ _))
  | ret =>
    intro st H os K ρ w a Q h hr hs hmk hrd hB hQ
    exact wpIn_ret (hQ _ _ _ _ h ρ w a hr hs hmk (Step.refl _ _ _))
  | _ => intro st H os K ρ w a Q h; exact absurd h (by simp [codeP])

theorem cok_of {c : Cfg} (hm : c.P.follows .mixedOrders = true) {n : Nat} {rd : Option Nat} {code : Code} {st : St} {H : Heap} {os : List Ans} {e : Ex} {st' : St} {H' : Heap}
    (h : codeP c n rd code st H os fun e1 st1 H1 _ => (e1, st1, H1) = (e, st', H')) : COK c rd code st H e st' H' := by
  intro F hF B m ρ w a Q hr hs hmk hrd hB hE
  refine codeP_ok hm hF code h hr hs hmk hrd hB ?_
  intro e1 st1 H1 os1 he
  cases he
  exact hE

theorem lok_of_end {c : Cfg} (hm : c.P.follows .mixedOrders = true) {n : Nat} {rd : Option Nat} {code : Code} {st : St} {H : Heap} {os : List Ans} {e : Ex} {st' : St} {H' : Heap}
    (h : codeP c n rd code st H os fun e1 st1 H1 _ => (e1, st1, H1) = (e, st', H')) (he : isNormal e = false) : LOK c rd code st H e st' H' := LOK.exit (cok_of hm h) he

theorem ok_fn {c : Cfg} (hm : c.P.follows .mixedOrders = true) {n : Nat} {f : FuncId} {cs args : List V} {H : Heap} {os : List Ans} {v : V} {H' : Heap}
    (h : fnP c n f cs args H os fun v1 H1 => (v1, H1) = (v, H')) : OK c (.fn f cs) args H v H' := by
  unfold fnP at h
  split at h
  · exact h.elim
  · rename_i fn hf
    split at h
    · exact h.elim
    · rename_i body hb
      split at h
      · exact h.elim
      · rename_i hname
        intro m ρ w ufv uargs hr hv hargs
        obtain ⟨us, hus, rfl⟩ := hv.inv_fn
        refine .inl ⟨f, us.toArray, fn, rfl, hf, by simpa using hname, by rw [hb]; rfl, ?_⟩
        refine callsIn_of_wp_marks hf hb trivial ?_
        refine codeP_ok hm (.inl rfl) (B := w.heap.size) body h hr ?_ (Marks.nil _ _ _ _) rfl (Nat.le_refl _) ?_
        · have e1 := hargs.append hus
          have e2 := e1.length
          have e3 := e1.append (VRL.replicate (ρ := ρ) (fn.ntmps - (args ++ cs).length) (v := .tup []) (u := Go.undef) (.tup [] [] .nil))
          have e4 : (uargs.toArray ++ us.toArray).size = (args ++ cs).length := by rw [← e2]; simp
          unfold SR
          simp only [Array.toList_append, Array.toList_replicate, e4]
          exact e3
        · intro e st1 H2 os1 hk ρ1 w1 a1 j2 j3 j4 j5
          have fin : (match resX c.P st1 H2 fn.results.toList some with
              | some vs => (oneOf vs, H2) = (v, H')
              | none => False) → LeavesInM Fence.wide m c.P fn a1.tmps (Back ρ H w v H') a1.defers .returning w1 := by
            intro hk
            split at hk
            · rename_i vs hvs
              cases hk
              refine leaves_out j3 ?_ _ w1 j2 j4 j5
              rw [resX_run hvs]
            · exact hk.elim
          cases e with
          | normal => exact fin hk
          | exit id => exact hk.elim
          | ret => exact fin hk

theorem ok_yld {c : Cfg} (hm : c.P.follows .mixedOrders = true) {n : Nat} {l : Nat} {args : List V} {H : Heap} {os : List Ans} {v : V} {H' : Heap}
    (h : yldP c n l args H os fun v1 H1 => (v1, H1) = (v, H')) : OK c (.yld l) args H v H' := by
  unfold yldP at h
  split at h
  · rename_i r hb
    intro m ρ w ufv uargs hr hv hargs
    obtain ⟨L, hL, hLk, rfl⟩ := hv.inv_yld
    split at h
    · rename_i hc
      obtain ⟨L', fn0, tm0, d0, j1, j2, j3, j4⟩ := hr.blk _ _ hb
      rw [hL] at j1; cases j1
      have hul := hargs.length
      have hFr : FW (Fence.wide.inRound L.blk) := .inr ⟨_, rfl⟩
      have hy := run_yield (P := c.P) (args := uargs.toArray) j3 (by simp; omega)
      refine .inr (.inl ⟨L.blk, fn0, _, r.assign, r.body, rfl, hy, roundIn_of_wpIn trivial ?_⟩)
      refine codeP_ok hm hFr (B := w.heap.size) r.assign h hr ?_ (Marks.nil _ _ _ _) ⟨L, hL, rfl⟩ (Nat.le_refl _) ?_
      · have := setParams_rel (ts := r.params.toList) hargs j4
        have e : (r.params.zip uargs.toArray).foldl (fun tmps (x : Tmp × Value) => tmps.setIfInBounds x.1 x.2) tm0 = (r.params.toList.zip uargs).foldl (fun tmps (x : Tmp × Value) => tmps.setIfInBounds x.1 x.2) tm0 := by
          rw [← Array.foldl_toList, Array.toList_zip]
        simp only at *
        rw [show (r.params.zip uargs.toArray).foldl (fun tmps x => match x with | (t, a) => tmps.setIfInBounds t a) tm0 = _ from e]
        exact this
      · intro e st1 H1 os1 q1 ρ1 w1 a1 q2 q3 q4 q5
        cases e with
        | normal =>
          simp only at q1
          split at q1
          · rename_i r1 hb1
            split at q1
            · rename_i hrdy
              obtain ⟨L1, fn1, tm1, d1, i1, i2, i3, i4⟩ := q2.blk _ _ hb1
              have hL1 : L1 = L := by have := q5.le _ _ hL; rw [i1] at this; exact Option.some.inj this
              subst hL1
              have hbr := run_beginRound (P := c.P) i3 hrdy
              have ho1 : Owned H1 l := .inr ⟨_, hb1⟩
              refine ⟨_, hbr, ?_⟩
              generalize hw2 : (w1.putObj L1.blk (.loop { state := .busy, pending := r1.pending, fn := fn1, tmps := tm1, params := r1.params, assign := r1.assign, body := r1.body, defers := d1 })) = w2
              have hk2 : ∀ i, i < w1.heap.size → i ≠ L1.blk → w2.heap[i]? = w1.heap[i]? := fun i _ hi => by rw [← hw2]; exact World.putObj_heap_other hi
              have hlt1 := (Array.getElem?_eq_some_iff.1 i3).1
              have hr2 : Rel ρ1 (H1.set l (.loop { r1 with state := .busy })) w2 := q2.set l L1 _ i1 ho1 hk2 ⟨L1, fn1, tm1, d1, i1, i2, by rw [← hw2]; exact World.putObj_heap_same hlt1, i4⟩
              have hst2 : Step ρ1 H1 w1 ρ1 (H1.set l (.loop { r1 with state := .busy })) w2 := Step.set l L1 _ i1 ho1 hk2 (by rw [← hw2]; simp) (by rw [← hw2]; rfl) (by rw [← hw2]; rfl) (by rw [← hw2]; rfl)
              refine codeP_ok hm hFr (B := w.heap.size) r.body q1 hr2 q3 (q4.step hst2) ⟨L1, i1, rfl⟩ (Nat.le_trans q5.size hst2.size) ?_
              intro e st2 H2 os2 p1 ρ2 w3 a2 p2 p3 p4 p5
              split at p1
              · rename_i r2 hb2
                simp only [Prod.mk.injEq] at p1
                obtain ⟨rfl, rfl⟩ := p1
                obtain ⟨L2, fn2, tm2, d2, m1, m2, m3, m4⟩ := p2.blk _ _ hb2
                have hL2 : L2 = L1 := by have := p5.le _ _ i1; rw [m1] at this; exact Option.some.inj this
                subst hL2
                have ho2 : Owned H2 l := .inr ⟨_, hb2⟩
                have hlt3 := (Array.getElem?_eq_some_iff.1 m3).1
                have done : ∀ jump : Option Code, jump = e.code → ∃ v' w', (Instr.endRound L2.blk jump).run c.P w3 = .ok v' w' ∧ Back ρ H w (.bool (isNormal e)) (H2.set l (.loop { r2 with state := endOf e, pending := e.code })) (.returned v') w' := by
                  rintro jump rfl
                  have hend := run_endRound (P := c.P) e.code m3
                  refine ⟨_, _, hend, ?_⟩
                  generalize hw4 : (w3.putObj L2.blk (.loop { state := if e.code.isNone then .ready else .done, pending := e.code, fn := fn2, tmps := tm2, params := r2.params, assign := r2.assign, body := r2.body, defers := d2 })) = w4
                  have hk4 : ∀ i, i < w3.heap.size → i ≠ L2.blk → w4.heap[i]? = w3.heap[i]? := fun i _ hi => by rw [← hw4]; exact World.putObj_heap_other hi
                  have hstate : (if e.code.isNone then LoopState.ready else .done) = endOf e := by cases e <;> rfl
                  have hbool : e.code.isNone = isNormal e := by cases e <;> rfl
                  have hr4 : Rel ρ2 (H2.set l (.loop { r2 with state := endOf e, pending := e.code })) w4 := p2.set l L2 _ m1 ho2 hk4 ⟨L2, fn2, tm2, d2, m1, m2, by rw [← hw4, hstate]; exact World.putObj_heap_same hlt3, m4⟩
                  have hst4 : Step ρ2 H2 w3 ρ2 (H2.set l (.loop { r2 with state := endOf e, pending := e.code })) w4 := Step.set l L2 _ m1 ho2 hk4 (by rw [← hw4]; simp) (by rw [← hw4]; rfl) (by rw [← hw4]; rfl) (by rw [← hw4]; rfl)
                  exact ⟨_, ρ2, rfl, by rw [hbool]; exact .bool _, hr4, q5.trans (hst2.trans (p5.trans hst4))⟩
                cases e with
                | normal => exact done none rfl
                | exit id => exact done (some (.exit id)) rfl
                | ret => exact done (some .ret) rfl
              · exact p1.elim
            · exact q1.elim
          · exact q1.elim
        | exit id => exact q1.elim
        | ret => exact q1.elim
    · exact h.elim
  · exact h.elim

end Go.Vm
