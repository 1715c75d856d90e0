/-
  make; append.
-/
import Derived.Lib.AppendZerosOnto
import Derived.Test.YtfhjdnekidhjnaaVm8
set_option linter.unusedVariables false
set_option linter.unusedSimpArgs false
namespace Go.Vm

section
variable {P : Program}

theorem run_app_grow (w : World) (sT xT ty e : TypeId) (i : TypeInfo) (z : Value) (d : TypeDesc) (hs : P.underlying sT = some (.slice e)) (hx : P.underlying xT = some d) (hd : (∃ e', d = .slice e') ∨ d = .string) (hi : P.info? e = some i) (hz : i.zero = some z)
    (A : Option Addr) (n cap m : Nat) (x : Value) (olds news : List Value) (hlen : Builtin.lenOf x = pure m)
    (hold : (Builtin.firstCells i.size n (.slice A n cap)).run P w.drew = .ok olds.toArray w.drew) (hnew : (Builtin.firstCells i.size m x).run P w.drew = .ok news.toArray w.drew)
    (hg : cap < n + m) (h63 : ((n + m : Nat) : Int) ≤ 9223372036854775807) (h47 : (n + m) * i.bytes ≤ 140737488355328) :
    (Builtin.append_ #[sT, xT] ty #[.slice A n cap, x]).run P w =
      .ok (.slice (some ⟨w.heap.size, 0, none⟩) (n + m) (grownCap w (n + m) cap e))
        (w.drew.alloc (.cells (olds.toArray ++ news.toArray ++ Builtin.zeroCells z.cells (grownCap w (n + m) cap e - (n + m))) e)) := by
  have hn : ¬ (n + m ≤ cap) := by omega
  have h63' : ¬ (9223372036854775807 < ((n : Int) + (m : Int))) := by omega
  have hfit : Builtin.nextslicecap (n + m) cap * i.bytes ≤ 281474976710656 := by
    have := nextslicecap_le hg
    have := Nat.mul_le_mul_right i.bytes this
    rw [Nat.mul_assoc] at this
    omega
  have h48' : ¬ (281474976710656 < Builtin.nextslicecap (n + m) cap * i.bytes) := by omega
  rcases hd with ⟨e', rfl⟩ | rfl
  all_goals
    simp [Builtin.append_, run_underlying hs, run_underlying hx, sizeOf, typeInfo, zeroValue, hi, hz, hlen, hn, h63', h48', Question.forced, hold, hnew, newRow, grownCap]
    congr 2
    apply Array.ext'
    simp [List.append_assoc]

theorem run_app_room (w : World) (sT xT ty e : TypeId) (i : TypeInfo) (d : TypeDesc) (hs : P.underlying sT = some (.slice e)) (hx : P.underlying xT = some d) (hd : (∃ e', d = .slice e') ∨ d = .string) (hi : P.info? e = some i)
    (a : Addr) (n cap m : Nat) (x : Value) (news : List Value) (w' : World) (hlen : Builtin.lenOf x = pure m)
    (hnew : (Builtin.firstCells i.size m x).run P w = .ok news.toArray w) (hst : (storeCells (a.add (n * i.size)) news).run P w = .ok () w') (hg : n + m ≤ cap) :
    (Builtin.append_ #[sT, xT] ty #[.slice (some a) n cap, x]).run P w = .ok (.slice (some a) (n + m) cap) w' := by
  rcases hd with ⟨e', rfl⟩ | rfl
  all_goals
    simp [Builtin.append_, run_underlying hs, run_underlying hx, sizeOf, typeInfo, hi, hlen, hg, hnew, hst]

theorem run_app_nil0 (w : World) (sT xT ty e : TypeId) (i : TypeInfo) (d : TypeDesc) (hs : P.underlying sT = some (.slice e)) (hx : P.underlying xT = some d) (hd : (∃ e', d = .slice e') ∨ d = .string) (hi : P.info? e = some i)
    (x : Value) (hlen : Builtin.lenOf x = pure 0) (hnew : (Builtin.firstCells i.size 0 x).run P w = .ok #[] w) :
    (Builtin.append_ #[sT, xT] ty #[.slice none 0 0, x]).run P w = .ok (.slice none 0 0) w := by
  rcases hd with ⟨e', rfl⟩ | rfl
  all_goals
    simp [Builtin.append_, run_underlying hs, run_underlying hx, sizeOf, typeInfo, hi, hlen, hnew]

theorem run_firstCells {w : World} {es n cap : Nat} {A : Option Addr} {us : List Value} (hl : us.length = n * es) (hc : ∀ a, A = some a → ∀ (j : Nat) (x : Value), us[j]? = some x → w.cell? (a.add j) = some x) (hn : A = none → us = []) :
    (Builtin.firstCells es n (.slice A n cap)).run P w = .ok us.toArray w := by
  cases A with
  | none => rw [hn rfl]; simp [Builtin.firstCells]
  | some a =>
    have := run_loadCells_at (P := P) (w := w) a us (hc a rfl)
    rw [hl] at this
    simpa [Builtin.firstCells] using this

end

section
variable {R : Type} {c : Cfg} {call : CallF} {o : Oper} {st : St} {H : Heap} {K : V → Heap → Option R} {r : R} {ρ : Map} {w : World} {a : Act}

theorem did_makeSlice {t : TypeId} {x y : Operand} (ho : o.op = .makeSlice t x y) (h : opX c call o st H K = some r) (hr : Rel ρ H w) (hs : SR ρ st a.tmps) : Did c o a K r ρ H w := by
  unfold opX at h
  rw [ho] at h
  simp only at h
  split at h
  · rename_i e k n k' m h1 h2 h3
    split at h
    · rename_i z hz
      by_cases hc : 0 ≤ n ∧ n ≤ m ∧ m * bytesOf c.P e ≤ 140737488355328 ∧ m ≤ 9223372036854775807 ∧ 0 < esOf c.P e ∧ esOf c.P e < 8589934592
      · rw [if_pos hc] at h
        have hsm := hc.2.2.2.2.2
        obtain ⟨it, zv, k1, k2, k3, k4, k5⟩ := zeroL_rel hz ρ
        obtain ⟨hes, hby⟩ := info_eq k1
        have e1 := (ev_rel hs h2).inv_int
        have e2 := (ev_rel hs h3).inv_int
        have hrun := run_make (P := c.P) w t e it zv h1 k1 k2 k k' n m hc.1 hc.2.1 (by rw [← hby, Int.mul_comm]; omega) hc.2.2.2.1
        have hsz : (madeCells zv.cells (m.toNat * it.size)).size = m.toNat * esOf c.P e := by simp [madeCells, hes]
        refine did_newS hsm (es := esOf c.P e) (cap := m.toNat) (C := madeCells zv.cells (m.toNat * it.size)) (ty := e) (w' := w.alloc (.cells (madeCells zv.cells (m.toNat * it.size)) e)) hr (by omega) hsz ?_ ?_ rfl rfl rfl rfl ?_ h
        · rw [hsz, rep_length, k4, ← hes]
          exact Nat.mul_le_mul_right _ (by omega)
        · intro i v hi
          obtain ⟨u, hu, hv⟩ := rep_rel k3 n.toNat (m.toNat * it.size) (by rw [k4]; exact Nat.mul_le_mul_right _ (by omega)) i v hi
          exact ⟨u, hu, hv⟩
        · simp [execOp, ho, e1, e2, hrun, Result.andThen]
      · rw [if_neg hc] at h; cases h
    · cases h
  · cases h

/-- Append, of whatever source. -/
theorem app_rel {sT xT ty e : TypeId} {d : TypeDesc} (hs : c.P.underlying sT = some (.slice e)) (hx : c.P.underlying xT = some d) (hd : (∃ e', d = .slice e') ∨ d = .string) {z : List V} (hz : zeroL c.P e = some z) (hpos : 0 < esOf c.P e) (hbig : esOf c.P e < 4294967296)
    (hr : Rel ρ H w) {es n k : Nat} {p : Option (Nat × Nat)} {u x : Value} (hu : VR ρ (.sl es p n) u) (hes : (es == esOf c.P e || p.isNone) = true) {vs : List V} {us : List Value} (hv : VRL ρ vs us) (hul : us.length = k * esOf c.P e)
    (hlen : Builtin.lenOf x = pure k) (hnew : ∀ W : World, (∀ i, i < w.heap.size → W.heap[i]? = w.heap[i]?) → (Builtin.firstCells (esOf c.P e) k x).run c.P W = .ok us.toArray W)
    {q : Heap × Option (Nat × Nat)} (h : appH (esOf c.P e) (bytesOf c.P e) p n k vs H = some q) :
    ∃ u' ρ' w', (Builtin.append_ #[sT, xT] ty #[u, x]).run c.P w = .ok u' w' ∧ VR ρ' (.sl (esOf c.P e) q.2 (n + k)) u' ∧ Rel ρ' q.1 w' ∧ Step ρ H w ρ' q.1 w' := by
  obtain ⟨it, zv, k1, k2, k3, k4, k5⟩ := zeroL_rel hz ρ
  obtain ⟨hes', hby⟩ := info_eq k1
  obtain ⟨A, cap, hA, hcap, hAn⟩ := hu.inv_slany
  have hvl := hv.length
  unfold appH at h
  by_cases hk : k = 0
  · rw [if_pos hk] at h
    cases h
    subst hk
    have hus : us = [] := by simpa using hul
    subst hus
    simp only
    cases p with
    | none =>
      obtain ⟨hn0, hu0⟩ := hu.inv_slN
      subst hn0
      refine ⟨_, ρ, w, by rw [hu0]; exact run_app_nil0 w sT xT ty e it d hs hx hd k1 x hlen (by rw [← hes']; exact hnew w fun _ _ => rfl), .slN _, hr, Step.refl _ _ _⟩
    | some p =>
      obtain ⟨b, o'⟩ := p
      have he : es = esOf c.P e := by simpa using hes
      obtain ⟨L, ad, cap', hL, hn, ha, hrw, hvd, hl, hu'⟩ := hu.inv_sl
      rw [hu'] at hu
      refine ⟨_, ρ, w, by rw [hu']; exact run_app_room w sT xT ty e it d hs hx hd k1 ad n cap' 0 x [] w hlen (by rw [← hes']; exact hnew w fun _ _ => rfl) (by simp [storeCells]) (by omega), ?_, hr, Step.refl _ _ _⟩
      rw [← he]; simpa using hu
  · rw [if_neg hk] at h
    by_cases hc : (n + k) * bytesOf c.P e ≤ 140737488355328 ∧ n + k ≤ 9223372036854775807 ∧ ones vs = true
    · rw [if_pos hc] at h
      -- the fresh row
      have fresh : ∀ (H0 : Heap) (cs0 : List V) (us0 : List Value), Rel ρ H0 w → (∀ ρ' H' w', Step ρ H0 w ρ' H' w' → Step ρ H w ρ' H' w') → H0.length = H.length → VRL ρ cs0 us0 → us0.length = n * esOf c.P e →
          (Builtin.firstCells (esOf c.P e) n (.slice A n cap)).run c.P w.drew = .ok us0.toArray w.drew → cap < n + k →
          ∃ u' ρ' w', (Builtin.append_ #[sT, xT] ty #[u, x]).run c.P w = .ok u' w' ∧ VR ρ' (.sl (esOf c.P e) (some (H.length, 0)) (n + k)) u' ∧ Rel ρ' (newH H0 (cs0 ++ vs)) w' ∧ Step ρ H w ρ' (newH H0 (cs0 ++ vs)) w' := by
        intro H0 cs0 us0 hr0 hst hlen0 hcs0 hl0 hold hg
        have hrun := run_app_grow (P := c.P) w sT xT ty e it zv d hs hx hd k1 k2 A n cap k x us0 us hlen (by rw [← hes']; exact hold) (by rw [← hes']; exact hnew w.drew fun _ _ => rfl) hg (by omega) (by rw [← hby]; exact hc.1)
        have hgc := grownCap_ge w (n + k) cap e
        generalize grownCap w (n + k) cap e = nc at *
        have hCs : (us0.toArray ++ us.toArray ++ Builtin.zeroCells zv.cells (nc - (n + k))).size = nc * esOf c.P e := by
          simp only [Array.size_append, List.size_toArray, size_zeroCells, hl0, hul, k5, ← hes', ← Nat.add_mul]
          congr 1
          omega
        generalize hC : us0.toArray ++ us.toArray ++ Builtin.zeroCells zv.cells (nc - (n + k)) = C at *
        have hk' : ∀ i, i < w.heap.size → (w.drew.alloc (.cells C e)).heap[i]? = w.heap[i]? := fun i hi => alloc_same w.drew _ i hi
        have hcl := hcs0.length
        have hle : (cs0 ++ vs).length ≤ C.size := by
          rw [hCs]
          simp only [List.length_append, ← hcl, ← hvl, hl0, hul, ← Nat.add_mul]
          exact Nat.mul_le_mul_right _ hgc
        refine ⟨_, ρ.put H.length ⟨w.heap.size, 0, C.size, .rw⟩, w.drew.alloc (.cells C e), by rw [hA]; exact hrun, ?_, ?_, ?_⟩
        · exact .sl _ _ 0 (n + k) nc _ ⟨w.heap.size, 0, C.size, .rw⟩ (Map.put_at _ _ _) hgc (.inr rfl) (fun _ => by simp [hCs]) (fun hh => by cases hh) (by simp) (fun hb => absurd hb (by omega))
        · rw [← hlen0]
          refine hr0.new (cs0 ++ vs) C e (0, 0) hk' (alloc_new w.drew _) (fun i _ => by omega) ?_ hle
          intro i v hi
          obtain ⟨y, hy, hvy⟩ := (hcs0.append hv).get hi
          refine ⟨y, ?_, hvy⟩
          have hlt : i < (us0 ++ us).length := (List.getElem?_eq_some_iff.1 hy).1
          rw [← hC]
          rw [Array.getElem?_append_left (by simpa using hlt)]
          simpa using hy
        · have := Step.snoc hr0 (.cells true (cs0 ++ vs)) ⟨w.heap.size, 0, C.size, .rw⟩ hk' (by simp) (Nat.le_refl _) rfl rfl rfl
          rw [hlen0] at this
          exact hst _ _ _ this
      have e0 : newH H vs = newH H ([] ++ vs) := rfl
      cases p with
      | none =>
        simp only at h
        obtain ⟨hn0, hu0⟩ := hu.inv_slN
        rw [if_pos hn0] at h
        cases h
        rw [hA] at hu0; cases hu0
        rw [e0]
        exact fresh H [] [] hr (fun _ _ _ h => h) rfl .nil (by simp) (by simp [Builtin.firstCells]) (by omega)
      | some p =>
        obtain ⟨b, o'⟩ := p
        have he : es = esOf c.P e := by simpa using hes
        obtain ⟨L, ad, cap', hL, hn, ha, hrw, hvd, hl, hu'⟩ := hu.inv_sl
        rw [hA] at hu'; cases hu'
        simp only at h
        split at h
        · rename_i hb
          by_cases hn0 : n = 0
          · rw [if_pos hn0] at h
            cases h
            obtain ⟨L', h1, h2⟩ := hr.blk _ _ hb
            rw [hL] at h1; cases h1
            have := hvd h2
            subst hn0
            rw [e0]
            exact fresh H [] [] hr (fun _ _ _ h => h) rfl .nil (by simp) (by simp [Builtin.firstCells, loadCells, loadCellsFrom]) (by omega)
          · rw [if_neg hn0] at h; cases h
        · rename_i cs hb
          obtain ⟨L', C, ty', fz, h1, h2, h3, h4, h5⟩ := hr.blk _ _ hb
          rw [hL] at h1; cases h1
          obtain ⟨h51, h52, h53⟩ := h5 rfl
          have hsz := hrw h2 (by omega)
          rw [he, h51] at hsz
          have ho : Owned H b := .inl ⟨_, hb⟩
          by_cases htop : o' + n * esOf c.P e = cs.length
          · rw [if_pos htop] at h
            cases h
            have hdead : ∀ w', (∀ i, i < w.heap.size → i ≠ L.blk → w'.heap[i]? = w.heap[i]?) → Rel ρ (H.set b .dead) w' := fun w' hk => hr.set b L .dead hL ho hk trivial
            by_cases hroom : n + k ≤ cap
            · -- in place
              have ha' : ad = ⟨L.blk, L.base + o', none⟩ := ha.resolve_left (by omega)
              subst ha'
              have hnk : n * esOf c.P e + k * esOf c.P e ≤ cap * esOf c.P e := by rw [← Nat.add_mul]; exact Nat.mul_le_mul_right _ hroom
              obtain ⟨w', k1', k2', k3', k4', k5', k6', k7'⟩ := run_storeCells (P := c.P) L.blk (L.base + o' + n * esOf c.P e) ty' fz us 0 C w h3 (by omega) (fun i hi => h53 i (Nat.le_of_lt hi)) (ones_rel hv hc.2.2)
              have hk2 : ∀ i, i < w.heap.size → i ≠ L.blk → w'.heap[i]? = w.heap[i]? := fun i _ hi => k3' i hi
              have hrel := hdead w' hk2
              have hstep := Step.set (w' := w') b L .dead hL ho hk2 (by omega) k5' k6' k7'
              have hrun := run_app_room (P := c.P) w sT xT ty e it d hs hx hd k1 ⟨L.blk, L.base + o', none⟩ n cap k x us w' hlen (by rw [← hes']; exact hnew w fun _ _ => rfl) (by rw [Addr.add_lit, ← hes']; exact k1') hroom
              have hlenS : (H.set b .dead).length = H.length := by simp
              refine ⟨_, ρ.put H.length ⟨L.blk, L.base + o', L.size, .rw⟩, w', by rw [hA]; exact hrun, ?_, ?_, ?_⟩
              · exact .sl _ _ 0 (n + k) cap _ ⟨L.blk, L.base + o', L.size, .rw⟩ (Map.put_at _ _ _) hroom (.inr rfl) (fun _ => by simp only; rw [h51]; omega) (fun hh => by cases hh) (by simp) (fun hb => absurd hb (by omega))
              · have := hrel.snocAt (.cells true (cs.drop o' ++ vs)) ⟨L.blk, L.base + o', L.size, .rw⟩ (fun b' L' hl' hb' => by
                  have hbb : b' ≠ b := by
                    rintro rfl
                    unfold Live at hl'
                    rw [List.getElem?_set_self (hr.dom _ _ hL)] at hl'
                    rcases hl' with ⟨_, _, hl'⟩ | ⟨_, hl'⟩ <;> cases hl'
                  have hlv : Live H b' := by
                    unfold Live at hl' ⊢
                    rw [List.getElem?_set_ne (Ne.symm hbb)] at hl'
                    exact hl'
                  exact (hr.inj b b' L L' ho hlv (Ne.symm hbb) hL hb').symm) (by
                  refine ⟨_, _, ty', fz, Map.put_at _ _ _, rfl, k2', ?_, fun _ => ⟨by rw [size_setA]; exact h51, ?_, by rw [size_setA]; exact h53⟩⟩
                  · intro i v hi
                    have hlen2 : (setR (cs ++ vs) cs.length vs).length = cs.length + vs.length := by rw [length_setR]; simp
                    have hgoal : (cs ++ vs)[o' + i]? = some v := by
                      rw [← List.getElem?_drop, List.drop_append_of_le_length (by omega)]; exact hi
                    by_cases hlt : o' + i < cs.length
                    · rw [List.getElem?_append_left hlt] at hgoal
                      obtain ⟨y, hy, hvy⟩ := h4 _ _ hgoal
                      refine ⟨y, ?_, hvy.mono (Map.put_le (by intro b2 L2 h2; have := hr.dom b2 L2 h2; simpa using this) _)⟩
                      have key : ∀ (us : List Value) (C : Array Value) (m j : Nat), j < m → (setA C m us)[j]? = C[j]? := by
                        intro us
                        induction us with
                        | nil => intro C m j _; rfl
                        | cons u us ih => intro C m j hj; rw [setA, ih _ _ _ (by omega), Array.getElem?_setIfInBounds_ne (by omega)]
                      simp only
                      rw [key _ _ _ _ (by omega), Nat.add_assoc]
                      exact hy
                    · rw [List.getElem?_append_right (by omega)] at hgoal
                      obtain ⟨y, hy, hvy⟩ := hv.get hgoal
                      refine ⟨y, ?_, hvy.mono (Map.put_le (by intro b2 L2 h2; have := hr.dom b2 L2 h2; simpa using this) _)⟩
                      have key : ∀ (us : List Value) (C : Array Value) (m j : Nat) (y : Value), us[j]? = some y → m + us.length ≤ C.size → (setA C m us)[m + j]? = some y := by
                        intro us
                        induction us with
                        | nil => intro C m j y hj; simp at hj
                        | cons u us ih =>
                          intro C m j y hj hsz2
                          have keyl : ∀ (us : List Value) (C : Array Value) (m j : Nat), j < m → (setA C m us)[j]? = C[j]? := by
                            intro us
                            induction us with
                            | nil => intro C m j _; rfl
                            | cons u us ih => intro C m j hj; rw [setA, ih _ _ _ (by omega), Array.getElem?_setIfInBounds_ne (by omega)]
                          cases j with
                          | zero =>
                            simp at hj; subst hj
                            rw [setA, keyl _ _ _ _ (by omega)]
                            simp at hsz2
                            simp only [Nat.add_zero]
                            rw [Array.getElem?_setIfInBounds_self, if_pos (by omega)]
                          | succ j =>
                            rw [setA, show m + (j + 1) = m + 1 + j by omega]
                            exact ih _ _ _ _ (by simpa using hj) (by simp at hsz2 ⊢; omega)
                      simp only
                      have e5 : L.base + o' + i = L.base + o' + n * esOf c.P e + 0 + (o' + i - cs.length) := by omega
                      rw [e5]
                      exact key _ _ _ _ _ hy (by omega)
                  · rw [size_setA]
                    simp only [List.length_append, List.length_drop]
                    omega)
                rw [hlenS] at this
                exact this
              · have := Step.snocAt hrel (.cells true (cs.drop o' ++ vs)) ⟨L.blk, L.base + o', L.size, .rw⟩ hstep ⟨b, L, ho, hL, rfl⟩
                rw [hlenS] at this
                exact this
            · -- a new row
              have hrel := hdead w (fun _ _ _ => rfl)
              have hstep := Step.set (w := w) (w' := w) b L .dead hL ho (fun _ _ _ => rfl) (Nat.le_refl _) rfl rfl rfl
              obtain ⟨us0, A0, cap0, g1, g2, g3, g4, g5⟩ := getS_rel (es := esOf c.P e) (p := some (b, o')) (n := n) (vs := if n = 0 then [] else (cs.drop o').take (n * esOf c.P e)) (by
                unfold getS
                by_cases hn0 : n = 0
                · rw [if_pos hn0, if_pos hn0]
                · rw [if_neg hn0, if_neg hn0]
                  simp only [hb]
                  rw [if_pos (by omega)]) hr hu
              rw [hA] at g1
              cases g1
              have hcs0 : (if n = 0 then [] else (cs.drop o').take (n * esOf c.P e)) = cs.drop o' := by
                by_cases hn0 : n = 0
                · rw [if_pos hn0]
                  subst hn0
                  rw [List.drop_eq_nil_of_le (by omega)]
                · rw [if_neg hn0]
                  exact List.take_of_length_le (by simp; omega)
              rw [hcs0] at g2
              exact fresh (H.set b .dead) (cs.drop o') us0 hrel (fun _ _ _ h => hstep.trans h) (by simp) g2 g3 (run_firstCells (P := c.P) g3 g4 g5) (by omega)
          · rw [if_neg htop] at h
            by_cases hin : o' + n * esOf c.P e + vs.length ≤ cs.length
            · rw [if_pos hin] at h
              cases h
              have hroom : n + k ≤ cap := by
                have h6 : (n + k) * esOf c.P e ≤ cap * esOf c.P e := by rw [Nat.add_mul]; omega
                exact Nat.le_of_mul_le_mul_right h6 hpos
              have ha' : ad = ⟨L.blk, L.base + o', none⟩ := ha.resolve_left (by omega)
              subst ha'
              have hput : putH H b (o' + n * esOf c.P e) vs = some (H.set b (.cells true (setR cs (o' + n * esOf c.P e) vs))) := by
                unfold putH
                simp only [hb]
                rw [if_pos ⟨hin, hc.2.2⟩]
              obtain ⟨L2, w', m1, m2, m3, m4, m5⟩ := putH_rel (P := c.P) hput hr hv
              rw [hL] at m1; cases m1
              have hrun := run_app_room (P := c.P) w sT xT ty e it d hs hx hd k1 ⟨L.blk, L.base + o', none⟩ n cap k x us w' hlen (by rw [← hes']; exact hnew w fun _ _ => rfl) (by rw [Addr.add_lit, ← hes', Nat.add_assoc]; exact m3) hroom
              refine ⟨_, ρ, w', by rw [hA]; exact hrun, ?_, m4, m5⟩
              exact .sl _ _ o' (n + k) cap _ L hL hroom (.inr rfl) (fun _ => by rw [h51]; omega) hvd hl (fun hb => absurd hb (by omega))
            · rw [if_neg hin] at h; cases h
        · cases h
    · rw [if_neg hc] at h; cases h

theorem did_cap {cl : Call} (ho : o.op = .call cl) (hb : cl.callee = .builtin .cap) (h : opX c call o st H K = some r) (hr : Rel ρ H w) (hs : SR ρ st a.tmps) : Did c o a K r ρ H w := by
  unfold opX at h
  rw [ho] at h
  simp only [hb] at h
  split at h
  · rename_i es p n e' h1 h2
    by_cases hc : 8589934592 ≤ es ∧ p.isSome = true
    · rw [if_pos hc] at h
      obtain ⟨x, hx, h1⟩ := evs_one h1
      have hx' := arr_one hx
      obtain ⟨t, ht, ht'⟩ := Option.bind_eq_some_iff.1 h2
      cases p with
      | none => cases hc.2
      | some p =>
        obtain ⟨b, o'⟩ := p
        obtain ⟨L, ad, cap, hL, hn, ha, hrw, hvd, hl, hkc, hu⟩ := (ev_rel hs h1).inv_slc
        have hcap := (hkc hc.1).1
        subst hcap
        exact Did.still hr (by simp [execOp, ho, resolve, hb, hx', invoke, builtin, Builtin.cap_, ht, hu, run_underlying ht', goInt, Result.andThen]) (.int _ _) h
    · rw [if_neg hc] at h; cases h
  · cases h

theorem did_append {cl : Call} (ho : o.op = .call cl) (hb : cl.callee = .builtin .append) (h : opX c call o st H K = some r) (hr : Rel ρ H w) (hs : SR ρ st a.tmps) : Did c o a K r ρ H w := by
  unfold opX at h
  rw [ho] at h
  simp only [hb] at h
  split at h
  · rename_i es p n es' q m e e2 h1 h2 h3
    by_cases hc : ((es == esOf c.P e || p.isNone) && (slE es' (esOf c.P e) || q.isNone) && decide (0 < esOf c.P e) && decide (esOf c.P e < 4294967296)) = true ∧ (zeroL c.P e).isSome = true
    · rw [if_pos hc] at h
      obtain ⟨hc, hz⟩ := hc
      obtain ⟨z, hz⟩ := Option.isSome_iff_exists.1 hz
      simp only [Bool.and_eq_true, decide_eq_true_eq] at hc
      obtain ⟨xs, hg, h⟩ := Option.bind_eq_some_iff.1 h
      obtain ⟨q2, hq, hK⟩ := Option.bind_eq_some_iff.1 h
      obtain ⟨x, y, hx, h4, h5⟩ := evs_two h1
      have hx' := arr_two hx
      obtain ⟨sT, hsT, hs1⟩ := Option.bind_eq_some_iff.1 h2
      obtain ⟨xT, hxT, hx1⟩ := Option.bind_eq_some_iff.1 h3
      obtain ⟨us, A, cap, hu, hvs, hul, hcell, hnil⟩ := getS_rel hg hr (ev_rel hs h5)
      obtain ⟨u', ρ', w', hrun, hv, hrel, hstep⟩ := app_rel (ty := o.type) (x := a.eval y) hs1 hx1 (.inl ⟨e2, rfl⟩) hz hc.1.2 hc.2 hr (ev_rel hs h4) hc.1.1.1 hvs hul (by rw [hu]; rfl)
        (fun W hW => by
          rw [hu]
          refine run_firstCells (P := c.P) hul (fun ad hA j x hj => ?_) hnil
          have h6 := hcell ad hA j x hj
          have h7 := World.block_lt_of_cell? w _ h6
          unfold World.cell? at h6 ⊢
          rw [hW _ h7]
          exact h6) hq
      refine ⟨.value u', _, u', ρ', q2.1, w', ?_, .inl rfl, hv, hrel, hstep, hK⟩
      have hat : cl.argTypes[0]? = some sT ∧ cl.argTypes[1]? = some xT := ⟨hsT, hxT⟩
      have hrun2 : (Builtin.append_ cl.argTypes o.type #[a.eval x, a.eval y]).run c.P w = .ok u' w' := by
        have e9 : Builtin.append_ cl.argTypes o.type #[a.eval x, a.eval y] = Builtin.append_ #[sT, xT] o.type #[a.eval x, a.eval y] := by
          unfold Builtin.append_
          simp [hat.1, hat.2]
        rw [e9]; exact hrun
      simp [execOp, ho, resolve, hb, hx', invoke, builtin, hrun2, Result.andThen]
    · rw [if_neg hc] at h
      by_cases hc2 : (decide (8589934592 ≤ es) && es % 8589934592 == esOf c.P e && (slE es' (esOf c.P e) || q.isNone) && decide (0 < esOf c.P e) && decide (esOf c.P e < 4294967296) && rwAt H p) = true ∧ (zeroL c.P e).isSome = true
      · rw [if_pos hc2] at h
        clear hc
        obtain ⟨hc, hz⟩ := hc2
        obtain ⟨z, hz⟩ := Option.isSome_iff_exists.1 hz
        simp only [Bool.and_eq_true, decide_eq_true_eq, beq_iff_eq] at hc
        obtain ⟨⟨⟨⟨⟨c1, c2⟩, c3⟩, c4⟩, c5⟩, c6⟩ := hc
        obtain ⟨xs, hg, h⟩ := Option.bind_eq_some_iff.1 h
        obtain ⟨q2, hq, hK⟩ := Option.bind_eq_some_iff.1 h
        by_cases hp : eqPO q2.2 p = true
        · rw [if_pos hp] at hK
          obtain ⟨x, y, hx, h4, h5⟩ := evs_two h1
          have hx' := arr_two hx
          obtain ⟨sT, hsT, hs1⟩ := Option.bind_eq_some_iff.1 h2
          obtain ⟨xT, hxT, hx1⟩ := Option.bind_eq_some_iff.1 h3
          obtain ⟨us, A, cap, hu, hvs, hul, hcell, hnil⟩ := getS_rel hg hr (ev_rel hs h5)
          have e4 := ev_rel hs h4
          obtain ⟨u', ρ', w', hrun, hv, hrel, hstep⟩ := app_rel (ty := o.type) (x := a.eval y) hs1 hx1 (.inl ⟨e2, rfl⟩) hz c4 c5 hr (e4.forget c1 c2 c5) (by simp) hvs hul (by rw [hu]; rfl)
            (fun W hW => by
              rw [hu]
              refine run_firstCells (P := c.P) hul (fun ad hA j x hj => ?_) hnil
              have h6 := hcell ad hA j x hj
              have h7 := World.block_lt_of_cell? w _ h6
              unfold World.cell? at h6 ⊢
              rw [hW _ h7]
              exact h6) hq
          have hat : cl.argTypes[0]? = some sT ∧ cl.argTypes[1]? = some xT := ⟨hsT, hxT⟩
          have hrun2 : (Builtin.append_ cl.argTypes o.type #[a.eval x, a.eval y]).run c.P w = .ok u' w' := by
            have e9 : Builtin.append_ cl.argTypes o.type #[a.eval x, a.eval y] = Builtin.append_ #[sT, xT] o.type #[a.eval x, a.eval y] := by
              unfold Builtin.append_
              simp [hat.1, hat.2]
            rw [e9]; exact hrun
          refine ⟨.value u', _, u', ρ', q2.1, w', ?_, .inl rfl, ?_, hrel, hstep, hK⟩
          · simp [execOp, ho, resolve, hb, hx', invoke, builtin, hrun2, Result.andThen]
          · cases p with
            | none => simp [rwAt] at c6
            | some p =>
              obtain ⟨b, o'⟩ := p
              have hq2 : q2.2 = some (b, o') := by
                cases hq3 : q2.2 with
                | none => rw [hq3] at hp; simp [eqPO] at hp
                | some a2 => rw [hq3] at hp; simp only [eqPO, Bool.and_eq_true, beq_iff_eq] at hp; cases a2; simp_all
              rw [hq2] at hv ⊢
              obtain ⟨L, ad, cap2, hL, hn2, ha2, hrw2, hvd2, hl2, hkc, hu2⟩ := e4.inv_slc
              have hkind : L.kind = .rw := by
                unfold rwAt at c6
                split at c6 <;> first | (cases c6; done) | skip
                rename_i a3 hh
                cases hh
                split at c6
                · rename_i cs hbk
                  obtain ⟨L', C, ty', fz, g1, g2, _, _, g5⟩ := hr.blk _ _ hbk
                  rw [hL] at g1; cases g1
                  exact g2
                · cases c6
              obtain ⟨q1, q3⟩ := hkc c1
              have q4 := q3 hkind
              rw [c2] at q4
              exact hv.know c2 c5 c4 (hstep.le _ _ hL) hkind q1 q4
        · rw [if_neg hp] at hK; cases hK
      · rw [if_neg hc2] at h; cases h
  · rename_i es p n k m e k2 h1 h2 h3
    split at h
    · rename_i z hz
      by_cases hc : (decide (8589934592 ≤ es) && es % 8589934592 == esOf c.P e && decide (0 < esOf c.P e) && decide (esOf c.P e < 4294967296) && rwAt H p) = true ∧ 0 < m ∧ capOf es < n + m.toNat ∧ (n + m.toNat) * bytesOf c.P e ≤ 140737488355328 ∧ n + m.toNat ≤ 9223372036854775807
      · rw [if_pos hc] at h
        obtain ⟨hc, hm, hcap, h47, h63⟩ := hc
        simp only [Bool.and_eq_true, decide_eq_true_eq, beq_iff_eq] at hc
        obtain ⟨⟨⟨⟨c1, c2⟩, c4⟩, c5⟩, c6⟩ := hc
        obtain ⟨m, rfl⟩ := Int.eq_ofNat_of_zero_le (show 0 ≤ m by omega)
        simp only [Int.toNat_natCast] at *
        obtain ⟨xs, hg, hK⟩ := Option.bind_eq_some_iff.1 h
        obtain ⟨x, y, hx, h4, h5⟩ := evs_two h1
        have hx' := arr_two hx
        obtain ⟨sT, hsT, hs1⟩ := Option.bind_eq_some_iff.1 h2
        obtain ⟨xT, hxT, hx1⟩ := Option.bind_eq_some_iff.1 h3
        have e4 := ev_rel hs h4
        have e5 := (ev_rel hs h5).inv_int
        obtain ⟨us, A, cap, hu, hvs, hul, hcell, hnil⟩ := getS_rel hg hr e4
        have hcapv : cap = capOf es := by
          cases p with
          | none => simp [rwAt] at c6
          | some p =>
            obtain ⟨b, o'⟩ := p
            obtain ⟨L, ad, cap2, hL, hn2, ha2, hrw2, hvd2, hl2, hkc, hu2⟩ := e4.inv_slc
            rw [hu] at hu2
            cases hu2
            exact (hkc c1).1
        obtain ⟨it, zv, k1, k2', k3, k4, k5⟩ := zeroL_rel hz ρ
        obtain ⟨hes', hby⟩ := info_eq k1
        have hold : (Builtin.firstCells it.size n (.slice A n cap)).run c.P w.drew = .ok us.toArray w.drew := by
          rw [← hes']
          exact run_firstCells (P := c.P) hul (fun ad hA j x hj => by
            have h6 := hcell ad hA j x hj
            unfold World.cell? at h6 ⊢
            exact h6) hnil
        have hgrow : cap < n + m := by omega
        have hfit : Builtin.nextslicecap (n + m) cap * it.bytes ≤ 281474976710656 := by
          have h8 := nextslicecap_le hgrow
          have h9 := Nat.mul_le_mul_right it.bytes h8
          rw [Nat.mul_assoc] at h9
          rw [hby] at h47
          omega
        have h48 : m * it.bytes ≤ 281474976710656 := by
          have : m * it.bytes ≤ (n + m) * it.bytes := Nat.mul_le_mul_right _ (by omega)
          rw [hby] at h47
          omega
        have hrun := Go.Lib.run_append_grow_zeros (P := c.P) w sT xT o.type e it zv k k2 hs1 hx1 k1 k2' A n cap us hold m (by omega) (by rw [← hes']; exact c4) hgrow (by omega) h48 hfit
        have hgc := grownCap_ge w (n + m) cap e
        generalize grownCap w (n + m) cap e = nc at *
        have hCs : (us.toArray ++ Builtin.zeroCells zv.cells m ++ Builtin.zeroCells zv.cells (nc - (n + m))).size = nc * esOf c.P e := by
          simp only [Array.size_append, List.size_toArray, size_zeroCells, hul, k5, ← hes', ← Nat.add_mul]
          congr 1
          omega
        have hvl := hvs.length
        refine did_newS (by omega) (cap := nc) (C := us.toArray ++ Builtin.zeroCells zv.cells m ++ Builtin.zeroCells zv.cells (nc - (n + m))) (ty := e) (w' := w.drew.alloc (.cells (us.toArray ++ Builtin.zeroCells zv.cells m ++ Builtin.zeroCells zv.cells (nc - (n + m))) e)) hr hgc hCs ?_ ?_ rfl rfl rfl rfl ?_ hK
        · rw [hCs]
          simp only [List.length_append, ← hvl, hul, rep_length, k4, ← hes', ← Nat.add_mul]
          exact Nat.mul_le_mul_right _ hgc
        · intro i v hi
          by_cases hlt : i < xs.length
          · rw [List.getElem?_append_left hlt] at hi
            obtain ⟨u, hu1, hu2⟩ := hvs.get hi
            refine ⟨u, ?_, hu2⟩
            rw [Array.append_assoc, Array.getElem?_append_left (by simp; omega)]
            simpa using hu1
          · rw [List.getElem?_append_right (by omega)] at hi
            obtain ⟨u, hu1, hu2⟩ := rep_rel k3 m (m * zv.cells.size) (by rw [k4, ← k5]; exact Nat.le_refl _) (i - xs.length) v hi
            refine ⟨u, ?_, hu2⟩
            have hlt2 : i - xs.length < (Builtin.zeroCells zv.cells m).size := by
              have := (Array.getElem?_eq_some_iff.1 hu1).1
              simpa [Builtin.zeroCells] using this
            rw [Array.append_assoc, Array.getElem?_append_right (by simp; omega), Array.getElem?_append_left (by simp only [List.size_toArray, hvl]; exact hlt2)]
            simp only [List.size_toArray, hvl]
            exact hu1
        · have hat : cl.argTypes[0]? = some sT ∧ cl.argTypes[1]? = some xT := ⟨hsT, hxT⟩
          have hrun2 : (Builtin.append_ cl.argTypes o.type #[a.eval x, a.eval y]).run c.P w = .ok (.slice (some ⟨w.heap.size, 0, none⟩) (n + m) nc) (w.drew.alloc (.cells (us.toArray ++ Builtin.zeroCells zv.cells m ++ Builtin.zeroCells zv.cells (nc - (n + m))) e)) := by
            have e9 : Builtin.append_ cl.argTypes o.type #[a.eval x, a.eval y] = Builtin.append_ #[sT, xT] o.type #[a.eval x, a.eval y] := by
              unfold Builtin.append_
              simp [hat.1, hat.2]
            rw [e9, hu, e5]; exact hrun
          simp [execOp, ho, resolve, hb, hx', invoke, builtin, hrun2, Result.andThen]
      · rw [if_neg hc] at h; cases h
    · cases h
  · rename_i es p n s e h1 h2 h3
    by_cases hc : ((es == 1 || p.isNone) && esOf c.P e == 1) = true ∧ (zeroL c.P e).isSome = true
    · rw [if_pos hc] at h
      obtain ⟨hc, hz⟩ := hc
      obtain ⟨z, hz⟩ := Option.isSome_iff_exists.1 hz
      simp only [Bool.and_eq_true, beq_iff_eq] at hc
      obtain ⟨q2, hq, hK⟩ := Option.bind_eq_some_iff.1 h
      obtain ⟨x, y, hx, h4, h5⟩ := evs_two h1
      have hx' := arr_two hx
      have e5 := (ev_rel hs h5).inv_str
      obtain ⟨sT, hsT, hs1⟩ := Option.bind_eq_some_iff.1 h2
      obtain ⟨xT, hxT, hx1⟩ := Option.bind_eq_some_iff.1 h3
      have hvs : VRL ρ (bytesV s) (s.data.toList.map fun b => Value.int .u8 b.toNat) := by
        unfold bytesV
        generalize s.data.toList = l
        induction l with
        | nil => exact .nil
        | cons b l ih => exact .cons _ _ _ _ (.int _ _) ih
      obtain ⟨u', ρ', w', hrun, hv, hrel, hstep⟩ := app_rel (ty := o.type) (x := a.eval y) (k := s.size) hs1 hx1 (.inr rfl) hz (by omega) (by omega) hr (ev_rel hs h4) (by rw [hc.2]; exact hc.1) hvs (by simp [hc.2]) (by rw [e5]; rfl)
        (fun W hW => by
          rw [e5]
          have : s.extract 0 s.size = s := by simp
          simp [Builtin.firstCells, this]
          cases s with | mk d => cases d; simp) hq
      refine ⟨.value u', _, u', ρ', q2.1, w', ?_, .inl rfl, hv, hrel, hstep, hK⟩
      have hat : cl.argTypes[0]? = some sT ∧ cl.argTypes[1]? = some xT := ⟨hsT, hxT⟩
      have hrun2 : (Builtin.append_ cl.argTypes o.type #[a.eval x, a.eval y]).run c.P w = .ok u' w' := by
        have e9 : Builtin.append_ cl.argTypes o.type #[a.eval x, a.eval y] = Builtin.append_ #[sT, xT] o.type #[a.eval x, a.eval y] := by
          unfold Builtin.append_
          simp [hat.1, hat.2]
        rw [e9]; exact hrun
      simp [execOp, ho, resolve, hb, hx', invoke, builtin, hrun2, Result.andThen]
    · rw [if_neg hc] at h; cases h
  · cases h

theorem putS_rel {p : Option (Nat × Nat)} {vs : List V} {us : List Value} {H' : Heap} (h : putS H p vs = some H') (hr : Rel ρ H w) (hv : VRL ρ vs us) {es e0 n k : Nat} {u : Value} (hu : VR ρ (.sl es p n) u) (hk : us.length = k * e0) (hkn : k ≤ n) :
    ∃ A cap w', u = .slice A n cap ∧ (A = none → us = []) ∧ (∀ ad, A = some ad → (storeCells ad us).run c.P w = .ok () w') ∧ (A = none → w' = w) ∧ Rel ρ H' w' ∧ Step ρ H w ρ H' w' := by
  obtain ⟨A, cap, hA, hcap, hAn⟩ := hu.inv_slany
  have hvl := hv.length
  unfold putS at h
  by_cases h0 : vs.length = 0
  · rw [if_pos h0] at h
    cases h
    have : us = [] := List.eq_nil_of_length_eq_zero (by omega)
    subst this
    exact ⟨A, cap, w, hA, fun _ => rfl, fun ad _ => by simp [storeCells], fun _ => rfl, hr, Step.refl _ _ _⟩
  · rw [if_neg h0] at h
    cases p with
    | none => cases h
    | some p =>
      obtain ⟨b, o'⟩ := p
      obtain ⟨L, w', h1, h2, h3, h4, h5⟩ := putH_rel (P := c.P) h hr hv
      obtain ⟨L', ad, cap', hL, hn, ha, hrw, hvd, hl, hu'⟩ := hu.inv_sl
      rw [h1] at hL; cases hL
      rw [hA] at hu'; cases hu'
      have hk0 : k ≠ 0 := by rintro rfl; omega
      have ha' := ha.resolve_left (by omega)
      subst ha'
      exact ⟨_, cap, w', hA, (fun hh => by cases hh), (fun ad hh => by cases hh; exact h3), (fun hh => by cases hh), h4, h5⟩

theorem did_copy {cl : Call} (ho : o.op = .call cl) (hb : cl.callee = .builtin .copy) (h : opX c call o st H K = some r) (hr : Rel ρ H w) (hs : SR ρ st a.tmps) : Did c o a K r ρ H w := by
  unfold opX at h
  rw [ho] at h
  simp only [hb] at h
  split at h
  · rename_i es p n es' q m e h1 h2
    by_cases hc : ((slE es (esOf c.P e) || p.isNone) && (slE es' (esOf c.P e) || q.isNone) && decide (0 < esOf c.P e)) = true
    · rw [if_pos hc] at h
      simp only [Bool.and_eq_true, decide_eq_true_eq] at hc
      obtain ⟨xs, hg, h⟩ := Option.bind_eq_some_iff.1 h
      obtain ⟨H', hq, hK⟩ := Option.bind_eq_some_iff.1 h
      obtain ⟨x, y, hx, h4, h5⟩ := evs_two h1
      have hx' := arr_two hx
      obtain ⟨sT, hsT, hs1⟩ := Option.bind_eq_some_iff.1 h2
      have e5 := ev_rel hs h5
      -- the source, shortened
      have e5' : ∃ A cap, a.eval y = .slice A m cap ∧ ∃ us, VRL ρ xs us ∧ us.length = (min m n) * esOf c.P e ∧ (∀ ad, A = some ad → ∀ (j : Nat) (x : Value), us[j]? = some x → w.cell? (ad.add j) = some x) ∧ (A = none → us = []) := by
        obtain ⟨A, cap, hA, hcap, hAn⟩ := e5.inv_slany
        cases q with
        | none =>
          obtain ⟨hm0, hu0⟩ := e5.inv_slN
          subst hm0
          simp [getS] at hg
          subst hg
          exact ⟨A, cap, hA, [], .nil, by simp, fun ad _ j x hj => by simp at hj, fun _ => rfl⟩
        | some q =>
          obtain ⟨b, o'⟩ := q
          obtain ⟨L, ad, cap', hL, hn, ha, hrw, hvd, hl, hkc, hu'⟩ := e5.inv_slc
          have e6 : VR ρ (.sl es' (some (b, o')) (min m n)) (.slice (some ad) (min m n) cap') := .sl es' b o' (min m n) cap' ad L hL (by omega) ha hrw hvd hl hkc
          obtain ⟨us, A2, cap2, hu2, hvs, hul, hcell, hnil⟩ := getS_rel hg hr e6
          cases hu2
          exact ⟨_, _, hu', us, hvs, hul, hcell, hnil⟩
      obtain ⟨A, cap, hA, us, hvs, hul, hcell, hnil⟩ := e5'
      have hes : slE es (esOf c.P e) = true ∨ p = none := by
        rcases Bool.or_eq_true_iff.1 hc.1.1 with h6 | h6
        · exact .inl h6
        · right; cases p with
          | none => rfl
          | some _ => simp at h6
      have hkk : ∃ k, us.length = k * esOf c.P e ∧ k ≤ n := by
        rcases hes with h6 | h6
        · exact ⟨min m n, hul, by omega⟩
        · subst h6
          obtain ⟨hn0, _⟩ := (ev_rel hs h4).inv_slN
          exact ⟨0, by rw [hul, hn0]; simp, by omega⟩
      obtain ⟨k, hk1, hk2⟩ := hkk
      obtain ⟨A2, cap2, w', hA2, hn2, hst, hw, hrel, hstep⟩ := putS_rel (c := c) hq hr hvs (ev_rel hs h4) hk1 hk2
      refine ⟨.value (.int .i64 (min m n : Nat)), _, _, ρ, H', w', ?_, .inl rfl, .int _ _, hrel, hstep, hK⟩
      have hf : (Builtin.firstCells (esOf c.P e) (min m n) (a.eval y)).run c.P w = .ok us.toArray w := by
        rw [hA]
        have := run_firstCells (P := c.P) (cap := cap) hul hcell hnil
        cases A with
        | none => simpa [Builtin.firstCells] using this
        | some ad => simpa [Builtin.firstCells] using this
      have hrun : (Builtin.copy_ cl.argTypes o.type #[a.eval x, a.eval y]).run c.P w = .ok (.int .i64 (min m n : Nat)) w' := by
        unfold Builtin.copy_
        have hlen : Builtin.lenOf (a.eval y) = pure m := by rw [hA]; rfl
        have hmin : m.min n = min m n := rfl
        rw [hA2]
        cases A2 with
        | none =>
          have := hw rfl
          subst this
          simp [hsT, run_underlying hs1, hlen, run_sizeOf (info_of_es hc.2), hmin, hf, Result.andThen, goInt]
        | some ad =>
          simp [hsT, run_underlying hs1, hlen, run_sizeOf (info_of_es hc.2), hmin, hf, hst ad rfl, Result.andThen, goInt]
      simp [execOp, ho, resolve, hb, hx', invoke, builtin, hrun, Result.andThen]
    · rw [if_neg hc] at h; cases h
  · cases h

theorem did_clear {cl : Call} (ho : o.op = .call cl) (hb : cl.callee = .builtin .clear) (h : opX c call o st H K = some r) (hr : Rel ρ H w) (hs : SR ρ st a.tmps) : Did c o a K r ρ H w := by
  unfold opX at h
  rw [ho] at h
  simp only [hb] at h
  split at h
  · rename_i es p n e h1 h2
    split at h
    · rename_i z hz
      by_cases hc : (slE es (esOf c.P e) || p.isNone) = true
      · rw [if_pos hc] at h
        obtain ⟨H', hq, hK⟩ := Option.bind_eq_some_iff.1 h
        obtain ⟨x, hx, h4⟩ := evs_one h1
        have hx' := arr_one hx
        obtain ⟨sT, hsT, hs1⟩ := Option.bind_eq_some_iff.1 h2
        obtain ⟨it, zv, k1, k2, k3, k4, k5⟩ := zeroL_rel hz ρ
        obtain ⟨hes', hby⟩ := info_eq k1
        have hzs : zv.cells.size = esOf c.P e := by rw [hes', k5]
        have hzl : z.length = esOf c.P e := by rw [hes', k4]
        have hvs : VRL ρ (rep n z) (Builtin.zeroCells zv.cells n).toList := by
          refine VRL.of_get (by simp [rep_length, hzl, Builtin.zeroCells, hzs]) fun i v hi => ?_
          obtain ⟨u, hu, hv⟩ := rep_rel k3 n (n * zv.cells.size) (by rw [hzl, hzs]; exact Nat.le_refl _) i v hi
          exact ⟨u, by rw [Array.getElem?_toList]; exact hu, hv⟩
        have hul : (Builtin.zeroCells zv.cells n).toList.length = n * esOf c.P e := by simp [Builtin.zeroCells, hzs]
        have hkk : ∃ k, (Builtin.zeroCells zv.cells n).toList.length = k * esOf c.P e ∧ k ≤ n := by
          cases p with
          | none =>
            obtain ⟨hn0, _⟩ := (ev_rel hs h4).inv_slN
            exact ⟨0, by rw [hul, hn0], by omega⟩
          | some _ => exact ⟨n, hul, Nat.le_refl _⟩
        obtain ⟨k, hk1, hk2⟩ := hkk
        obtain ⟨A2, cap2, w', hA2, hn2, hst, hw, hrel, hstep⟩ := putS_rel (c := c) hq hr hvs (ev_rel hs h4) hk1 hk2
        refine ⟨.value (.tuple #[]), .tup [], _, ρ, H', w', ?_, .inl rfl, .tup [] [] .nil, hrel, hstep, hK⟩
        have hrun : (Builtin.clear_ cl.argTypes o.type #[a.eval x]).run c.P w = .ok (.tuple #[]) w' := by
          unfold Builtin.clear_
          rw [hA2]
          cases A2 with
          | none =>
            have := hw rfl
            subst this
            simp [hsT, run_underlying hs1, Result.andThen]
          | some ad =>
            have hst' := hst ad rfl
            cases n with
            | zero =>
              have : (Builtin.zeroCells zv.cells 0).toList = [] := by simp [Builtin.zeroCells, Array.range_zero']
              rw [this] at hst'
              simp [storeCells] at hst'
              subst hst'
              simp [hsT, run_underlying hs1, Result.andThen]
            | succ n =>
              simp [hsT, run_underlying hs1, zeroValue, typeInfo, k1, k2, hst', Result.andThen]
        simp [execOp, ho, resolve, hb, hx', invoke, builtin, hrun, Result.andThen]
      · rw [if_neg hc] at h; cases h
    · cases h
  · cases h

end
end Go.Vm
