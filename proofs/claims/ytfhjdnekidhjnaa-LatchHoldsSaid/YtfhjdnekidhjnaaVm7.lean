/-
  len, min, max; new memory; stores; append and its kin.
-/
import Derived.Test.YtfhjdnekidhjnaaVm6
set_option linter.unusedVariables false
set_option linter.unusedSimpArgs false
namespace Go.Vm

theorem evs_two {st : St} {xs : List Operand} {x y : V} (h : evs st xs = some [x, y]) : ∃ a b, xs = [a, b] ∧ ev st a = some x ∧ ev st b = some y := by
  cases xs with
  | nil => cases h
  | cons p xs =>
    unfold evs at h
    split at h
    · rename_i v vs h1 h2
      cases h
      cases xs with
      | nil => cases h2
      | cons q xs =>
        unfold evs at h2
        split at h2
        · rename_i v vs h3 h4
          cases h2
          cases xs with
          | nil => exact ⟨p, q, rfl, h1, h3⟩
          | cons s xs =>
            unfold evs at h4
            split at h4 <;> cases h4
        · cases h2
    · cases h
theorem evs_one {st : St} {xs : List Operand} {x : V} (h : evs st xs = some [x]) : ∃ a, xs = [a] ∧ ev st a = some x := by
  cases xs with
  | nil => cases h
  | cons p xs =>
    unfold evs at h
    split at h
    · rename_i v vs h1 h2
      cases h
      cases xs with
      | nil => exact ⟨p, rfl, h1⟩
      | cons q xs =>
        unfold evs at h2
        split at h2 <;> cases h2
    · cases h

theorem arr_two {α : Type} {xs : Array α} {a b : α} (h : xs.toList = [a, b]) : xs = #[a, b] := by cases xs; simp_all
theorem arr_one {α : Type} {xs : Array α} {a : α} (h : xs.toList = [a]) : xs = #[a] := by cases xs; simp_all

section
variable {R : Type} {c : Cfg} {call : CallF} {o : Oper} {st : St} {H : Heap} {K : V → Heap → Option R} {r : R} {ρ : Map} {w : World} {a : Act}

theorem did_len {cl : Call} (ho : o.op = .call cl) (hb : cl.callee = .builtin .len) (h : opX c call o st H K = some r) (hr : Rel ρ H w) (hs : SR ρ st a.tmps) : Did c o a K r ρ H w := by
  unfold opX at h
  rw [ho] at h
  simp only [hb] at h
  split at h
  · rename_i s h1 h2
    obtain ⟨x, hx, h1⟩ := evs_one h1
    have hx' := arr_one hx
    have e := (ev_rel hs h1).inv_str
    obtain ⟨t, ht, ht'⟩ := Option.bind_eq_some_iff.1 h2
    exact Did.still hr (by simp [execOp, ho, resolve, hb, hx', invoke, builtin, Builtin.len_, ht, e, run_underlying ht', goInt, Result.andThen]) (.int _ _) h
  · rename_i es p n e' h1 h2
    obtain ⟨x, hx, h1⟩ := evs_one h1
    have hx' := arr_one hx
    obtain ⟨A, cap, e, _, _⟩ := (ev_rel hs h1).inv_slany
    obtain ⟨t, ht, ht'⟩ := Option.bind_eq_some_iff.1 h2
    exact Did.still hr (by simp [execOp, ho, resolve, hb, hx', invoke, builtin, Builtin.len_, ht, e, run_underlying ht', goInt, Result.andThen]) (.int _ _) h
  · rename_i v n e' _ _ h1 h2
    obtain ⟨x, hx, h1⟩ := evs_one h1
    have hx' := arr_one hx
    obtain ⟨t, ht, ht'⟩ := Option.bind_eq_some_iff.1 h2
    exact Did.still hr (by simp [execOp, ho, resolve, hb, hx', invoke, builtin, Builtin.len_, ht, run_underlying ht', goInt, Result.andThen]) (.int _ _) h
  · cases h

theorem did_min {cl : Call} (ho : o.op = .call cl) (hb : cl.callee = .builtin .min) (h : opX c call o st H K = some r) (hr : Rel ρ H w) (hs : SR ρ st a.tmps) : Did c o a K r ρ H w := by
  unfold opX at h
  rw [ho] at h
  simp only [hb] at h
  split at h
  · rename_i k p k' q h1
    obtain ⟨x, y, hx, h1, h2⟩ := evs_two h1
    have hx' := arr_two hx
    have e1 := (ev_rel hs h1).inv_int
    have e2 := (ev_rel hs h2).inv_int
    exact Did.still hr (by simp [execOp, ho, resolve, hb, hx', invoke, builtin, Builtin.min_, Builtin.min2, e1, e2, Result.andThen]) (.int _ _) h
  · cases h

theorem did_max {cl : Call} (ho : o.op = .call cl) (hb : cl.callee = .builtin .max) (h : opX c call o st H K = some r) (hr : Rel ρ H w) (hs : SR ρ st a.tmps) : Did c o a K r ρ H w := by
  unfold opX at h
  rw [ho] at h
  simp only [hb] at h
  split at h
  · rename_i k p k' q h1
    obtain ⟨x, y, hx, h1, h2⟩ := evs_two h1
    have hx' := arr_two hx
    have e1 := (ev_rel hs h1).inv_int
    have e2 := (ev_rel hs h2).inv_int
    exact Did.still hr (by simp [execOp, ho, resolve, hb, hx', invoke, builtin, Builtin.max_, Builtin.max2, e1, e2, Result.andThen]) (.int _ _) h
  · cases h

/-! ### New memory -/

theorem VR.cells_rel {ρ : Map} {v : V} {u : Value} (h : VR ρ v u) (hne : v ≠ .undef) : VRL ρ v.cells u.cells.toList := by
  cases h with
  | undef => exact absurd rfl hne
  | agg cs us h => simpa [V.cells, Value.cells] using h
  | int k n => exact .cons _ _ _ _ (.int k n) .nil
  | bool b => exact .cons _ _ _ _ (.bool b) .nil
  | str s => exact .cons _ _ _ _ (.str s) .nil
  | ptrN => exact .cons _ _ _ _ .ptrN .nil
  | ptr b o L h hk => exact .cons _ _ _ _ (.ptr b o L h hk) .nil
  | slN es => exact .cons _ _ _ _ (.slN es) .nil
  | sl es b o n cap a L h hn ha hr hv hl hc => exact .cons _ _ _ _ (.sl es b o n cap a L h hn ha hr hv hl hc) .nil
  | fn f cs us h => exact .cons _ _ _ _ (.fn f cs us h) .nil
  | yld b L h hk => exact .cons _ _ _ _ (.yld b L h hk) .nil
  | nilFn => exact .cons _ _ _ _ .nilFn .nil
  | nilIface => exact .cons _ _ _ _ .nilIface .nil
  | tup cs us h => exact .cons _ _ _ _ (.tup cs us h) .nil

/-- A new variable. -/
theorem did_new {cs : List V} {us : List Value} {ty : TypeId} (hr : Rel ρ H w) (hcs : VRL ρ cs us)
    (hx : (execOp a.eval o).run c.P w = .ok (.value (.pointer (some ⟨w.heap.size, 0, none⟩))) (w.alloc (.cells us.toArray ty)))
    (h : K (.ptr (some (H.length, 0))) (newH H cs) = some r) : Did c o a K r ρ H w := by
  have hl : us.length = cs.length := hcs.length
  refine ⟨_, _, _, ρ.put H.length ⟨w.heap.size, 0, us.toArray.size, .rw⟩, newH H cs, _, hx, .inl rfl, ?_, ?_, ?_, h⟩
  · exact .ptr _ 0 ⟨w.heap.size, 0, us.toArray.size, .rw⟩ (Map.put_at _ _ _) (.inl rfl)
  · exact hr.new cs us.toArray ty (0, 0) (alloc_same w _) (alloc_new w _) (fun i _ => by omega) hcs.cells (by simp [hl])
  · exact Step.snoc hr _ _ (alloc_same w _) (by simp) (Nat.le_refl _) rfl rfl rfl

theorem zeroL_rel {P : Program} {t : TypeId} {z : List V} (h : zeroL P t = some z) (ρ : Map) : ∃ i zv, P.info? t = some i ∧ i.zero = some zv ∧ VRL ρ z zv.cells.toList ∧ z.length = i.size ∧ zv.cells.size = i.size := by
  unfold zeroL at h
  split at h
  · rename_i i hi
    split at h
    · rename_i zv hz
      split at h
      · rename_i v hv
        by_cases hl : v.cells.length = i.size
        · rw [if_pos hl] at h
          cases h
          have hne : v ≠ .undef := by
            rintro rfl
            unfold constV at hv
            split at hv
            · rename_i cs
              cases hc : constLs cs.toList <;> rw [hc] at hv <;> cases hv
            · unfold constL at hv
              split at hv <;> cases hv
          have hr := (constV_rel ρ hv).cells_rel hne
          have := hr.length
          exact ⟨i, zv, hi, hz, hr, hl, by rw [← hl, ← this]; simp⟩
        · rw [if_neg hl] at h; cases h
      · cases h
    · cases h
  · cases h

theorem did_alloc {t : TypeId} (ho : o.op = .alloc t) (h : opX c call o st H K = some r) (hr : Rel ρ H w) : Did c o a K r ρ H w := by
  unfold opX at h
  rw [ho] at h
  simp only at h
  split at h
  · rename_i z hz
    obtain ⟨i, zv, h1, h2, h3, h4, _⟩ := zeroL_rel hz ρ
    refine did_new (ty := t) hr h3 ?_ h
    simp [execOp, ho, Instr.alloc, zeroValue, typeInfo, h1, h2, newVar, newRow, Result.andThen]
  · cases h

theorem did_box {t : TypeId} {x : Operand} (ho : o.op = .box t x) (h : opX c call o st H K = some r) (hr : Rel ρ H w) (hs : SR ρ st a.tmps) : Did c o a K r ρ H w := by
  unfold opX at h
  rw [ho] at h
  simp only at h
  split at h
  · cases h
  · rename_i v hne hv
    refine did_new (ty := t) hr ((ev_rel hs hv).cells_rel hne) ?_ h
    simp [execOp, ho, Instr.box, newVar, newRow, Result.andThen]
  · cases h

/-! ### Stores -/

def setA (C : Array Value) (k : Nat) : List Value → Array Value
  | [] => C
  | u :: us => setA (C.setIfInBounds k u) (k + 1) us

theorem size_setA : ∀ (us : List Value) (C : Array Value) (k : Nat), (setA C k us).size = C.size
  | [], _, _ => rfl
  | u :: us, C, k => by simp [setA, size_setA us]

theorem VR.one {v : V} {u : Value} (h : VR ρ v u) (h1 : v.one = true) : u.oneCell' = true := by
  cases h <;> first | rfl | (simp [V.one] at h1)

theorem ones_rel : ∀ {vs : List V} {us : List Value}, VRL ρ vs us → ones vs = true → ∀ u ∈ us, u.oneCell' = true
  | _, _, .nil, _, u, hu => by simp at hu
  | _, _, .cons v x vs us h hs, h1, u, hu => by
    simp only [ones, Bool.and_eq_true] at h1
    rcases List.mem_cons.1 hu with rfl | hu
    · exact h.one h1.1
    · exact ones_rel hs h1.2 u hu

theorem setA_rel : ∀ {vs : List V} {us : List Value}, VRL ρ vs us → ∀ {cs : List V} {C : Array Value} {base : Nat} (o : Nat), o + vs.length ≤ cs.length →
    (∀ (i : Nat) (v : V), cs[i]? = some v → ∃ u, C[base + i]? = some u ∧ VR ρ v u) → ∀ (i : Nat) (v : V), (setR cs o vs)[i]? = some v → ∃ u, (setA C (base + o) us)[base + i]? = some u ∧ VR ρ v u
  | _, _, .nil, cs, C, base, o, _, hc => hc
  | _, _, .cons v u vs us h hs, cs, C, base, o, hl, hc => by
    simp only [setR, setA]
    have := setA_rel hs (cs := cs.set o v) (C := C.setIfInBounds (base + o) u) (base := base) (o + 1) (by simp at hl ⊢; omega) (fun i x hi => by
      by_cases e : o = i
      · subst e
        have hlt : o < cs.length := by simp at hl; omega
        rw [List.getElem?_set_self hlt] at hi
        cases hi
        obtain ⟨y, hy, _⟩ := hc o cs[o] (List.getElem?_eq_getElem hlt)
        have hlt' := (Array.getElem?_eq_some_iff.1 hy).1
        exact ⟨u, by simp [Array.getElem?_setIfInBounds, hlt'], h⟩
      · rw [List.getElem?_set_ne e] at hi
        obtain ⟨y, hy, hv⟩ := hc i x hi
        exact ⟨y, by rw [Array.getElem?_setIfInBounds_ne (by omega)]; exact hy, hv⟩)
    exact this

theorem length_setR : ∀ (vs : List V) (cs : List V) (o : Nat), (setR cs o vs).length = cs.length
  | [], _, _ => rfl
  | v :: vs, cs, o => by simp [setR, length_setR vs]

theorem run_storeCells {P : Program} (b o : Nat) (ty : TypeId) (fz : Nat × Nat) : ∀ (us : List Value) (i : Nat) (C : Array Value) (w : World), w.heap[b]? = some (.cells C ty fz) → o + i + us.length ≤ C.size →
    (∀ j, j < C.size → ¬ (fz.1 ≤ j ∧ j < fz.2)) → (∀ u ∈ us, u.oneCell' = true) →
    ∃ w', (storeCells ⟨b, o, none⟩ us i).run P w = .ok () w' ∧ w'.heap[b]? = some (.cells (setA C (o + i) us) ty fz) ∧ (∀ j, j ≠ b → w'.heap[j]? = w.heap[j]?) ∧ w'.heap.size = w.heap.size ∧
      w'.os = w.os ∧ w'.tape = w.tape ∧ w'.output = w.output
  | [], i, C, w, hb, hl, hf, h1 => ⟨w, by simp [storeCells], hb, fun _ _ => rfl, rfl, rfl, rfl, rfl⟩
  | u :: us, i, C, w, hb, hl, hf, h1 => by
    have hlt : o + i < C.size := by simp at hl; omega
    have hcell : w.cell? ⟨b, o + i, none⟩ = some C[o + i] := by simp [World.cell?, hb, hlt]
    have hfr : w.frozen? ⟨b, o + i, none⟩ = false := by
      have := hf _ hlt
      obtain ⟨f1, f2⟩ := fz
      simp [World.frozen?, hb] at this ⊢
      exact this
    have hb' : (w.setCell ⟨b, o + i, none⟩ u).heap[b]? = some (.cells (C.setIfInBounds (o + i) u) ty fz) := by
      simp [World.setCell, Array.getElem?_modify, hb]
    obtain ⟨w', h2, h3, h4, h5, h6, h7, h8⟩ := run_storeCells b o ty fz us (i + 1) (C.setIfInBounds (o + i) u) (w.setCell ⟨b, o + i, none⟩ u) hb' (by simp at hl ⊢; omega) (by simpa using hf) (fun x hx => h1 x (List.mem_cons_of_mem _ hx))
    refine ⟨w', ?_, h3, fun j hj => (h4 j hj).trans ?_, by rw [h5]; simp, h6, h7, h8⟩
    · have hst := run_store P w ⟨b, o + i, none⟩ u .plain (h1 u (List.mem_cons_self))
      simp only [storeCells, Addr.add_lit, Sem.run_bind, hst, hcell, hfr, Result.andThen, if_false, Bool.false_eq_true]
      exact h2
    · simp [World.setCell, Array.getElem?_modify, Ne.symm hj]

/-- What a store into the heap does. -/
theorem putH_rel {P : Program} {b o' : Nat} {vs : List V} {us : List Value} {H' : Heap} (h : putH H b o' vs = some H') (hr : Rel ρ H w) (hv : VRL ρ vs us) :
    ∃ L w', ρ b = some L ∧ L.kind = .rw ∧ (storeCells ⟨L.blk, L.base + o', none⟩ us).run P w = .ok () w' ∧ Rel ρ H' w' ∧ Step ρ H w ρ H' w' := by
  unfold putH at h
  split at h
  · rename_i cs hb
    by_cases hc : o' + vs.length ≤ cs.length ∧ ones vs = true
    · rw [if_pos hc] at h
      cases h
      obtain ⟨L, C, ty, fz, h1, h2, h3, h4, h5⟩ := hr.blk _ _ hb
      obtain ⟨h51, h52, h53⟩ := h5 rfl
      have hul := hv.length
      obtain ⟨w', k1, k2, k3, k4, k5, k6, k7⟩ := run_storeCells (P := P) L.blk (L.base + o') ty fz us 0 C w h3 (by omega) (fun i hi => h53 i (Nat.le_of_lt hi)) (ones_rel hv hc.2)
      have hk : ∀ i, i < w.heap.size → i ≠ L.blk → w'.heap[i]? = w.heap[i]? := fun i _ hi => k3 i hi
      have ho : Owned H b := .inl ⟨_, hb⟩
      refine ⟨L, w', h1, h2, k1, hr.set b L _ h1 ho hk ?_, Step.set b L _ h1 ho hk (by omega) k5 k6 k7⟩
      refine ⟨L, _, ty, fz, h1, h2, k2, ?_, fun _ => ⟨by rw [size_setA]; exact h51, by rw [size_setA, length_setR]; exact h52, by rw [size_setA]; exact h53⟩⟩
      have := setA_rel hv (base := L.base) (C := C) o' hc.1 h4
      simpa using this
    · rw [if_neg hc] at h; cases h
  · cases h

theorem did_store {t : TypeId} {x y : Operand} (ho : o.op = .store t x y) (h : opX c call o st H K = some r) (hr : Rel ρ H w) (hs : SR ρ st a.tmps) : Did c o a K r ρ H w := by
  unfold opX at h
  rw [ho] at h
  simp only at h
  split at h
  · rename_i p v h1 h2
    by_cases hl : v.cells.length = esOf c.P t ∧ 0 < esOf c.P t
    · rw [if_pos hl] at h
      cases p with
      | none => cases h
      | some p =>
        obtain ⟨b, o'⟩ := p
        simp only [Option.bind_some] at h
        obtain ⟨H', hp, hK⟩ := Option.bind_eq_some_iff.1 h
        obtain ⟨L, hL, hk, e1⟩ := (ev_rel hs h1).inv_ptr
        have e2 := ev_rel hs h2
        have hne : v ≠ .undef := by
          rintro rfl
          unfold putH at hp
          split at hp
          · simp [V.cells, ones, V.one] at hp
          · cases hp
        have hcs := e2.cells_rel hne
        obtain ⟨L', w', hL', _, hrun, hrel, hstep⟩ := putH_rel (P := c.P) hp hr hcs
        rw [hL] at hL'; cases hL'
        have hsz : (a.eval y).cells.size = esOf c.P t := by rw [← hl.1, ← hcs.length]; simp
        refine ⟨.skip, .undef, Go.undef, ρ, H', w', ?_, .inr ⟨rfl, rfl⟩, .undef _, hrel, hstep, hK⟩
        simp [execOp, ho, e1, Instr.storeAt, Instr.sureAddr, storeVar, run_sizeOf (info_of_es hl.2), hsz, hrun, Result.andThen]
    · rw [if_neg hl] at h; cases h
  · cases h

end
end Go.Vm
