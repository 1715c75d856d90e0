/-
  Struct and slice literals; make.
-/
import Derived.Test.YtfhjdnekidhjnaaVm7
import Derived.Laws.Tables
import Derived.Laws.MakeOwn
import Derived.Great.BuildSlice
set_option linter.unusedVariables false
set_option linter.unusedSimpArgs false
namespace Go.Vm

theorem VR.isDef_ne {v : V} (h : v.isDef = true) : v ≠ .undef := by rintro rfl; cases h

theorem foldl_setA (off : Nat) : ∀ (us : List Value) (j : Nat) (C : Array Value), ((us.zipIdx j).foldl (fun cs (x : Value × Nat) => cs.setIfInBounds (off + x.2) x.1) C) = setA C (off + j) us
  | [], j, C => rfl
  | u :: us, j, C => by
    simp only [List.zipIdx_cons, List.foldl_cons, setA]
    rw [foldl_setA off us (j + 1)]
    rfl

section
variable {ρ : Map}

theorem setA_toList : ∀ {vs : List V} {us : List Value}, VRL ρ vs us → ∀ {cs : List V} {C : Array Value} (o : Nat), VRL ρ cs C.toList → VRL ρ (setR cs o vs) (setA C o us).toList
  | _, _, .nil, _, _, _, hc => hc
  | _, _, .cons v u vs us h hs, cs, C, o, hc => by
    simp only [setR, setA]
    exact setA_toList hs (o + 1) (by simpa using VRL.set o hc h)

theorem fill_rel (place : Nat → Option (Nat × Nat)) : ∀ {ps : List (Nat × V)} {qs : List (Nat × Value)} {cs cs' : List V} {C : Array Value}, fillL place cs ps = some cs' → VRL ρ cs C.toList →
    qs.map (·.1) = ps.map (·.1) → VRL ρ (ps.map (·.2)) (qs.map (·.2)) → ∃ C', Instr.fill place C qs = some C' ∧ VRL ρ cs' C'.toList
  | [], [], cs, cs', C, h, hc, _, _ => by simp [fillL] at h; subst h; exact ⟨C, rfl, hc⟩
  | [], _ :: _, _, _, _, _, _, he, _ => by simp at he
  | _ :: _, [], _, _, _, _, _, he, _ => by simp at he
  | (i, v) :: ps, (j, u) :: qs, cs, cs', C, h, hc, he, hv => by
    simp at he
    obtain ⟨rfl, he⟩ := he
    cases hv with
    | cons _ _ _ _ hv hvs =>
      unfold fillL at h
      split at h
      · cases h
      · rename_i off size hp
        by_cases hcond : v.cells.length = size ∧ off + v.cells.length ≤ cs.length ∧ v.isDef = true
        · rw [if_pos hcond] at h
          have hcl := hv.cells_rel (VR.isDef_ne hcond.2.2)
          have hl := hcl.length
          have hC := hc.length
          simp at hl hC
          obtain ⟨C', h1, h2⟩ := fill_rel place h (C := setA C off u.cells.toList) (setA_toList hcl off hc) (by simpa using he) hvs
          refine ⟨C', ?_, h2⟩
          unfold Instr.fill
          simp only [hp]
          have n1 : ¬ (u.cells.size ≠ size ∨ off + u.cells.size > C.size) := by omega
          have e1 : (u.cells.zipIdx.foldl (fun cs (x : Value × Nat) => cs.setIfInBounds (off + x.2) x.1) C) = setA C off u.cells.toList := by
            have := foldl_setA off u.cells.toList 0 C
            rw [← Array.foldl_toList]
            simpa using this
          simp only [decide_eq_true_eq, Bool.or_eq_true, ne_eq, n1, if_false]
          have e2 : (u.cells.zipIdx.foldl (fun cs (x : Value × Nat) => match x with | (c, j) => cs.setIfInBounds (off + j) c) C) = setA C off u.cells.toList := e1
          rw [e2]
          exact h1
        · rw [if_neg hcond] at h; cases h

theorem evParts_rel {st : St} {a : Act} (hs : SR ρ st a.tmps) : ∀ {xs : List (Nat × Operand)} {ps : List (Nat × V)}, evParts st xs = some ps →
    (xs.map fun x => (x.1, a.eval x.2)).map (·.1) = ps.map (·.1) ∧ VRL ρ (ps.map (·.2)) ((xs.map fun x => (x.1, a.eval x.2)).map (·.2))
  | [], ps, h => by simp [evParts] at h; subst h; exact ⟨rfl, .nil⟩
  | (i, x) :: xs, ps, h => by
    unfold evParts at h
    split at h
    · rename_i v vs h1 h2
      cases h
      obtain ⟨k1, k2⟩ := evParts_rel hs h2
      exact ⟨by simpa using k1, .cons _ _ _ _ (ev_rel hs h1) k2⟩
    · cases h

theorem rep_get (z : List V) : ∀ (n i : Nat) (v : V), (rep n z)[i]? = some v → i < n * z.length ∧ z[i % z.length]? = some v
  | 0, i, v, h => by simp [rep] at h
  | n + 1, i, v, h => by
    have e : rep (n + 1) z = z ++ rep n z := by simp [rep, List.replicate_succ]
    rw [e] at h
    rw [Nat.add_mul, Nat.one_mul]
    by_cases hi : i < z.length
    · rw [List.getElem?_append_left hi] at h
      rw [Nat.mod_eq_of_lt hi]
      exact ⟨by omega, h⟩
    · rw [List.getElem?_append_right (by omega)] at h
      obtain ⟨h1, h2⟩ := rep_get z n (i - z.length) v h
      rw [Nat.mod_eq_sub_mod (by omega)]
      exact ⟨by omega, h2⟩

theorem rep_length (z : List V) (n : Nat) : (rep n z).length = n * z.length := by simp [rep]

/-- The model's zero cells, so many as are wanted (or more). -/
theorem rep_rel {z : List V} {Z : Array Value} (hz : VRL ρ z Z.toList) (n m : Nat) (hm : n * z.length ≤ m) (i : Nat) (v : V) (h : (rep n z)[i]? = some v) :
    ∃ u, ((Array.range m).map (Z[· % Z.size]!))[i]? = some u ∧ VR ρ v u := by
  obtain ⟨h1, h2⟩ := rep_get z n i v h
  obtain ⟨u, hu, hv⟩ := hz.get h2
  have hl := hz.length
  simp at hl
  refine ⟨u, ?_, hv⟩
  have hu' : Z[i % Z.size]? = some u := by rw [hl]; simpa using hu
  have hlt : i < m := by omega
  have e : Z[i % Z.size]! = u := by rw [getElem!_def, hu']
  simp [hlt, ← e]

section
variable {R : Type} {c : Cfg} {call : CallF} {o : Oper} {st : St} {H : Heap} {K : V → Heap → Option R} {r : R} {w : World} {a : Act}

theorem info_eq {P : Program} {t : TypeId} {i : TypeInfo} (h : P.info? t = some i) : esOf P t = i.size ∧ bytesOf P t = i.bytes := by simp [esOf, bytesOf, h]

theorem did_build {t : TypeId} {parts : Array (Nat × Operand)} (ho : o.op = .build t parts) (h : opX c call o st H K = some r) (hr : Rel ρ H w) (hs : SR ρ st a.tmps) : Did c o a K r ρ H w := by
  unfold opX at h
  rw [ho] at h
  simp only at h
  split at h
  · rename_i z fs ps h1 h2 h3
    split at h
    · rename_i hall
      split at h
      · rename_i cs hf
        obtain ⟨it, zv, k1, k2, k3, k4, k5⟩ := zeroL_rel h1 ρ
        obtain ⟨e1, e2⟩ := evParts_rel (a := a) hs h3
        have hpl : (fun (i : Nat) => (fs[i]?).map fun (f : Field) => (f.offset, esOf c.P f.type)) = fun (i : Nat) => (fs.toList.map fun (f : Field) => (f.offset, esOf c.P f.type)).toArray[i]? := by
          funext i; simp
        rw [hpl] at hf
        obtain ⟨C', f1, f2⟩ := fill_rel _ hf k3 e1 e2
        refine Did.still (u := .agg C') hr ?_ (by simpa using VR.agg (ρ := ρ) cs C'.toList f2) h
        have hplaces : fs.toList.mapM (fun f => (c.P.info? f.type).map fun i => (f.offset, i.size)) = some (fs.toList.map fun f => (f.offset, esOf c.P f.type)) := by
          clear hpl hf f1 f2
          generalize fs.toList = l at hall
          induction l with
          | nil => rfl
          | cons f fs ih =>
            simp only [List.all_cons, Bool.and_eq_true] at hall
            obtain ⟨i, hi⟩ := Option.isSome_iff_exists.1 hall.1
            simp [List.mapM_cons, hi, ih hall.2, esOf]
        have hb : c.P.built t (parts.map fun x => (x.1, a.eval x.2)).toList = some C' := by
          unfold Program.built
          simp only [k1, h2, k2, hplaces, Array.toList_map]
          exact f1
        have hrun := run_build (P := c.P) w t _ C' hb
        simp only [execOp, ho, Sem.run_bind]
        have e3 : (parts.map fun x => match x with | (i, x) => (i, a.eval x)) = parts.map fun x => (x.1, a.eval x.2) := rfl
        rw [e3, hrun]
        rfl
      · cases h
    · cases h
  · rename_i z n e ps h1 h2 h3
    by_cases he : 0 < esOf c.P e
    · rw [if_pos he] at h
      split at h
      · rename_i cs hf
        obtain ⟨it, zv, k1, k2, k3, k4, k5⟩ := zeroL_rel h1 ρ
        obtain ⟨e1, e2⟩ := evParts_rel (a := a) hs h3
        obtain ⟨C', f1, f2⟩ := fill_rel _ hf k3 e1 e2
        refine Did.still (u := .agg C') hr ?_ (by simpa using VR.agg (ρ := ρ) cs C'.toList f2) h
        obtain ⟨ie, hie⟩ := Option.isSome_iff_exists.1 (info_of_es he)
        have hb : c.P.built t (parts.map fun x => (x.1, a.eval x.2)).toList = some C' := by
          unfold Program.built
          simp only [k1, h2, k2, hie, Array.toList_map]
          rw [← (info_eq hie).1]
          exact f1
        have hrun := run_build (P := c.P) w t _ C' hb
        simp only [execOp, ho, Sem.run_bind]
        have e3 : (parts.map fun x => match x with | (i, x) => (i, a.eval x)) = parts.map fun x => (x.1, a.eval x.2) := rfl
        rw [e3, hrun]
        rfl
      · cases h
    · rw [if_neg he] at h; cases h
  · cases h

/-- A new slice. -/
theorem did_newS {es n cap : Nat} {cs : List V} {C : Array Value} {ty : TypeId} (hsm : es < 8589934592) (hr : Rel ρ H w) (hn : n ≤ cap) (hC : C.size = cap * es) (hl : cs.length ≤ C.size)
    (hcs : ∀ (i : Nat) (v : V), cs[i]? = some v → ∃ u, C[i]? = some u ∧ VR ρ v u)
    (w' : World) (hw : w'.heap = (w.alloc (.cells C ty)).heap) (e1 : w'.os = w.os) (e2 : w'.tape = w.tape) (e3 : w'.output = w.output)
    (hx : (execOp a.eval o).run c.P w = .ok (.value (.slice (some ⟨w.heap.size, 0, none⟩) n cap)) w')
    (h : K (.sl es (some (H.length, 0)) n) (newH H cs) = some r) : Did c o a K r ρ H w := by
  have hk : ∀ i, i < w.heap.size → w'.heap[i]? = w.heap[i]? := fun i hi => by rw [hw]; exact alloc_same w _ i hi
  refine ⟨_, _, _, ρ.put H.length ⟨w.heap.size, 0, C.size, .rw⟩, newH H cs, _, hx, .inl rfl, ?_, ?_, ?_, h⟩
  · exact .sl es _ 0 n cap _ ⟨w.heap.size, 0, C.size, .rw⟩ (Map.put_at _ _ _) hn (.inr rfl) (fun _ => by simp [hC]) (fun hh => by cases hh) (by simp) (fun hh => absurd hh (by omega))
  · exact hr.new cs C ty (0, 0) hk (by rw [hw]; exact alloc_new w _) (fun i _ => by omega) hcs hl
  · exact Step.snoc hr _ _ hk (by rw [hw]; simp) (Nat.le_refl _) e1 e2 e3

theorem did_buildSlice {t : TypeId} {n : Nat} {parts : Array (Nat × Operand)} (ho : o.op = .buildSlice t n parts) (h : opX c call o st H K = some r) (hr : Rel ρ H w) (hs : SR ρ st a.tmps) : Did c o a K r ρ H w := by
  unfold opX at h
  rw [ho] at h
  simp only at h
  split at h
  · rename_i e ps h1 h2
    split at h
    · rename_i z hz
      by_cases hc : n * esOf c.P e ≤ 16777216 ∧ 0 < esOf c.P e ∧ esOf c.P e < 8589934592
      · rw [if_pos hc] at h
        have hsm := hc.2.2
        replace hc := And.intro hc.1 hc.2.1
        split at h
        · rename_i cs hf
          obtain ⟨it, zv, k1, k2, k3, k4, k5⟩ := zeroL_rel hz ρ
          obtain ⟨e1, e2⟩ := evParts_rel (a := a) hs h2
          have hes := (info_eq k1).1
          have hzs : zv.cells.size = esOf c.P e := by rw [hes, k5]
          have hzl : z.length = esOf c.P e := by rw [hes, k4]
          have hrep : VRL ρ (rep n z) ((Array.range (n * esOf c.P e)).map (zv.cells[· % zv.cells.size]!)).toList := by
            refine VRL.of_get (by simp [rep_length, hzl]) fun i v hi => ?_
            obtain ⟨u, hu, hv⟩ := rep_rel k3 n (n * esOf c.P e) (by rw [hzl]; exact Nat.le_refl _) i v hi
            exact ⟨u, by rw [Array.getElem?_toList]; exact hu, hv⟩
          obtain ⟨C', f1, f2⟩ := fill_rel _ hf hrep e1 e2
          have hcl : C'.size = n * esOf c.P e := by
            have h9 : cs.length = (rep n z).length := by
              have key : ∀ (ps : List (Nat × V)) (cs cs' : List V), fillL (fun i => some (i * esOf c.P e, esOf c.P e)) cs ps = some cs' → cs'.length = cs.length := by
                intro ps
                induction ps with
                | nil => intro cs cs' hh; simp [fillL] at hh; rw [hh]
                | cons p ps ih =>
                  intro cs cs' hh
                  obtain ⟨i, v⟩ := p
                  unfold fillL at hh
                  simp only at hh
                  split at hh
                  · rw [ih _ _ hh, length_setR]
                  · cases hh
              exact key _ _ _ hf
            have := f2.length
            simp at this
            rw [this, h9, rep_length, hzl]
          by_cases hn0 : n = 0
          · subst hn0
            simp at hcl
            subst hcl
            have hps : Instr.fill (fun i => some (i * esOf c.P e, esOf c.P e)) #[] (parts.toList.map fun x => (x.1, a.eval x.2)) = some #[] := by simpa [Array.range_zero'] using f1
            refine did_newS hsm (cap := 0) (C := #[]) (ty := e) (w' := w.alloc (.cells #[] e)) hr (Nat.le_refl _) (by simp) (by have := f2.length; simp at this; omega) (fun i v hi => by obtain ⟨u, hu, hv⟩ := f2.get hi; simp at hu) rfl rfl rfl rfl ?_ h
            have e3 : (parts.map fun x => match x with | (i, x) => (i, a.eval x)) = parts.map fun x => (x.1, a.eval x.2) := rfl
            have hrun : (Instr.buildSlice t 0 (parts.map fun x => (x.1, a.eval x.2))).run c.P w = .ok (.slice (some ⟨w.heap.size, 0, none⟩) 0 0) (w.alloc (.cells #[] e)) := by
              simp [Instr.buildSlice, run_underlying h1, sizeOf, typeInfo, k1, newRow, Array.range_zero']
              rw [← hes, hps]
              simp
            simp only [execOp, ho, Sem.run_bind]
            rw [e3, hrun]
            rfl
          · refine did_newS hsm (cap := n) (C := C') (ty := e) (w' := w.alloc (.cells C' e)) hr (Nat.le_refl _) hcl (by have := f2.length; simp at this; omega) (fun i v hi => by obtain ⟨u, hu, hv⟩ := f2.get hi; exact ⟨u, by simpa using hu, hv⟩) rfl rfl rfl rfl ?_ h
            have e3 : (parts.map fun x => match x with | (i, x) => (i, a.eval x)) = parts.map fun x => (x.1, a.eval x.2) := rfl
            have hpos : ¬ n * it.size = 0 := by rw [← hes]; intro h0; rcases Nat.mul_eq_zero.1 h0 with h0 | h0 <;> omega
            have hrun : (Instr.buildSlice t n (parts.map fun x => (x.1, a.eval x.2))).run c.P w = .ok (.slice (some ⟨w.heap.size, 0, none⟩) n n) (w.alloc (.cells C' e)) := by
              have hsm : ¬ (n * it.size > 2 ^ 24) := by rw [← hes]; omega
              have hf2 : Instr.fill (fun i => some (i * it.size, it.size)) ((Array.range (n * it.size)).map (zv.cells[· % zv.cells.size]!)) (parts.map fun x => (x.1, a.eval x.2)).toList = some C' := by
                rw [← hes]; simpa using f1
              exact run_buildSlice w t e n _ C' it zv h1 k1 k2 hsm hpos hf2
            simp only [execOp, ho, Sem.run_bind]
            rw [e3, hrun]
            rfl
        · cases h
      · rw [if_neg hc] at h; cases h
    · cases h
  · cases h

end
end
end Go.Vm
