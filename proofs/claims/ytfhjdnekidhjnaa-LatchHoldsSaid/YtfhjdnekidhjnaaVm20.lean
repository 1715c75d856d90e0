/-
  Regions whose order is drawn: a new variable, wherever it is made.
-/
import Derived.Test.YtfhjdnekidhjnaaVm19
set_option linter.unusedVariables false
set_option linter.unusedSimpArgs false
namespace Go.Vm

section
variable {c : Cfg} {o : Oper} {st : St} {w : World} {a : Act} {ρ : Map}

def News (c : Cfg) (o : Oper) (a : Act) (ρ : Map) (w : World) (cs : List V) (mk : Nat → V) : Prop :=
  ∃ u C ty w', (execOp a.eval o).run c.P w = .ok (.value u) w' ∧ w'.heap = (w.alloc (.cells C ty)).heap ∧ w'.os = w.os ∧ w'.tape = w.tape ∧ w'.output = w.output ∧
    (∀ (i : Nat) (v : V), cs[i]? = some v → ∃ u, C[i]? = some u ∧ VR ρ v u) ∧ cs.length ≤ C.size ∧ ∀ (ρ' : Map) s, ρ' s = some ⟨w.heap.size, 0, C.size, .rw⟩ → VR ρ' (mk s) u

theorem news_ptr {cs : List V} {us : List Value} {ty : TypeId} (hcs : VRL ρ cs us)
    (hx : (execOp a.eval o).run c.P w = .ok (.value (.pointer (some ⟨w.heap.size, 0, none⟩))) (w.alloc (.cells us.toArray ty))) : News c o a ρ w cs fun s => .ptr (some (s, 0)) := by
  refine ⟨_, us.toArray, ty, _, hx, rfl, rfl, rfl, rfl, hcs.cells, by simp [hcs.length], fun ρ' s hs => ?_⟩
  exact .ptr _ 0 _ hs (.inl rfl)

theorem news_sl {es n cap : Nat} {cs : List V} {C : Array Value} {ty : TypeId} (hsm : es < 8589934592) (hn : n ≤ cap) (hC : C.size = cap * es) (hl : cs.length ≤ C.size)
    (hcs : ∀ (i : Nat) (v : V), cs[i]? = some v → ∃ u, C[i]? = some u ∧ VR ρ v u)
    (w' : World) (hw : w'.heap = (w.alloc (.cells C ty)).heap) (e1 : w'.os = w.os) (e2 : w'.tape = w.tape) (e3 : w'.output = w.output)
    (hx : (execOp a.eval o).run c.P w = .ok (.value (.slice (some ⟨w.heap.size, 0, none⟩) n cap)) w') : News c o a ρ w cs fun s => .sl es (some (s, 0)) n := by
  refine ⟨_, C, ty, w', hx, hw, e1, e2, e3, hcs, hl, fun ρ' s hs => ?_⟩
  exact .sl es _ 0 n cap _ ⟨w.heap.size, 0, C.size, .rw⟩ hs hn (.inr rfl) (fun _ => by simp [hC]) (fun hh => by cases hh) (by simp) (fun hh => absurd hh (by omega))

theorem new_sound {cs : List V} {mk : Nat → V} (h : newX c o st = some (cs, mk)) (hs : SR ρ st a.tmps) : News c o a ρ w cs mk := by
  unfold newX at h
  split at h
  · rename_i t ho
    split at h
    · rename_i z hz
      cases h
      obtain ⟨i, zv, h1, h2, h3, h4, _⟩ := zeroL_rel hz ρ
      refine news_ptr (ty := t) h3 ?_
      simp [execOp, ho, Instr.alloc, zeroValue, typeInfo, h1, h2, newVar, newRow, Result.andThen]
    · cases h
  · rename_i t x ho
    split at h
    · cases h
    · rename_i v hne hv
      cases h
      refine news_ptr (ty := t) ((ev_rel hs hv).cells_rel hne) ?_
      simp [execOp, ho, Instr.box, newVar, newRow, Result.andThen]
    · cases h
  · rename_i t n parts ho
    split at h
    · rename_i e ps h1 h2
      split at h
      · rename_i z hz
        by_cases hc : n * esOf c.P e ≤ 16777216 ∧ 0 < esOf c.P e ∧ esOf c.P e < 8589934592
        · rw [if_pos hc] at h
          have hsm := hc.2.2
          replace hc := And.intro hc.1 hc.2.1
          split at h
          · rename_i cs hf
            cases h
            obtain ⟨it, zv, k1, k2, k3, k4, k5⟩ := zeroL_rel hz ρ
            obtain ⟨e1, e2⟩ := evParts_rel (a := a) hs h2
            have hes := (info_eq k1).1
            have hzs : zv.cells.size = esOf c.P e := by rw [hes, k5]
            have hzl : z.length = esOf c.P e := by rw [hes, k4]
            have hrep : VRL ρ (rep n z) ((Array.range (n * esOf c.P e)).map (zv.cells[· % zv.cells.size]!)).toList := by
              refine VRL.of_get (by simp [rep_length, hzl]) fun i v hi => ?_
              obtain ⟨u, hu, hv⟩ := rep_rel k3 n (n * esOf c.P e) (by rw [hzl]; exact Nat.le_refl _) i v hi
              exact ⟨u, by rw [Array.getElem?_toList]; exact hu, hv⟩
            obtain ⟨C', f1, f2⟩ := fill_rel _ hf hrep e1 e2
            have hcl : C'.size = n * esOf c.P e := by
              have h9 : cs.length = (rep n z).length := by
                have key : ∀ (ps : List (Nat × V)) (cs cs' : List V), fillL (fun i => some (i * esOf c.P e, esOf c.P e)) cs ps = some cs' → cs'.length = cs.length := by
                  intro ps
                  induction ps with
                  | nil => intro cs cs' hh; simp [fillL] at hh; rw [hh]
                  | cons p ps ih =>
                    intro cs cs' hh
                    obtain ⟨i, v⟩ := p
                    unfold fillL at hh
                    simp only at hh
                    split at hh
                    · rw [ih _ _ hh, length_setR]
                    · cases hh
                exact key _ _ _ hf
              have := f2.length
              simp at this
              rw [this, h9, rep_length, hzl]
            by_cases hn0 : n = 0
            · subst hn0
              simp at hcl
              subst hcl
              have hps : Instr.fill (fun i => some (i * esOf c.P e, esOf c.P e)) #[] (parts.toList.map fun x => (x.1, a.eval x.2)) = some #[] := by simpa [Array.range_zero'] using f1
              refine news_sl hsm (cap := 0) (C := #[]) (ty := e) (w' := w.alloc (.cells #[] e)) (Nat.le_refl _) (by simp) (by have := f2.length; simp at this; omega) (fun i v hi => by obtain ⟨u, hu, hv⟩ := f2.get hi; simp at hu) rfl rfl rfl rfl ?_
              have e3 : (parts.map fun x => match x with | (i, x) => (i, a.eval x)) = parts.map fun x => (x.1, a.eval x.2) := rfl
              have hrun : (Instr.buildSlice t 0 (parts.map fun x => (x.1, a.eval x.2))).run c.P w = .ok (.slice (some ⟨w.heap.size, 0, none⟩) 0 0) (w.alloc (.cells #[] e)) := by
                simp [Instr.buildSlice, run_underlying h1, sizeOf, typeInfo, k1, newRow, Array.range_zero']
                rw [← hes, hps]
                simp
              simp only [execOp, ho, Sem.run_bind]
              rw [e3, hrun]
              rfl
            · refine news_sl hsm (cap := n) (C := C') (ty := e) (w' := w.alloc (.cells C' e)) (Nat.le_refl _) hcl (by have := f2.length; simp at this; omega) (fun i v hi => by obtain ⟨u, hu, hv⟩ := f2.get hi; exact ⟨u, by simpa using hu, hv⟩) rfl rfl rfl rfl ?_
              have e3 : (parts.map fun x => match x with | (i, x) => (i, a.eval x)) = parts.map fun x => (x.1, a.eval x.2) := rfl
              have hpos : ¬ n * it.size = 0 := by rw [← hes]; intro h0; rcases Nat.mul_eq_zero.1 h0 with h0 | h0 <;> omega
              have hrun : (Instr.buildSlice t n (parts.map fun x => (x.1, a.eval x.2))).run c.P w = .ok (.slice (some ⟨w.heap.size, 0, none⟩) n n) (w.alloc (.cells C' e)) := by
                have hsm : ¬ (n * it.size > 2 ^ 24) := by rw [← hes]; omega
                have hf2 : Instr.fill (fun i => some (i * it.size, it.size)) ((Array.range (n * it.size)).map (zv.cells[· % zv.cells.size]!)) (parts.map fun x => (x.1, a.eval x.2)).toList = some C' := by
                  rw [← hes]; simpa using f1
                exact run_buildSlice w t e n _ C' it zv h1 k1 k2 hsm hpos hf2
              simp only [execOp, ho, Sem.run_bind]
              rw [e3, hrun]
              rfl
          · cases h
        · rw [if_neg hc] at h; cases h
      · cases h
    · cases h
  · cases h

/-- The new variable's value is no empty tuple. -/
theorem new_tup {cs : List V} {mk : Nat → V} (h : newX c o st = some (cs, mk)) (s : Nat) : ∀ vs, mk s ≠ .tup vs := by
  unfold newX at h
  intro vs
  split at h
  · split at h
    · cases h; simp
    · cases h
  · split at h
    · cases h
    · cases h; simp
    · cases h
  · split at h
    · split at h
      · split at h
        · split at h
          · cases h; simp
          · cases h
        · cases h
      · cases h
    · cases h
  · cases h

theorem newX_congr {st' : St} (h : ∀ x ∈ o.op.operands.toList, ev st x = ev st' x) : newX c o st = newX c o st' := by
  unfold newX
  cases ho : o.op <;> rw [ho] at h <;> simp only [Op.operands] at h
  case buildSlice t n ps =>
    have := evParts_congr (st := st) (st' := st') (xs := ps.toList) (by simpa using h)
    simp only [this]
  case box t x =>
    simp at h
    simp only [h]

theorem wp_new {F : Fence} {n : Nat} {Q : Exit → Act → World → Prop} {next : Act → World → Prop} (hF : FOK F) {cs : List V} {mk : Nat → V} (ha : isA o = true) (hn : News c o a ρ w cs mk)
    (hx : ∀ u C ty w', w'.heap = (w.alloc (.cells C ty)).heap → w'.os = w.os → w'.tape = w.tape → w'.output = w.output →
      (∀ (i : Nat) (v : V), cs[i]? = some v → ∃ u, C[i]? = some u ∧ VR ρ v u) → cs.length ≤ C.size → (∀ (ρ' : Map) s, ρ' s = some ⟨w.heap.size, 0, C.size, .rw⟩ → VR ρ' (mk s) u) → next (a.put o.dst u) w') :
    Oper.wpIn F n c.P o a w next Q := by
  obtain ⟨u, C, ty, w', h1, h2, h3, h4, h5, h6, h7, h8⟩ := hn
  refine ⟨fun f _ => hF.fn f, ?_⟩
  rw [Oper.semAt_eq _ _ _ (by intro c' hc; unfold isA at ha; rw [hc] at ha; simp at ha), h1]
  exact hx u C ty w' h2 h3 h4 h5 h6 h7 h8

end
end Go.Vm
