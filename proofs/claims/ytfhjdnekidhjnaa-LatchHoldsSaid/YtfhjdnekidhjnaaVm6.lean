/-
  Conversions, slices, the builtins that write nothing.
-/
import Derived.Test.YtfhjdnekidhjnaaVm5
import Derived.Lib.ConvBytes
import Derived.Laws.BytesArg
import Derived.Laws.BytesString
import Derived.Laws.AppendOwn
set_option linter.unusedVariables false
set_option linter.unusedSimpArgs false
namespace Go.Vm

theorem getS_rel {es es' n : Nat} {H : Heap} {p : Option (Nat × Nat)} {vs : List V} (h : getS es H p n = some vs) {ρ : Map} {w : World} (hr : Rel ρ H w) {u : Value} (hv : VR ρ (.sl es' p n) u) :
    ∃ us A cap, u = .slice A n cap ∧ VRL ρ vs us ∧ us.length = n * es ∧ (∀ a, A = some a → ∀ (j : Nat) (x : Value), us[j]? = some x → w.cell? (a.add j) = some x) ∧ (A = none → us = []) := by
  obtain ⟨A, cap, hu, hcap, hA⟩ := hv.inv_slany
  unfold getS at h
  by_cases hn : n = 0
  · rw [if_pos hn] at h
    cases h
    exact ⟨[], A, cap, hu, .nil, by simp [hn], fun a _ j x hj => by simp at hj, fun _ => rfl⟩
  · rw [if_neg hn] at h
    cases p with
    | none => cases h
    | some p =>
      obtain ⟨b, o⟩ := p
      simp only at h
      split at h
      · rename_i rw cs hb
        by_cases hl : o + n * es ≤ cs.length
        · rw [if_pos hl] at h
          cases h
          obtain ⟨L, C, ty, fz, h1, h2, h3, h4, h5⟩ := hr.blk _ _ hb
          obtain ⟨L', a, cap', hL', hcap', ha, _, hvd, _, hu'⟩ := hv.inv_sl
          rw [h1] at hL'; cases hL'
          rw [hu] at hu'; cases hu'
          have ha' := ha.resolve_left (by omega)
          subst ha'
          -- the model's cells
          refine ⟨(((C.toList.drop L.base).drop o).take (n * es)), _, cap, hu, ?_, ?_, ?_, fun hh => by cases hh⟩
          · refine VRL.of_get ?_ ?_
            · have hle : ∀ i, i < cs.length → L.base + i < C.size := fun i hi => by
                obtain ⟨x, hx, _⟩ := h4 i cs[i] (List.getElem?_eq_getElem hi)
                exact (Array.getElem?_eq_some_iff.1 hx).1
              have : n * es = 0 ∨ L.base + (o + n * es) ≤ C.size := by
                by_cases hz : n * es = 0
                · exact .inl hz
                · have := hle (o + n * es - 1) (by omega); right; omega
              simp
              omega
            · intro i v hi
              rw [List.getElem?_take] at hi ⊢
              split at hi
              · rename_i hlt
                rw [if_pos hlt]
                rw [List.getElem?_drop] at hi
                obtain ⟨x, hx, hvx⟩ := h4 _ _ hi
                exact ⟨x, by simpa [List.getElem?_drop, Nat.add_assoc] using hx, hvx⟩
              · cases hi
          · have hle : ∀ i, i < cs.length → L.base + i < C.size := fun i hi => by
              obtain ⟨x, hx, _⟩ := h4 i cs[i] (List.getElem?_eq_getElem hi)
              exact (Array.getElem?_eq_some_iff.1 hx).1
            have : n * es = 0 ∨ L.base + (o + n * es) ≤ C.size := by
              by_cases hz : n * es = 0
              · exact .inl hz
              · have := hle (o + n * es - 1) (by omega); right; omega
            simp
            omega
          · intro a ha j x hj
            cases ha
            rw [List.getElem?_take] at hj
            split at hj
            · rw [List.getElem?_drop, List.getElem?_drop] at hj
              rw [Addr.add_lit]
              have e : L.base + (o + j) = L.base + o + j := by omega
              rw [e] at hj
              simp only [World.cell?, h3]
              simpa using hj
            · cases hj
        · rw [if_neg hl] at h; cases h
      · cases h

theorem run_loadCells_at {P : Program} {w : World} (a : Addr) (us : List Value) (hc : ∀ (j : Nat) (u : Value), us[j]? = some u → w.cell? (a.add j) = some u) :
    (loadCells a us.length).run P w = .ok us.toArray w := by
  have := run_loadCellsFrom (P := P) (w := w) a us.length 0 us #[] rfl (fun j u hj => by simpa using hc j u hj)
  simpa [loadCells] using this

theorem strV_rel {ρ : Map} : ∀ {vs : List V} {l : List UInt8} {us : List Value}, strV vs = some l → VRL ρ vs us → ∃ ns : List Int, us = ns.map (Value.int .u8) ∧ l = ns.map fun n => UInt8.ofNat n.toNat
  | [], l, us, h, hu => by simp [strV] at h; subst h; cases hu; exact ⟨[], rfl, rfl⟩
  | v :: vs, l, us, h, hu => by
    cases v with
    | int k n =>
      cases k <;> simp only [strV] at h
      case u8 =>
        cases hu with
        | cons _ u _ us h1 h2 =>
          cases hs : strV vs with
          | none => rw [hs] at h; cases h
          | some l' =>
            rw [hs] at h; cases h
            obtain ⟨ns, e1, e2⟩ := strV_rel hs h2
            exact ⟨n :: ns, by rw [h1.inv_int, e1]; rfl, by rw [e2]; rfl⟩
      all_goals cases h
    | _ => cases h

section
variable {R : Type} {c : Cfg} {call : CallF} {o : Oper} {st : St} {H : Heap} {K : V → Heap → Option R} {r : R} {ρ : Map} {w : World} {a : Act}

theorem did_convert {s t : TypeId} {x : Operand} (ho : o.op = .convert s t x) (h : opX c call o st H K = some r) (hr : Rel ρ H w) (hs : SR ρ st a.tmps) : Did c o a K r ρ H w := by
  unfold opX at h
  rw [ho] at h
  simp only at h
  split at h
  · rename_i k0 n k1 k h1 h2 h3
    have e := (ev_rel hs h1).inv_int
    have := run_convert_int (P := c.P) w s t k0 n (by simp [h2]) (by simp [Program.intKind, h3])
    simp only [Program.intKind, h3] at this
    exact Did.still hr (by simp [execOp, ho, e, this, Result.andThen]) (.int _ _) h
  · rename_i b h1 h2 h3
    have e := (ev_rel hs h1).inv_str
    exact Did.still hr (by simp [execOp, ho, e, convert, run_underlying h2, run_underlying h3, Result.andThen]) (.str _) h
  · rename_i b e h1 h2 h3
    have e1 := (ev_rel hs h1).inv_str
    split at h
    · rename_i he'
      simp only [if_true] at h
      have hrun := Lib.run_convert_string_bytes (P := c.P) w s t e b h2 h3 he'
      have hle : b.size ≤ grownCap w b.size 0 e := grownCap_ge w b.size 0 e
      have hbs : b.data.size = b.size := rfl
      have hsz : (Lib.bytesCells w e b).size = grownCap w b.size 0 e := by simp [Lib.bytesCells, hbs]; omega
      refine ⟨_, _, _, ρ.put H.length ⟨w.heap.size, 0, (Lib.bytesCells w e b).size, .ro⟩, H ++ [.cells false (bytesV b)], Lib.bytesWorld w e b, by simp [execOp, ho, e1, hrun, Result.andThen]; rfl, .inl rfl, ?_, ?_, ?_, h⟩
      · have := VR.sl (ρ := ρ.put H.length ⟨w.heap.size, 0, (Lib.bytesCells w e b).size, .ro⟩) 1 H.length 0 b.size (grownCap w b.size 0 e) ⟨w.heap.size, 0, none⟩ ⟨w.heap.size, 0, (Lib.bytesCells w e b).size, .ro⟩
          (Map.put_at _ _ _) hle (.inr rfl) (fun hh => by cases hh) (fun hh => by cases hh) (by simp) (fun hh => absurd hh (by decide))
        exact this
      · refine hr.newRo (bytesV b) _ e _ (fun i hi => Lib.bytesWorld_at_old w e b i hi) (Lib.bytesWorld_at_new w e b) ?_
        · intro i v hi
          simp only [bytesV, List.getElem?_map, Option.map_eq_some_iff] at hi
          obtain ⟨x, hx, rfl⟩ := hi
          refine ⟨.int .u8 x.toNat, ?_, .int _ _⟩
          have hlt : i < b.data.size := by
            have := (List.getElem?_eq_some_iff.1 hx).1
            simpa using this
          have hx' : b.data[i]? = some x := by simpa using hx
          rw [hbs] at hlt
          simp [Lib.bytesCells, Array.getElem?_append, hlt]
          have := (Array.getElem?_eq_some_iff.1 hx').2
          rw [this]
      · exact Step.snoc hr _ _ (fun i hi => Lib.bytesWorld_at_old w e b i hi) (by rw [Lib.bytesWorld_size]; omega) (Nat.le_refl _) rfl rfl rfl
    · cases h
  · rename_i es p n e h1 h2 h3
    by_cases hes : slE es 1 = true ∨ n = 0
    · rw [if_pos hes] at h
      split at h
      · rename_i he'
        simp only [if_true] at h
        obtain ⟨vs, hg, h⟩ := Option.bind_eq_some_iff.1 h
        obtain ⟨l, hl, h⟩ := Option.bind_eq_some_iff.1 h
        obtain ⟨us, A, cap, hu, hvs, hlen, hcell, hnil⟩ := getS_rel hg hr (ev_rel hs h1)
        obtain ⟨ns, e1, e2⟩ := strV_rel hl hvs
        refine Did.still hr (u := .string ⟨l.toArray⟩) ?_ (.str _) h
        cases A with
        | none =>
          have := hnil rfl
          subst this
          simp at e1
          subst e1
          simp at e2
          subst e2
          simp [execOp, ho, hu, run_convert_bytes_nil w s e h2 he' n cap t h3, Result.andThen]
          rfl
        | some ad =>
          have hload := run_loadCells_at (P := c.P) (w := w) ad us (hcell ad rfl)
          rw [hlen, Nat.mul_one] at hload
          rw [e1] at hload
          have := run_bytesToString (P := c.P) w ad n cap ns hload
          rw [foldl_push_bytes] at this
          simp [execOp, ho, hu, run_convert_bytes_string w s t e _ n cap h2 he' h3, this, Result.andThen, e2]
      · cases h
    · rw [if_neg hes] at h; cases h
  · rename_i es b o1 n e0 e h1 h2 h3
    split at h
    · rename_i hc
      obtain ⟨rfl, rfl, hn⟩ := hc
      obtain rfl : e0 = e := by rw [h2] at h3; cases h3; rfl
      split at h
      · rename_i he'
        simp only [if_true] at h
        split at h
        · rename_i cs hb
          obtain ⟨L, a', cap, hL, hle, ha, _, _, _, hu⟩ := (ev_rel hs h1).inv_sl
          obtain rfl : a' = ⟨L.blk, L.base + o1, none⟩ := ha.resolve_left (by omega)
          obtain ⟨L2, C, ty, fz, e1, e2, e3, e4, e5⟩ := hr.blk b _ hb
          rw [hL] at e1
          cases e1
          have hsh : w.shape? L.blk = some (ty, C.size) := by simp [World.shape?, e3]
          have hrun : (convert s s (.slice (some ⟨L.blk, L.base + o1, none⟩) n cap)).run c.P w = .ok (.slice (some ⟨L.blk, L.base + o1, none⟩) n cap) (w.freeze ⟨L.blk, C.size, none⟩ 1) := by
            simp [convert, run_underlying h2, run_underlying he', markStringish, hsh]
          have hfs : (w.freeze ⟨L.blk, C.size, none⟩ 1).heap.size = w.heap.size := by simp [World.freeze]
          have hfo : ∀ i, i ≠ L.blk → (w.freeze ⟨L.blk, C.size, none⟩ 1).heap[i]? = w.heap[i]? := by
            intro i hi
            simp [World.freeze, Array.getElem?_modify, Ne.symm hi]
          have hfn : ∃ fz', (w.freeze ⟨L.blk, C.size, none⟩ 1).heap[L.blk]? = some (.cells C ty fz') := by
            obtain ⟨lo, hi⟩ := fz
            simp [World.freeze, Array.getElem?_modify, e3]
          obtain ⟨fz', hfn⟩ := hfn
          have hown : Owned H b := .inl ⟨_, hb⟩
          have r1 : Rel ρ (H.set b .dead) (w.freeze ⟨L.blk, C.size, none⟩ 1) := hr.set b L .dead hL hown (fun i _ hne => hfo i hne) trivial
          have hlen : (H.set b .dead).length = H.length := by simp
          have r2 := r1.snocAt (.cells false cs) ⟨L.blk, L.base, L.size, .ro⟩ (by
            intro b1 L1 hl1 hb1
            by_cases hbb : b1 = b
            · subst hbb
              have hlt : b1 < H.length := (List.getElem?_eq_some_iff.1 hb).1
              rcases hl1 with ⟨rw', cs', h'⟩ | ⟨r', h'⟩
              · rw [List.getElem?_set_self hlt] at h'; cases h'
              · rw [List.getElem?_set_self hlt] at h'; cases h'
            · have hl2 : Live H b1 := by
                unfold Live at *
                rw [List.getElem?_set_ne (Ne.symm hbb)] at hl1
                exact hl1
              exact (hr.inj b b1 L L1 hown hl2 (Ne.symm hbb) hL hb1).symm)
            ⟨_, C, ty, fz', Map.put_at _ _ _, rfl, hfn, fun i v hi => by
              obtain ⟨u, u1, u2⟩ := e4 i v hi
              exact ⟨u, u1, u2.mono (Map.put_le r1.dom _)⟩, fun hh => by cases hh⟩
          have s2 := Step.snocAt r1 (.cells false cs) ⟨L.blk, L.base, L.size, .ro⟩ (Step.set b L .dead hL hown (w := w) (w' := w.freeze ⟨L.blk, C.size, none⟩ 1) (fun i _ hne => hfo i hne) (by rw [hfs]; exact Nat.le_refl _) rfl rfl rfl) ⟨b, L, hown, hL, rfl⟩
          rw [hlen] at r2 s2
          refine ⟨_, .sl 1 (some (H.length, o1)) n, .slice (some ⟨L.blk, L.base + o1, none⟩) n cap, _, _, _, by simp [execOp, ho, hu, hrun, Result.andThen], .inl rfl, ?_, r2, s2, h⟩
          exact .sl 1 H.length o1 n cap _ ⟨L.blk, L.base, L.size, .ro⟩ (Map.put_at _ _ _) hle (.inr rfl) (fun hh => by cases hh) (fun hh => by cases hh) (by simp) (fun hh => absurd hh (by decide))
        · cases h
      · cases h
    · cases h
  · cases h

theorem did_makeFunc {fn : Fn} {first captured : Array Operand} (ho : o.op = .makeFunc fn first captured) (h : opX c call o st H K = some r) (hr : Rel ρ H w) (hs : SR ρ st a.tmps) : Did c o a K r ρ H w := by
  unfold opX at h
  rw [ho] at h
  simp only at h
  split at h
  · rename_i f cs h1 h2
    have hf : first = #[] := by cases first; simp_all
    subst hf
    have hcs := evs_rel hs h2
    have hm : captured.map a.eval = (captured.toList.map a.eval).toArray := by cases captured; simp
    refine Did.still (u := .func (.func f) #[] (captured.toList.map a.eval).toArray) hr ?_ (.fn _ _ _ hcs) h
    simp [execOp, ho, Instr.makeFunc, hm]
  · cases h

theorem did_index {t : TypeId} {x y : Operand} (ho : o.op = .index t x y) (h : opX c call o st H K = some r) (hr : Rel ρ H w) (hs : SR ρ st a.tmps) : Did c o a K r ρ H w := by
  unfold opX at h
  rw [ho] at h
  simp only at h
  split at h
  · rename_i s k i h1 h2 h3
    have e1 := (ev_rel hs h1).inv_str
    have e2 := (ev_rel hs h2).inv_int
    by_cases hi : 0 ≤ i ∧ i.toNat < s.size
    · rw [dif_pos hi] at h
      have hg : s[i.toNat]? = some (s[i.toNat]'hi.2) := by simp [hi.2]
      refine Did.still (u := .int .u8 ((s[i.toNat]'hi.2).toNat)) hr ?_ (.int _ _) h
      simp [execOp, ho, e1, e2, Instr.index, asIntOf, run_underlying h3, hi.1, hi.2, Result.andThen]
    · rw [dif_neg hi] at h; cases h
  · cases h

theorem bnd_rel {x : Option Operand} {d i : Int} (hb : bnd st x d = some i) (hs : SR ρ st a.tmps) : match x with
    | none => i = d
    | some y => ∃ k, a.eval y = .int k i := by
  cases x with
  | none => cases hb; rfl
  | some y =>
    unfold bnd at hb
    simp only at hb ⊢
    split at hb
    · rename_i k j hj
      cases hb
      exact ⟨k, (ev_rel hs hj).inv_int⟩
    · cases hb

theorem run_bounds (P : Program) (W : World) (isSlice : Bool) (n cap i j : Nat) (l h : Option Operand) (hl : match l with
      | none => (i : Int) = 0
      | some y => ∃ k, a.eval y = .int k (i : Int)) (hh : match h with
      | none => (j : Int) = n
      | some y => ∃ k, a.eval y = .int k (j : Int)) (hij : i ≤ j) (hj : j ≤ cap) :
    (Instr.sliceBounds isSlice n cap (l.map a.eval) (h.map a.eval) none).run P W = .ok (i, j, cap) W := by
  have hj' : (j : Int) ≤ cap := by omega
  have hij' : (i : Int) ≤ j := by omega
  unfold Instr.sliceBounds
  cases l with
  | none =>
    simp only at hl
    have : i = 0 := by omega
    subst this
    cases h with
    | none => simp only at hh; have : j = n := by omega
              subst this; simp
    | some v => obtain ⟨k, e⟩ := hh; simp [Instr.sliceBound, asIntOf, e, hj]
  | some u =>
    obtain ⟨k, e⟩ := hl
    cases h with
    | none => simp only at hh; have : j = n := by omega
              subst this; simp [Instr.sliceBound, asIntOf, e, hij]
    | some v => obtain ⟨k', e'⟩ := hh; simp [Instr.sliceBound, asIntOf, e, e', hij, hj]

theorem run_bounds3 (P : Program) (W : World) (isSlice : Bool) (n cap i j m : Nat) (l : Option Operand) (y z : Operand) (hl : match l with
      | none => (i : Int) = 0
      | some y => ∃ k, a.eval y = .int k (i : Int)) (hh : ∃ k, a.eval y = .int k (j : Int)) (hm : ∃ k, a.eval z = .int k (m : Int)) (hij : i ≤ j) (hj : j ≤ m) (hmc : m ≤ cap) :
    (Instr.sliceBounds isSlice n cap (l.map a.eval) (some (a.eval y)) (some (a.eval z))).run P W = .ok (i, j, m) W := by
  obtain ⟨k1, e1⟩ := hh
  obtain ⟨k2, e2⟩ := hm
  unfold Instr.sliceBounds
  cases l with
  | none =>
    simp only at hl
    have : i = 0 := by omega
    subst this
    simp [Instr.sliceBound, asIntOf, e1, e2, hj, hmc]
  | some u =>
    obtain ⟨k, e⟩ := hl
    simp [Instr.sliceBound, asIntOf, e, e1, e2, hij, hj, hmc]

theorem did_slice {t : TypeId} {x : Operand} {lo hi mx : Option Operand} (ho : o.op = .slice t x lo hi mx) (h : opX c call o st H K = some r) (hr : Rel ρ H w) (hs : SR ρ st a.tmps) : Did c o a K r ρ H w := by
  unfold opX at h
  rw [ho] at h
  simp only at h
  split at h
  · rename_i es p n e i h1 h2 h3
    split at h
    · rename_i j h4
      by_cases hc : ((slE es (esOf c.P e) || p.isNone) && decide (0 < esOf c.P e) && decide (esOf c.P e < 4294967296)) = true
      · rw [if_pos hc] at h
        by_cases hij : 0 ≤ i ∧ i ≤ j ∧ j ≤ lim p es n
        · rw [if_pos hij] at h
          obtain ⟨i, rfl⟩ := Int.eq_ofNat_of_zero_le hij.1
          obtain ⟨j, rfl⟩ := Int.eq_ofNat_of_zero_le (show 0 ≤ j by omega)
          simp only [Int.toNat_natCast] at h
          have b1 := bnd_rel (a := a) h3 hs
          have b2 := bnd_rel (a := a) h4 hs
          have e1 := ev_rel hs h1
          obtain ⟨A, cap, hA, hcap, hAn⟩ := e1.inv_slany
          have hlim := e1.lim_le hA
          simp only [Bool.and_eq_true, decide_eq_true_eq] at hc
          have hrun := run_bounds (a := a) c.P w true n cap i j lo hi (by cases lo <;> simpa using b1) (by cases hi <;> simpa using b2) (by omega) (by omega)
          refine Did.still (u := .slice (if cap = i then A else A.map (·.add (i * esOf c.P e))) (j - i) (cap - i)) hr ?_ ?_ h
          · simp [execOp, ho, hA, Instr.sliceAt, Instr.slice, run_underlying h2, hrun, run_sizeOf (info_of_es hc.1.2), Result.andThen]
          · cases p with
            | none =>
              obtain ⟨hn0, h0⟩ := e1.inv_slN
              rw [hA] at h0; cases h0
              have hi0 : i = 0 := by omega
              have hj0 : j = 0 := by omega
              subst hi0 hj0
              have : slP lo none (0 * esOf c.P e) = none := by cases lo <;> rfl
              rw [this]
              exact .slN _
            | some p =>
              obtain ⟨b, o'⟩ := p
              have hes : es = esOf c.P e ∨ es = esOf c.P e + 4294967296 ∨ (8589934592 ≤ es ∧ es % 8589934592 = esOf c.P e) := by
                have := hc.1.1
                simp only [slE, Option.isNone_some, Bool.or_false, Bool.or_eq_true, beq_iff_eq, Bool.and_eq_true, decide_eq_true_eq] at this
                rcases this with (h | h) | h
                · exact .inl h
                · exact .inr (.inl h)
                · exact .inr (.inr h)
              obtain ⟨L, ad, cap', hL, hn, ha, hrw, hv, hl, hkc, e1⟩ := e1.inv_slc
              rw [hA] at e1; cases e1
              have hp : slP lo (some (b, o')) (i * esOf c.P e) = some (b, o' + i * esOf c.P e) := by
                cases lo with
                | none => simp only at b1; have : i = 0 := by omega
                          subst this; simp [slP]
                | some _ => rfl
              rw [hp]
              have : (if cap = i then some ad else (some ad).map (·.add (i * esOf c.P e))) = some (if cap = i then ad else ad.add (i * esOf c.P e)) := by split <;> rfl
              rw [this]
              refine .sl _ b _ (j - i) (cap - i) _ L hL (by omega) ?_ ?_ (fun hk => by have := hv hk; omega) hl ?_
              · by_cases hci : cap = i
                · left; omega
                · right
                  rw [if_neg hci, ha.resolve_left (by omega), Addr.add_lit, Nat.add_assoc]
              rotate_left
              · intro hb
                unfold shE at hb ⊢
                by_cases hk8 : 8589934592 ≤ es
                · rw [if_pos hk8] at hb ⊢
                  obtain ⟨q1, q2⟩ := hkc hk8
                  have hes : es % 8589934592 = esOf c.P e ∨ es = esOf c.P e + 4294967296 := by
                    rcases hes with h | h | h
                    · exact .inl (by omega)
                    · exact .inr h
                    · exact .inl h.2
                  have hes : es % 8589934592 = esOf c.P e := by omega
                  have hci : i ≤ cap := by omega
                  have hcapv : capOf es = es / 8589934592 - 1 := rfl
                  rw [hcapv] at q1
                  have hdm := Nat.div_add_mod es 8589934592
                  have hge : 1 ≤ es / 8589934592 := by omega
                  have d1 : (es - 8589934592 * i) / 8589934592 = es / 8589934592 - i := by omega
                  have d2 : (es - 8589934592 * i) % 8589934592 = es % 8589934592 := by omega
                  refine ⟨by unfold capOf; rw [d1]; omega, fun hk => ?_⟩
                  have h5 := q2 hk
                  rw [d2, hes]
                  rw [hes] at h5
                  have h6 : cap * esOf c.P e = i * esOf c.P e + (cap - i) * esOf c.P e := by rw [← Nat.add_mul]; congr 1; omega
                  omega
                · rw [if_neg hk8] at hb; exact absurd hb hk8
              · intro hk hbg
                have hlt : es < 8589934592 := by
                  unfold shE at hbg
                  by_cases hk8 : 8589934592 ≤ es
                  · rw [if_pos hk8] at hbg
                    obtain ⟨q1, q2⟩ := hkc hk8
                    have hcapv : capOf es = es / 8589934592 - 1 := rfl
                    rw [hcapv] at q1
                    have hdm := Nat.div_add_mod es 8589934592
                    omega
                  · omega
                have hsh : shE es i = es := by unfold shE; rw [if_neg (by omega)]
                rw [hsh] at hbg ⊢
                have h5 := hrw hk hbg
                have hes : es = esOf c.P e := by omega
                rw [← hes]
                have : i ≤ cap := by omega
                have h6 : cap * es = i * es + (cap - i) * es := by rw [← Nat.add_mul]; congr 1; omega
                omega
        · rw [if_neg hij] at h; cases h
      · rw [if_neg hc] at h; cases h
    · cases h
  · rename_i es p n e i m h1 h2 h3
    split at h
    · rename_i y j km mm h5 h4
      by_cases hc : ((slE es (esOf c.P e) || p.isNone) && decide (0 < esOf c.P e)) = true
      · rw [if_pos hc] at h
        by_cases hij : 0 ≤ i ∧ i ≤ j ∧ j ≤ mm ∧ mm ≤ lim p es n
        · rw [if_pos hij] at h
          obtain ⟨i, rfl⟩ := Int.eq_ofNat_of_zero_le hij.1
          obtain ⟨j, rfl⟩ := Int.eq_ofNat_of_zero_le (show 0 ≤ j by omega)
          obtain ⟨mm, rfl⟩ := Int.eq_ofNat_of_zero_le (show 0 ≤ mm by omega)
          have b1 := bnd_rel (a := a) h3 hs
          have b2 := bnd_rel (a := a) h4 hs
          have b3 := (ev_rel hs h5).inv_int
          have e1 := ev_rel hs h1
          obtain ⟨A, cap, hA, hcap, hAn⟩ := e1.inv_slany
          have hlim := e1.lim_le hA
          simp only [Bool.and_eq_true, decide_eq_true_eq] at hc
          have hrun := run_bounds3 (a := a) c.P w true n cap i j mm lo y m (by cases lo <;> simpa using b1) (by simpa using b2) ⟨_, b3⟩ (by omega) (by omega) (by omega)
          refine Did.still (u := .slice (if mm = i then A else A.map (·.add (i * esOf c.P e))) (j - i) (mm - i)) hr ?_ (.undef _) h
          simp [execOp, ho, hA, Instr.sliceAt, Instr.slice, run_underlying h2, hrun, run_sizeOf (info_of_es hc.2), Result.andThen]
        · rw [if_neg hij] at h; cases h
      · rw [if_neg hc] at h; cases h
    · cases h
  · rename_i p n e i h1 h2 h3
    split at h
    · rename_i j h4
      by_cases hz : 0 < esOf c.P e ∧ esOf c.P e < 4294967296
      · rw [if_pos hz] at h
        obtain ⟨hz, hz4⟩ := hz
        by_cases hij : 0 ≤ i ∧ i ≤ j ∧ j ≤ n
        · rw [if_pos hij] at h
          obtain ⟨i, rfl⟩ := Int.eq_ofNat_of_zero_le hij.1
          obtain ⟨j, rfl⟩ := Int.eq_ofNat_of_zero_le (show 0 ≤ j by omega)
          simp only [Int.toNat_natCast] at h
          have b1 := bnd_rel (a := a) h3 hs
          have b2 := bnd_rel (a := a) h4 hs
          obtain ⟨b, o'⟩ := p
          obtain ⟨L, hL, hk, e1⟩ := (ev_rel hs h1).inv_ptr
          have hrun := run_bounds (a := a) c.P w false n n i j lo hi (by cases lo <;> simpa using b1) (by cases hi <;> simpa using b2) (by omega) (by omega)
          refine Did.still (u := .slice (some (if n = i then ⟨L.blk, L.base + o', none⟩ else (⟨L.blk, L.base + o', none⟩ : Addr).add (i * esOf c.P e))) (j - i) (n - i)) hr ?_ ?_ h
          · simp [execOp, ho, e1, Instr.sliceAt, Instr.sureAddr, run_underlying h2, hrun, run_sizeOf (info_of_es hz), Result.andThen]
          · refine .sl _ b _ (j - i) (n - i) _ L hL (by omega) ?_ (fun _ hb => by omega) (fun hv => by rcases hk with hk | hk <;> (rw [hk] at hv; cases hv)) (fun hv => by rcases hk with hk | hk <;> (rw [hk] at hv; cases hv)) (fun hb => absurd hb (by omega))
            by_cases hci : n = i
            · left; omega
            · right
              rw [if_neg hci, Addr.add_lit, Nat.add_assoc]
        · rw [if_neg hij] at h; cases h
      · rw [if_neg hz] at h; cases h
    · cases h
  · rename_i s i h1 h2 h3
    split at h
    · rename_i j h4
      by_cases hij : 0 ≤ i ∧ i ≤ j ∧ j ≤ s.size
      · rw [if_pos hij] at h
        obtain ⟨i, rfl⟩ := Int.eq_ofNat_of_zero_le hij.1
        obtain ⟨j, rfl⟩ := Int.eq_ofNat_of_zero_le (show 0 ≤ j by omega)
        simp only [Int.toNat_natCast] at h
        have b1 := bnd_rel (a := a) h3 hs
        have b2 := bnd_rel (a := a) h4 hs
        have e1 := (ev_rel hs h1).inv_str
        have hrun := run_bounds (a := a) c.P w false s.size s.size i j lo hi (by cases lo <;> simpa using b1) (by cases hi <;> simpa using b2) (by omega) (by omega)
        refine Did.still (u := .string (s.extract i j)) hr ?_ (.str _) h
        simp [execOp, ho, e1, Instr.sliceAt, Instr.slice, run_underlying h2, hrun, Result.andThen]
      · rw [if_neg hij] at h; cases h
    · cases h
  · cases h

end
end Go.Vm
