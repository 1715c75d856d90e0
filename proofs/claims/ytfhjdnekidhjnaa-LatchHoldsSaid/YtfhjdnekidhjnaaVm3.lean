/-
  The heap of the small machine against the model's: 'Rel'; what a piece of a run may change: 'Step'; a new block, a store, a block given up.
-/
import Derived.Test.YtfhjdnekidhjnaaVm2
set_option linter.unusedVariables false
set_option linter.unusedSimpArgs false
namespace Go.Vm

def Owned (H : Heap) (b : Nat) : Prop := (∃ cs, H[b]? = some (.cells true cs)) ∨ ∃ r, H[b]? = some (.loop r)
def Live (H : Heap) (b : Nat) : Prop := (∃ rw cs, H[b]? = some (.cells rw cs)) ∨ ∃ r, H[b]? = some (.loop r)
def OwnR (ρ : Map) (H : Heap) (i : Nat) : Prop := ∃ b L, Owned H b ∧ ρ b = some L ∧ L.blk = i

def LivR (ρ : Map) (H : Heap) (i : Nat) : Prop := ∃ b L, Live H b ∧ ρ b = some L ∧ L.blk = i

theorem Owned.live {H : Heap} {b : Nat} (h : Owned H b) : Live H b := by
  rcases h with ⟨cs, h⟩ | ⟨r, h⟩
  · exact .inl ⟨_, _, h⟩
  · exact .inr ⟨_, h⟩

theorem OwnR.livR {ρ : Map} {H : Heap} {i : Nat} (h : OwnR ρ H i) : LivR ρ H i := by
  obtain ⟨b, L, ho, hb, e⟩ := h
  exact ⟨b, L, ho.live, hb, e⟩

def BlkR (ρ : Map) (w : World) (b : Nat) : Blk → Prop
  | .dead => True
  | .void => ∃ L, ρ b = some L ∧ L.kind = .void
  | .cells rw cs => ∃ L C ty fz, ρ b = some L ∧ L.kind = (if rw then .rw else .ro) ∧ w.heap[L.blk]? = some (.cells C ty fz) ∧
      (∀ i v, cs[i]? = some v → ∃ u, C[L.base + i]? = some u ∧ VR ρ v u) ∧
      (rw = true → L.size = C.size ∧ L.base + cs.length ≤ C.size ∧ ∀ i, i ≤ C.size → ¬ (fz.1 ≤ i ∧ i < fz.2))
  | .loop r => ∃ L fn tm d, ρ b = some L ∧ L.kind = .loop ∧
      w.heap[L.blk]? = some (.loop { state := r.state, pending := r.pending, fn, tmps := tm, params := r.params, assign := r.assign, body := r.body, defers := d }) ∧ SR ρ r.st tm

structure Rel (ρ : Map) (H : Heap) (w : World) : Prop where
  dom : ∀ b L, ρ b = some L → b < H.length
  blk : ∀ b k, H[b]? = some k → BlkR ρ w b k
  inj : ∀ b b' L L', Owned H b → Live H b' → b ≠ b' → ρ b = some L → ρ b' = some L' → L.blk ≠ L'.blk

structure Step (ρ : Map) (H : Heap) (w : World) (ρ' : Map) (H' : Heap) (w' : World) : Prop where
  le : Map.le ρ ρ'
  len : H.length ≤ H'.length
  os : w'.os = w.os
  tape : w'.tape = w.tape
  output : w'.output = w.output
  size : w.heap.size ≤ w'.heap.size
  keep : ∀ i, i < w.heap.size → ¬ OwnR ρ H i → w'.heap[i]? = w.heap[i]?
  own : ∀ i, OwnR ρ' H' i → OwnR ρ H i ∨ w.heap.size ≤ i
  live : ∀ i, LivR ρ' H' i → LivR ρ H i ∨ w.heap.size ≤ i
  fresh : ∀ b L, ρ' b = some L → ρ b = some L ∨ H.length ≤ b

theorem Step.refl (ρ : Map) (H : Heap) (w : World) : Step ρ H w ρ H w :=
  ⟨Map.le_refl _, Nat.le_refl _, rfl, rfl, rfl, Nat.le_refl _, fun _ _ _ => rfl, fun _ h => .inl h, fun _ h => .inl h, fun _ _ h => .inl h⟩

theorem Step.trans {ρ ρ1 ρ2 : Map} {H H1 H2 : Heap} {w w1 w2 : World} (h : Step ρ H w ρ1 H1 w1) (k : Step ρ1 H1 w1 ρ2 H2 w2) : Step ρ H w ρ2 H2 w2 where
  le := Map.le_trans h.le k.le
  len := Nat.le_trans h.len k.len
  os := k.os.trans h.os
  tape := k.tape.trans h.tape
  output := k.output.trans h.output
  size := Nat.le_trans h.size k.size
  keep i hi hn := by
    have h1 : ¬ OwnR ρ1 H1 i := fun ho => by
      rcases h.own i ho with ho | ho
      · exact hn ho
      · omega
    exact (k.keep i (Nat.lt_of_lt_of_le hi h.size) h1).trans (h.keep i hi hn)
  own i hi := by
    rcases k.own i hi with ho | ho
    · exact h.own i ho
    · exact .inr (Nat.le_trans h.size ho)
  live i hi := by
    rcases k.live i hi with ho | ho
    · exact h.live i ho
    · exact .inr (Nat.le_trans h.size ho)
  fresh b L hb := by
    rcases k.fresh b L hb with hb | hb
    · exact h.fresh b L hb
    · exact .inr (Nat.le_trans h.len hb)

/-- A world in which the same blocks lie. -/
theorem Rel.same {ρ : Map} {H : Heap} {w w' : World} (h : Rel ρ H w) (hk : ∀ i, i < w.heap.size → w'.heap[i]? = w.heap[i]?) : Rel ρ H w' where
  dom := h.dom
  inj := h.inj
  blk b k hb := by
    have hb' := h.blk b k hb
    cases k with
    | dead => exact trivial
    | void => exact hb'
    | cells rw cs =>
      obtain ⟨L, C, ty, fz, h1, h2, h3, h4⟩ := hb'
      exact ⟨L, C, ty, fz, h1, h2, (hk _ (Array.getElem?_eq_some_iff.1 h3).1).trans h3, h4⟩
    | loop r =>
      obtain ⟨L, fn, tm, d, h1, h2, h3, h4⟩ := hb'
      exact ⟨L, fn, tm, d, h1, h2, (hk _ (Array.getElem?_eq_some_iff.1 h3).1).trans h3, h4⟩

theorem BlkR.mono {ρ ρ' : Map} (hle : Map.le ρ ρ') {w : World} {b : Nat} : ∀ {k : Blk}, BlkR ρ w b k → BlkR ρ' w b k
  | .dead, _ => trivial
  | .void, ⟨L, h, hk⟩ => ⟨L, hle _ _ h, hk⟩
  | .cells _ _, ⟨L, C, ty, fz, h1, h2, h3, h4, h5⟩ => ⟨L, C, ty, fz, hle _ _ h1, h2, h3, fun i v hi => let ⟨u, hu, hv⟩ := h4 i v hi; ⟨u, hu, hv.mono hle⟩, h5⟩
  | .loop _, ⟨L, fn, tm, d, h1, h2, h3, h4⟩ => ⟨L, fn, tm, d, hle _ _ h1, h2, h3, h4.mono hle⟩

/-- The model's blocks are where they are said to be. -/
theorem Rel.lt {ρ : Map} {H : Heap} {w : World} (h : Rel ρ H w) {b : Nat} (hl : Live H b) : ∃ L, ρ b = some L ∧ L.blk < w.heap.size := by
  rcases hl with ⟨rw, cs, hb⟩ | ⟨r, hb⟩
  · obtain ⟨L, C, ty, fz, h1, h2, h3, h4⟩ := h.blk _ _ hb
    exact ⟨L, h1, (Array.getElem?_eq_some_iff.1 h3).1⟩
  · obtain ⟨L, fn, tm, d, h1, h2, h3, h4⟩ := h.blk _ _ hb
    exact ⟨L, h1, (Array.getElem?_eq_some_iff.1 h3).1⟩

def Map.put (ρ : Map) (b : Nat) (L : Loc) : Map := fun x => if x = b then some L else ρ x
theorem Map.put_le {ρ : Map} {H : Heap} (hd : ∀ b L, ρ b = some L → b < H.length) (L : Loc) : Map.le ρ (ρ.put H.length L) := by
  intro b L' h
  have := hd b L' h
  unfold Map.put
  rw [if_neg (by omega)]
  exact h
theorem Map.put_at (ρ : Map) (b : Nat) (L : Loc) : ρ.put b L b = some L := by simp [Map.put]

theorem snoc_get {H : Heap} {x : Blk} {b : Nat} {k : Blk} (h : (H ++ [x])[b]? = some k) : H[b]? = some k ∨ (b = H.length ∧ k = x) := by
  rcases Nat.lt_trichotomy b H.length with h1 | h1 | h1
  · rw [List.getElem?_append_left h1] at h; exact .inl h
  · subst h1; simp at h; exact .inr ⟨rfl, h.symm⟩
  · rw [List.getElem?_append_right (by omega)] at h
    have : b - H.length ≠ 0 := by omega
    obtain ⟨m, hm⟩ : ∃ m, b - H.length = m + 1 := ⟨b - H.length - 1, by omega⟩
    rw [hm] at h; simp at h

theorem snoc_old {H : Heap} {x : Blk} {b : Nat} {k : Blk} (h : H[b]? = some k) : (H ++ [x])[b]? = some k := by
  rw [List.getElem?_append_left (List.getElem?_eq_some_iff.1 h).1]; exact h

/-- A new block. -/
theorem Rel.snoc {ρ : Map} {H : Heap} {w w' : World} (h : Rel ρ H w) (x : Blk) (L : Loc) (hk : ∀ i, i < w.heap.size → w'.heap[i]? = w.heap[i]?) (hL : w.heap.size ≤ L.blk)
    (hx : BlkR (ρ.put H.length L) w' H.length x) : Rel (ρ.put H.length L) (H ++ [x]) w' := by
  have hle := Map.put_le h.dom L
  have h' := h.same hk
  refine ⟨?_, ?_, ?_⟩
  · intro b L' hb
    unfold Map.put at hb
    split at hb
    · simp; omega
    · have := h.dom b L' hb; simp; omega
  · intro b k hb
    rcases snoc_get hb with hb | ⟨rfl, rfl⟩
    · exact (h'.blk b k hb).mono hle
    · exact hx
  · intro b b' L1 L2 ho hl hne h1 h2
    have old : ∀ c, Live (H ++ [x]) c → c ≠ H.length → Live H c := by
      intro c hc hne
      rcases hc with ⟨rw, cs, hc⟩ | ⟨r, hc⟩
      · rcases snoc_get hc with hc | ⟨rfl, _⟩
        · exact .inl ⟨_, _, hc⟩
        · exact absurd rfl hne
      · rcases snoc_get hc with hc | ⟨rfl, _⟩
        · exact .inr ⟨_, hc⟩
        · exact absurd rfl hne
    have oldo : ∀ c, Owned (H ++ [x]) c → c ≠ H.length → Owned H c := by
      intro c hc hne
      rcases hc with ⟨cs, hc⟩ | ⟨r, hc⟩
      · rcases snoc_get hc with hc | ⟨rfl, _⟩
        · exact .inl ⟨_, hc⟩
        · exact absurd rfl hne
      · rcases snoc_get hc with hc | ⟨rfl, _⟩
        · exact .inr ⟨_, hc⟩
        · exact absurd rfl hne
    by_cases hb : b = H.length
    · subst hb
      have hb' : b' ≠ H.length := fun e => hne e.symm
      obtain ⟨L3, h3, hlt⟩ := h.lt (old b' hl hb')
      rw [Map.put_at] at h1; cases h1
      have : L3 = L2 := by
        have := hle _ _ h3; rw [this] at h2; cases h2; rfl
      subst this
      omega
    · by_cases hb' : b' = H.length
      · subst hb'
        obtain ⟨L3, h3, hlt⟩ := h.lt (oldo b ho hb).live
        rw [Map.put_at] at h2; cases h2
        have : L3 = L1 := by
          have := hle _ _ h3; rw [this] at h1; cases h1; rfl
        subst this
        omega
      · have e1 : ρ b = some L1 := by unfold Map.put at h1; rw [if_neg hb] at h1; exact h1
        have e2 : ρ b' = some L2 := by unfold Map.put at h2; rw [if_neg hb'] at h2; exact h2
        exact h.inj b b' L1 L2 (oldo b ho hb) (old b' hl hb') hne e1 e2

theorem Step.snoc {ρ : Map} {H : Heap} {w w' : World} (h : Rel ρ H w) (x : Blk) (L : Loc) (hk : ∀ i, i < w.heap.size → w'.heap[i]? = w.heap[i]?) (hs : w.heap.size ≤ w'.heap.size) (hL : w.heap.size ≤ L.blk)
    (e1 : w'.os = w.os) (e2 : w'.tape = w.tape) (e3 : w'.output = w.output) : Step ρ H w (ρ.put H.length L) (H ++ [x]) w' where
  le := Map.put_le h.dom L
  len := by simp
  os := e1
  tape := e2
  output := e3
  size := hs
  keep i hi _ := hk i hi
  own i hi := by
    obtain ⟨b, L', ho, hb, rfl⟩ := hi
    by_cases hbl : b = H.length
    · subst hbl; rw [Map.put_at] at hb; cases hb; exact .inr hL
    · refine .inl ⟨b, L', ?_, ?_, rfl⟩
      · rcases ho with ⟨cs, ho⟩ | ⟨r, ho⟩
        · rcases snoc_get ho with ho | ⟨rfl, _⟩
          · exact .inl ⟨_, ho⟩
          · exact absurd rfl hbl
        · rcases snoc_get ho with ho | ⟨rfl, _⟩
          · exact .inr ⟨_, ho⟩
          · exact absurd rfl hbl
      · unfold Map.put at hb; rw [if_neg hbl] at hb; exact hb
  live i hi := by
    obtain ⟨b, L', ho, hb, rfl⟩ := hi
    by_cases hbl : b = H.length
    · subst hbl; rw [Map.put_at] at hb; cases hb; exact .inr hL
    · refine .inl ⟨b, L', ?_, ?_, rfl⟩
      · rcases ho with ⟨rw, cs, ho⟩ | ⟨r, ho⟩
        · rcases snoc_get ho with ho | ⟨rfl, _⟩
          · exact .inl ⟨_, _, ho⟩
          · exact absurd rfl hbl
        · rcases snoc_get ho with ho | ⟨rfl, _⟩
          · exact .inr ⟨_, ho⟩
          · exact absurd rfl hbl
      · unfold Map.put at hb; rw [if_neg hbl] at hb; exact hb
  fresh b L' hb := by
    unfold Map.put at hb
    split at hb
    · rename_i e; exact .inr (Nat.le_of_eq e.symm)
    · exact .inl hb

/-- A block changed, or given up: the model's world changes at that block alone. -/
theorem Rel.set {ρ : Map} {H : Heap} {w w' : World} (h : Rel ρ H w) (b : Nat) (L : Loc) (x : Blk) (hb : ρ b = some L) (ho : Owned H b)
    (hk : ∀ i, i < w.heap.size → i ≠ L.blk → w'.heap[i]? = w.heap[i]?) (hx : BlkR ρ w' b x) : Rel ρ (H.set b x) w' := by
  have live : ∀ c, Live (H.set b x) c → c ≠ b → Live H c := by
    intro c hc hne
    unfold Live at *
    rw [List.getElem?_set_ne (Ne.symm hne)] at hc
    exact hc
  have lv : ∀ c, Live (H.set b x) c → Live H c := by
    intro c hc
    by_cases e : c = b
    · subst e; exact ho.live
    · exact live c hc e
  have ow : ∀ c, Owned (H.set b x) c → Owned H c := by
    intro c hc
    by_cases e : c = b
    · subst e; exact ho
    · unfold Owned at *
      rw [List.getElem?_set_ne (Ne.symm e)] at hc
      exact hc
  refine ⟨fun c L' hc => by simpa using h.dom c L' hc, ?_, fun c c' L1 L2 h1 h2 hne e1 e2 => h.inj c c' L1 L2 (ow c h1) (lv c' h2) hne e1 e2⟩
  intro c k hc
  by_cases e : c = b
  · subst e
    rw [List.getElem?_set_self (h.dom _ _ hb)] at hc
    cases hc
    exact hx
  · rw [List.getElem?_set_ne (Ne.symm e)] at hc
    have hk' := h.blk c k hc
    cases k with
    | dead => trivial
    | void => exact hk'
    | cells rw cs =>
      obtain ⟨L1, C, ty, fz, h1, h2, h3, h4⟩ := hk'
      have hne : L.blk ≠ L1.blk := h.inj b c L L1 ho (.inl ⟨_, _, hc⟩) (Ne.symm e) hb h1
      exact ⟨L1, C, ty, fz, h1, h2, (hk _ (Array.getElem?_eq_some_iff.1 h3).1 (Ne.symm hne)).trans h3, h4⟩
    | loop r =>
      obtain ⟨L1, fn, tm, d, h1, h2, h3, h4⟩ := hk'
      have hne : L.blk ≠ L1.blk := h.inj b c L L1 ho (.inr ⟨_, hc⟩) (Ne.symm e) hb h1
      exact ⟨L1, fn, tm, d, h1, h2, (hk _ (Array.getElem?_eq_some_iff.1 h3).1 (Ne.symm hne)).trans h3, h4⟩

theorem Step.set {ρ : Map} {H : Heap} {w w' : World} (b : Nat) (L : Loc) (x : Blk) (hb : ρ b = some L) (ho : Owned H b)
    (hk : ∀ i, i < w.heap.size → i ≠ L.blk → w'.heap[i]? = w.heap[i]?) (hs : w.heap.size ≤ w'.heap.size)
    (e1 : w'.os = w.os) (e2 : w'.tape = w.tape) (e3 : w'.output = w.output) : Step ρ H w ρ (H.set b x) w' where
  le := Map.le_refl _
  len := by simp
  os := e1
  tape := e2
  output := e3
  size := hs
  keep i hi hn := hk i hi fun e => hn ⟨b, L, ho, hb, e.symm⟩
  own i hi := by
    obtain ⟨c, L', hc, hc', rfl⟩ := hi
    refine .inl ⟨c, L', ?_, hc', rfl⟩
    by_cases e : c = b
    · subst e; exact ho
    · unfold Owned at *
      rw [List.getElem?_set_ne (Ne.symm e)] at hc
      exact hc
  live i hi := by
    obtain ⟨c, L', hc, hc', rfl⟩ := hi
    refine .inl ⟨c, L', ?_, hc', rfl⟩
    by_cases e : c = b
    · subst e; exact ho.live
    · unfold Live at *
      rw [List.getElem?_set_ne (Ne.symm e)] at hc
      exact hc
  fresh _ _ hb := .inl hb

/-- Where blocks lie as they lay, nothing has happened. -/
theorem Step.still {ρ : Map} {H : Heap} {w w' : World} (hk : ∀ i, i < w.heap.size → w'.heap[i]? = w.heap[i]?) (hs : w.heap.size ≤ w'.heap.size)
    (e1 : w'.os = w.os) (e2 : w'.tape = w.tape) (e3 : w'.output = w.output) : Step ρ H w ρ H w' :=
  ⟨Map.le_refl _, Nat.le_refl _, e1, e2, e3, hs, fun i hi _ => hk i hi, fun _ h => .inl h, fun _ h => .inl h, fun _ _ h => .inl h⟩

theorem drew_same (w : World) : ∀ i, i < w.heap.size → w.drew.heap[i]? = w.heap[i]? := fun _ _ => rfl
theorem Rel.drew {ρ : Map} {H : Heap} {w : World} (h : Rel ρ H w) : Rel ρ H w.drew := h.same (drew_same w)
theorem Step.drew (ρ : Map) (H : Heap) (w : World) : Step ρ H w ρ H w.drew := Step.still (drew_same w) (Nat.le_refl _) rfl rfl rfl

theorem alloc_same (w : World) (o : Obj) : ∀ i, i < w.heap.size → (w.alloc o).heap[i]? = w.heap[i]? := fun i hi => by
  simp [World.alloc, -World.alloc_eq, Array.getElem?_push, Nat.ne_of_lt hi]
theorem alloc_new (w : World) (o : Obj) : (w.alloc o).heap[w.heap.size]? = some o := by
  simp [World.alloc, -World.alloc_eq]

/-- A new row of cells, known from its begin on; more may lie behind. -/
theorem Rel.new {ρ : Map} {H : Heap} {w w' : World} (h : Rel ρ H w) (cs : List V) (C : Array Value) (ty : TypeId) (fz : Nat × Nat)
    (hk : ∀ i, i < w.heap.size → w'.heap[i]? = w.heap[i]?) (hn : w'.heap[w.heap.size]? = some (.cells C ty fz)) (hf : ∀ i, i ≤ C.size → ¬ (fz.1 ≤ i ∧ i < fz.2))
    (hc : ∀ (i : Nat) (v : V), cs[i]? = some v → ∃ u, C[i]? = some u ∧ VR ρ v u) (hl : cs.length ≤ C.size) :
    Rel (ρ.put H.length ⟨w.heap.size, 0, C.size, .rw⟩) (newH H cs) w' := by
  refine h.snoc (.cells true cs) ⟨w.heap.size, 0, C.size, .rw⟩ hk (Nat.le_refl _) ?_
  refine ⟨_, C, ty, fz, Map.put_at _ _ _, rfl, hn, fun i v hi => ?_, fun _ => ⟨rfl, by simpa using hl, hf⟩⟩
  obtain ⟨u, hu, hv⟩ := hc i v hi
  exact ⟨u, by simpa using hu, hv.mono (Map.put_le h.dom _)⟩

/-- .. that is only read. -/
theorem Rel.newRo {ρ : Map} {H : Heap} {w w' : World} (h : Rel ρ H w) (cs : List V) (C : Array Value) (ty : TypeId) (fz : Nat × Nat)
    (hk : ∀ i, i < w.heap.size → w'.heap[i]? = w.heap[i]?) (hn : w'.heap[w.heap.size]? = some (.cells C ty fz))
    (hc : ∀ (i : Nat) (v : V), cs[i]? = some v → ∃ u, C[i]? = some u ∧ VR ρ v u) :
    Rel (ρ.put H.length ⟨w.heap.size, 0, C.size, .ro⟩) (H ++ [.cells false cs]) w' := by
  refine h.snoc (.cells false cs) ⟨w.heap.size, 0, C.size, .ro⟩ hk (Nat.le_refl _) ?_
  refine ⟨_, C, ty, fz, Map.put_at _ _ _, rfl, hn, fun i v hi => ?_, fun hh => by cases hh⟩
  obtain ⟨u, hu, hv⟩ := hc i v hi
  exact ⟨u, by simpa using hu, hv.mono (Map.put_le h.dom _)⟩

theorem VRL.cells {ρ : Map} {cs : List V} {us : List Value} (h : VRL ρ cs us) : ∀ (i : Nat) (v : V), cs[i]? = some v → ∃ u, us.toArray[i]? = some u ∧ VR ρ v u := fun i v hi => by
  obtain ⟨u, hu, hv⟩ := h.get hi
  exact ⟨u, by simpa using hu, hv⟩

/-- A new name for a place that no live block has. -/
theorem Rel.snocAt {ρ : Map} {H : Heap} {w : World} (h : Rel ρ H w) (x : Blk) (L : Loc) (hL : ∀ b L', Live H b → ρ b = some L' → L'.blk ≠ L.blk)
    (hx : BlkR (ρ.put H.length L) w H.length x) : Rel (ρ.put H.length L) (H ++ [x]) w := by
  have hle := Map.put_le h.dom L
  refine ⟨?_, ?_, ?_⟩
  · intro b L' hb
    unfold Map.put at hb
    split at hb
    · simp; omega
    · have := h.dom b L' hb; simp; omega
  · intro b k hb
    rcases snoc_get hb with hb | ⟨rfl, rfl⟩
    · exact (h.blk b k hb).mono hle
    · exact hx
  · intro b b' L1 L2 ho hl hne h1 h2
    have old : ∀ c, Live (H ++ [x]) c → c ≠ H.length → Live H c := by
      intro c hc hne
      rcases hc with ⟨rw, cs, hc⟩ | ⟨r, hc⟩
      · rcases snoc_get hc with hc | ⟨rfl, _⟩
        · exact .inl ⟨_, _, hc⟩
        · exact absurd rfl hne
      · rcases snoc_get hc with hc | ⟨rfl, _⟩
        · exact .inr ⟨_, hc⟩
        · exact absurd rfl hne
    have oldo : ∀ c, Owned (H ++ [x]) c → c ≠ H.length → Owned H c := by
      intro c hc hne
      rcases hc with ⟨cs, hc⟩ | ⟨r, hc⟩
      · rcases snoc_get hc with hc | ⟨rfl, _⟩
        · exact .inl ⟨_, hc⟩
        · exact absurd rfl hne
      · rcases snoc_get hc with hc | ⟨rfl, _⟩
        · exact .inr ⟨_, hc⟩
        · exact absurd rfl hne
    by_cases hb : b = H.length
    · subst hb
      have hb' : b' ≠ H.length := fun e => hne e.symm
      rw [Map.put_at] at h1; cases h1
      have e2 : ρ b' = some L2 := by unfold Map.put at h2; rw [if_neg hb'] at h2; exact h2
      exact (hL b' L2 (old b' hl hb') e2).symm
    · have e1 : ρ b = some L1 := by unfold Map.put at h1; rw [if_neg hb] at h1; exact h1
      by_cases hb' : b' = H.length
      · subst hb'
        rw [Map.put_at] at h2; cases h2
        exact hL b L1 (oldo b ho hb).live e1
      · have e2 : ρ b' = some L2 := by unfold Map.put at h2; rw [if_neg hb'] at h2; exact h2
        exact h.inj b b' L1 L2 (oldo b ho hb) (old b' hl hb') hne e1 e2

theorem Step.snocAt {ρ : Map} {H : Heap} {w : World} (h : Rel ρ H w) (x : Blk) (L : Loc) {ρ0 : Map} {H0 : Heap} {w0 : World} (hs : Step ρ0 H0 w0 ρ H w) (hL : OwnR ρ0 H0 L.blk) : Step ρ0 H0 w0 (ρ.put H.length L) (H ++ [x]) w where
  le := Map.le_trans hs.le (Map.put_le h.dom L)
  len := by have := hs.len; simp; omega
  os := hs.os
  tape := hs.tape
  output := hs.output
  size := hs.size
  keep := hs.keep
  own i hi := by
    obtain ⟨b, L', ho, hb, rfl⟩ := hi
    by_cases hbl : b = H.length
    · subst hbl; rw [Map.put_at] at hb; cases hb; exact .inl hL
    · refine hs.own _ ⟨b, L', ?_, ?_, rfl⟩
      · rcases ho with ⟨cs, ho⟩ | ⟨r, ho⟩
        · rcases snoc_get ho with ho | ⟨rfl, _⟩
          · exact .inl ⟨_, ho⟩
          · exact absurd rfl hbl
        · rcases snoc_get ho with ho | ⟨rfl, _⟩
          · exact .inr ⟨_, ho⟩
          · exact absurd rfl hbl
      · unfold Map.put at hb; rw [if_neg hbl] at hb; exact hb
  live i hi := by
    obtain ⟨b, L', ho, hb, rfl⟩ := hi
    by_cases hbl : b = H.length
    · subst hbl; rw [Map.put_at] at hb; cases hb; exact .inl hL.livR
    · refine hs.live _ ⟨b, L', ?_, ?_, rfl⟩
      · rcases ho with ⟨rw, cs, ho⟩ | ⟨r, ho⟩
        · rcases snoc_get ho with ho | ⟨rfl, _⟩
          · exact .inl ⟨_, _, ho⟩
          · exact absurd rfl hbl
        · rcases snoc_get ho with ho | ⟨rfl, _⟩
          · exact .inr ⟨_, ho⟩
          · exact absurd rfl hbl
      · unfold Map.put at hb; rw [if_neg hbl] at hb; exact hb
  fresh b L' hb := by
    unfold Map.put at hb
    split at hb
    · rename_i e; have := hs.len; exact .inr (by omega)
    · exact hs.fresh b L' hb

end Go.Vm
