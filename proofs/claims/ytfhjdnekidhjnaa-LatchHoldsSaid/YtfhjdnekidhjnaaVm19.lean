/-
  Regions whose order is drawn: heaps with places kept for new variables.
-/
import Derived.Test.YtfhjdnekidhjnaaVm18
set_option linter.unusedVariables false
set_option linter.unusedSimpArgs false
namespace Go.Vm

def ov (H : Heap) (g : Nat → Option (List V)) : Heap := H.mapIdx fun b x => match g b with
  | some cs => .cells true cs
  | none => x

theorem ov_len (H : Heap) (g : Nat → Option (List V)) : (ov H g).length = H.length := by simp [ov]

theorem ov_none {H : Heap} {g : Nat → Option (List V)} {b : Nat} (h : g b = none) : (ov H g)[b]? = H[b]? := by
  unfold ov
  rw [List.getElem?_mapIdx, h]
  cases H[b]? <;> rfl

theorem ov_some {H : Heap} {g : Nat → Option (List V)} {b : Nat} {cs : List V} (h : g b = some cs) (hb : b < H.length) : (ov H g)[b]? = some (.cells true cs) := by
  unfold ov
  rw [List.getElem?_mapIdx, h, List.getElem?_eq_getElem hb]
  rfl

theorem ov_out {H : Heap} {g : Nat → Option (List V)} {b : Nat} (hb : H.length ≤ b) : (ov H g)[b]? = none := by
  rw [List.getElem?_eq_none]
  rw [ov_len]
  exact hb

def DeadAt (H : Heap) (g : Nat → Option (List V)) : Prop := ∀ b cs, g b = some cs → H[b]? = some .dead

theorem DeadAt.live {H : Heap} {g : Nat → Option (List V)} (h : DeadAt H g) {b : Nat} (hl : Live H b) : g b = none := by
  cases hg : g b with
  | none => rfl
  | some cs =>
    have := h b cs hg
    rcases hl with ⟨_, _, hl⟩ | ⟨_, hl⟩ <;> rw [this] at hl <;> cases hl

theorem live_ov {H : Heap} {g : Nat → Option (List V)} {b : Nat} (h : g b = none) : Live (ov H g) b ↔ Live H b := by
  unfold Live
  rw [ov_none h]

theorem owned_ov {H : Heap} {g : Nat → Option (List V)} {b : Nat} (h : g b = none) : Owned (ov H g) b ↔ Owned H b := by
  unfold Owned
  rw [ov_none h]

theorem owned_ov_some {H : Heap} {g : Nat → Option (List V)} {b : Nat} {cs : List V} (h : g b = some cs) (hb : b < H.length) : Owned (ov H g) b := .inl ⟨cs, ov_some h hb⟩

theorem Live.lt {H : Heap} {b : Nat} (h : Live H b) : b < H.length := by
  rcases h with ⟨_, _, h⟩ | ⟨_, h⟩
  · exact (List.getElem?_eq_some_iff.1 h).1
  · exact (List.getElem?_eq_some_iff.1 h).1

theorem DeadAt.lt {H : Heap} {g : Nat → Option (List V)} (h : DeadAt H g) {b : Nat} {cs : List V} (hg : g b = some cs) : b < H.length :=
  (List.getElem?_eq_some_iff.1 (h b cs hg)).1

theorem Rel.kill {ρ : Map} {H : Heap} {w : World} {g : Nat → Option (List V)} (h : Rel ρ (ov H g) w) (hd : DeadAt H g) : Rel ρ H w where
  dom b L hb := by have := h.dom b L hb; rwa [ov_len] at this
  blk b k hb := by
    cases hg : g b with
    | none => exact h.blk b k ((ov_none hg).trans hb)
    | some cs =>
      rw [hd b cs hg] at hb
      cases hb
      trivial
  inj b b' L L' ho hl hne h1 h2 :=
    h.inj b b' L L' ((owned_ov (hd.live ho.live)).2 ho) ((live_ov (hd.live hl)).2 hl) hne h1 h2

theorem OwnR.ov {ρ : Map} {H : Heap} {g : Nat → Option (List V)} (hd : DeadAt H g) {i : Nat} (h : OwnR ρ H i) : OwnR ρ (ov H g) i := by
  obtain ⟨b, L, ho, hb, e⟩ := h
  exact ⟨b, L, (owned_ov (hd.live ho.live)).2 ho, hb, e⟩

theorem LivR.ov {ρ : Map} {H : Heap} {g : Nat → Option (List V)} (hd : DeadAt H g) {i : Nat} (h : LivR ρ H i) : LivR ρ (ov H g) i := by
  obtain ⟨b, L, ho, hb, e⟩ := h
  exact ⟨b, L, (live_ov (hd.live ho)).2 ho, hb, e⟩

/-- What the kept places are: no others' places, and left alone by a step. -/
theorem Rel.kept {ρ ρ' : Map} {H H' : Heap} {w w' : World} {g : Nat → Option (List V)} (h : Rel ρ (Vm.ov H g) w) (hd : DeadAt H g) (hs : Step ρ H w ρ' H' w') {b : Nat} {cs : List V} (hg : g b = some cs) :
    ∃ L, ρ b = some L ∧ ρ' b = some L ∧ L.blk < w.heap.size ∧ ¬ LivR ρ' H' L.blk ∧ BlkR ρ' w' b (.cells true cs) := by
  have hb := hd.lt hg
  have hbl := ov_some hg hb
  obtain ⟨L, C, ty, fz, h1, h2, h3, h4⟩ := h.blk _ _ hbl
  have hlt := (Array.getElem?_eq_some_iff.1 h3).1
  have hno : ¬ LivR ρ H L.blk := by
    rintro ⟨b1, L1, k1, k2, k3⟩
    have hg1 := hd.live k1
    have hne : b ≠ b1 := by rintro rfl; rw [hg1] at hg; cases hg
    exact h.inj b b1 L L1 (owned_ov_some hg hb) ((live_ov hg1).2 k1) hne h1 k2 k3.symm
  refine ⟨L, h1, hs.le _ _ h1, hlt, fun hl => ?_, ?_⟩
  · rcases hs.live _ hl with hl | hl
    · exact hno hl
    · omega
  · have : BlkR ρ w' b (.cells true cs) := ⟨L, C, ty, fz, h1, h2, (hs.keep _ hlt fun ho => hno ho.livR).trans h3, h4⟩
    exact this.mono hs.le

theorem Rel.refill {ρ ρ' : Map} {H H' : Heap} {w w' : World} {g : Nat → Option (List V)} (h : Rel ρ (Vm.ov H g) w) (hd : DeadAt H g) (h' : Rel ρ' H' w') (hs : Step ρ H w ρ' H' w') : Rel ρ' (Vm.ov H' g) w' where
  dom b L hb := by rw [ov_len]; exact h'.dom b L hb
  blk b k hb := by
    cases hg : g b with
    | none => rw [ov_none hg] at hb; exact h'.blk b k hb
    | some cs =>
      rw [ov_some hg (Nat.lt_of_lt_of_le (hd.lt hg) hs.len)] at hb
      cases hb
      obtain ⟨L, _, _, _, _, k⟩ := h.kept hd hs hg
      exact k
  inj b b' L L' ho hl hne h1 h2 := by
    cases hg : g b with
    | none =>
      rw [owned_ov hg] at ho
      cases hg' : g b' with
      | none =>
        rw [live_ov hg'] at hl
        exact h'.inj b b' L L' ho hl hne h1 h2
      | some cs =>
        obtain ⟨L2, k1, k2, k3, k4, k5⟩ := h.kept hd hs hg'
        rw [k2] at h2; cases h2
        exact fun e => k4 ⟨b, L, ho.live, h1, e⟩
    | some cs =>
      obtain ⟨L2, k1, k2, k3, k4, k5⟩ := h.kept hd hs hg
      rw [k2] at h1; cases h1
      cases hg' : g b' with
      | none =>
        rw [live_ov hg'] at hl
        exact fun e => k4 ⟨b', L', hl, h2, e.symm⟩
      | some cs' =>
        obtain ⟨L3, m1, m2, m3, m4, m5⟩ := h.kept hd hs hg'
        rw [m2] at h2; cases h2
        exact h.inj b b' L L' (owned_ov_some hg (hd.lt hg)) (owned_ov_some hg' (hd.lt hg')).live hne k1 m1

theorem Step.refill {ρ0 ρ ρ' : Map} {H0 H H' : Heap} {w0 w w' : World} {g : Nat → Option (List V)} (h : Rel ρ (Vm.ov H g) w) (hd : DeadAt H g) (h0 : Step ρ0 H0 w0 ρ (Vm.ov H g) w) (hs : Step ρ H w ρ' H' w') :
    Step ρ0 H0 w0 ρ' (Vm.ov H' g) w' where
  le := Map.le_trans h0.le hs.le
  len := by rw [ov_len]; have := h0.len; rw [ov_len] at this; exact Nat.le_trans this hs.len
  os := hs.os.trans h0.os
  tape := hs.tape.trans h0.tape
  output := hs.output.trans h0.output
  size := Nat.le_trans h0.size hs.size
  keep i hi hn := by
    refine (hs.keep i (Nat.lt_of_lt_of_le hi h0.size) fun ho => ?_).trans (h0.keep i hi hn)
    rcases h0.own i (ho.ov hd) with ho | ho
    · exact hn ho
    · omega
  own i hi := by
    obtain ⟨b, L, ho, hb, rfl⟩ := hi
    cases hg : g b with
    | none =>
      rw [owned_ov hg] at ho
      rcases hs.own _ ⟨b, L, ho, hb, rfl⟩ with k | k
      · exact h0.own _ (k.ov hd)
      · exact .inr (Nat.le_trans h0.size k)
    | some cs =>
      obtain ⟨L2, k1, k2, k3, k4, k5⟩ := h.kept hd hs hg
      rw [k2] at hb; cases hb
      exact h0.own _ ⟨b, _, owned_ov_some hg (hd.lt hg), k1, rfl⟩
  live i hi := by
    obtain ⟨b, L, ho, hb, rfl⟩ := hi
    cases hg : g b with
    | none =>
      rw [live_ov hg] at ho
      rcases hs.live _ ⟨b, L, ho, hb, rfl⟩ with k | k
      · exact h0.live _ (k.ov hd)
      · exact .inr (Nat.le_trans h0.size k)
    | some cs =>
      obtain ⟨L2, k1, k2, k3, k4, k5⟩ := h.kept hd hs hg
      rw [k2] at hb; cases hb
      exact h0.live _ ⟨b, _, (owned_ov_some hg (hd.lt hg)).live, k1, rfl⟩
  fresh b L hb := by
    rcases hs.fresh b L hb with hb | hb
    · exact h0.fresh b L hb
    · have := h0.len
      rw [ov_len] at this
      exact .inr (Nat.le_trans this hb)

/-! ### A new variable at a kept place -/

theorem put_free {ρ : Map} {s : Nat} (h : ρ s = none) (L : Loc) : Map.le ρ (ρ.put s L) := by
  intro b L' hb
  unfold Map.put
  by_cases e : b = s
  · subst e; rw [h] at hb; cases hb
  · rw [if_neg e]; exact hb

theorem Rel.newAt {ρ : Map} {H : Heap} {w w' : World} (h : Rel ρ H w) {s : Nat} {L : Loc} {cs : List V} (hs : s < H.length) (hf : ρ s = none) (hk : ∀ i, i < w.heap.size → w'.heap[i]? = w.heap[i]?) (hL : w.heap.size ≤ L.blk)
    (hx : BlkR (ρ.put s L) w' s (.cells true cs)) : Rel (ρ.put s L) (H.set s (.cells true cs)) w' := by
  have hle := put_free hf L
  have h' := h.same hk
  have old : ∀ c, Live (H.set s (.cells true cs)) c → c ≠ s → Live H c := by
    intro c hc hne
    unfold Live at *
    rw [List.getElem?_set_ne (Ne.symm hne)] at hc
    exact hc
  have oldo : ∀ c, Owned (H.set s (.cells true cs)) c → c ≠ s → Owned H c := by
    intro c hc hne
    unfold Owned at *
    rw [List.getElem?_set_ne (Ne.symm hne)] at hc
    exact hc
  have ne : ∀ {b : Nat} {L' : Loc}, (ρ.put s L) b = some L' → b ≠ s → ρ b = some L' := by
    intro b L' hb hne
    unfold Map.put at hb
    rw [if_neg hne] at hb
    exact hb
  refine ⟨?_, ?_, ?_⟩
  · intro b L' hb
    rw [List.length_set]
    by_cases e : b = s
    · subst e; exact hs
    · exact h.dom b L' (ne hb e)
  · intro b k hb
    by_cases e : b = s
    · subst e
      rw [List.getElem?_set_self hs] at hb
      cases hb
      exact hx
    · rw [List.getElem?_set_ne (Ne.symm e)] at hb
      exact (h'.blk b k hb).mono hle
  · intro b b' L1 L2 ho hl hne h1 h2
    by_cases e : b = s
    · subst e
      rw [Map.put_at] at h1; cases h1
      have hb' : b' ≠ b := Ne.symm hne
      obtain ⟨L3, k1, k2⟩ := h.lt (old b' hl hb')
      rw [ne h2 hb'] at k1; cases k1
      omega
    · by_cases e' : b' = s
      · subst e'
        rw [Map.put_at] at h2; cases h2
        obtain ⟨L3, k1, k2⟩ := h.lt (oldo b ho e).live
        rw [ne h1 e] at k1; cases k1
        omega
      · exact h.inj b b' L1 L2 (oldo b ho e) (old b' hl e') hne (ne h1 e) (ne h2 e')

theorem Step.newAt {ρ0 ρ : Map} {H0 H : Heap} {w0 w w' : World} (h0 : Step ρ0 H0 w0 ρ H w) {s : Nat} {L : Loc} {cs : List V} (hf : ρ s = none) (hk : ∀ i, i < w.heap.size → w'.heap[i]? = w.heap[i]?) (hz : w.heap.size ≤ w'.heap.size)
    (hL : w.heap.size ≤ L.blk) (hs : H0.length ≤ s) (e1 : w'.os = w.os) (e2 : w'.tape = w.tape) (e3 : w'.output = w.output) : Step ρ0 H0 w0 (ρ.put s L) (H.set s (.cells true cs)) w' where
  le := Map.le_trans h0.le (put_free hf L)
  len := by rw [List.length_set]; exact h0.len
  os := e1.trans h0.os
  tape := e2.trans h0.tape
  output := e3.trans h0.output
  size := Nat.le_trans h0.size hz
  keep i hi hn := (hk i (Nat.lt_of_lt_of_le hi h0.size)).trans (h0.keep i hi hn)
  own i hi := by
    obtain ⟨b, L', ho, hb, rfl⟩ := hi
    by_cases e : b = s
    · subst e
      rw [Map.put_at] at hb; cases hb
      exact .inr (Nat.le_trans h0.size hL)
    · unfold Map.put at hb
      rw [if_neg e] at hb
      refine h0.own _ ⟨b, L', ?_, hb, rfl⟩
      unfold Owned at *
      rw [List.getElem?_set_ne (Ne.symm e)] at ho
      exact ho
  live i hi := by
    obtain ⟨b, L', ho, hb, rfl⟩ := hi
    by_cases e : b = s
    · subst e
      rw [Map.put_at] at hb; cases hb
      exact .inr (Nat.le_trans h0.size hL)
    · unfold Map.put at hb
      rw [if_neg e] at hb
      refine h0.live _ ⟨b, L', ?_, hb, rfl⟩
      unfold Live at *
      rw [List.getElem?_set_ne (Ne.symm e)] at ho
      exact ho
  fresh b L' hb := by
    by_cases e : b = s
    · subst e; exact .inr hs
    · unfold Map.put at hb
      rw [if_neg e] at hb
      exact h0.fresh b L' hb

/-- Dead blocks behind. -/
theorem pad_get {H : Heap} {n b : Nat} {k : Blk} (h : (H ++ List.replicate n Blk.dead)[b]? = some k) : H[b]? = some k ∨ (k = .dead ∧ H.length ≤ b) := by
  by_cases hb : b < H.length
  · rw [List.getElem?_append_left hb] at h; exact .inl h
  · rw [List.getElem?_append_right (by omega), List.getElem?_replicate] at h
    split at h
    · cases h; exact .inr ⟨rfl, by omega⟩
    · cases h

theorem pad_live {H : Heap} {n b : Nat} (h : Live (H ++ List.replicate n Blk.dead) b) : Live H b := by
  rcases h with ⟨rw, cs, h⟩ | ⟨r, h⟩
  · rcases pad_get h with h | ⟨h, _⟩
    · exact .inl ⟨_, _, h⟩
    · cases h
  · rcases pad_get h with h | ⟨h, _⟩
    · exact .inr ⟨_, h⟩
    · cases h

theorem pad_owned {H : Heap} {n b : Nat} (h : Owned (H ++ List.replicate n Blk.dead) b) : Owned H b := by
  rcases h with ⟨cs, h⟩ | ⟨r, h⟩
  · rcases pad_get h with h | ⟨h, _⟩
    · exact .inl ⟨_, h⟩
    · cases h
  · rcases pad_get h with h | ⟨h, _⟩
    · exact .inr ⟨_, h⟩
    · cases h

theorem Rel.pad {ρ : Map} {H : Heap} {w : World} (h : Rel ρ H w) (n : Nat) : Rel ρ (H ++ List.replicate n Blk.dead) w where
  dom b L hb := by have := h.dom b L hb; simp; omega
  blk b k hb := by
    rcases pad_get hb with hb | ⟨rfl, _⟩
    · exact h.blk b k hb
    · trivial
  inj b b' L L' ho hl := h.inj b b' L L' (pad_owned ho) (pad_live hl)

theorem Step.pad {ρ0 ρ : Map} {H0 H : Heap} {w0 w : World} (h : Step ρ0 H0 w0 ρ H w) (n : Nat) : Step ρ0 H0 w0 ρ (H ++ List.replicate n Blk.dead) w where
  le := h.le
  len := by have := h.len; simp; omega
  os := h.os
  tape := h.tape
  output := h.output
  size := h.size
  keep := h.keep
  own i hi := by
    obtain ⟨b, L, ho, hb, e⟩ := hi
    exact h.own i ⟨b, L, pad_owned ho, hb, e⟩
  live i hi := by
    obtain ⟨b, L, ho, hb, e⟩ := hi
    exact h.live i ⟨b, L, pad_live ho, hb, e⟩
  fresh := h.fresh

/-! ### Loads hang on one block -/

theorem cellV_congr {H H' : Heap} {b o : Nat} (h : H[b]? = H'[b]?) : cellV H b o = cellV H' b o := by
  unfold cellV; rw [h]

theorem rdLeaf_congr {R : Type} {H H' : Heap} {b o : Nat} (h : H[b]? = H'[b]?) {l : Leaf} {K : V → Option R} : rdLeaf H b o l K = rdLeaf H' b o l K := by
  cases l <;> simp only [rdLeaf, cellI, cellB, cellStr, cellP, cellS, cellV_congr h]

theorem rdLeaves_congr {R : Type} {H H' : Heap} {b : Nat} (h : H[b]? = H'[b]?) : ∀ {ls : List Leaf} {o : Nat} {K : List V → Option R}, rdLeaves H b o ls K = rdLeaves H' b o ls K
  | [], _, _ => rfl
  | l :: ls, o, K => by
    unfold rdLeaves
    rw [rdLeaf_congr h]
    congr 1
    funext v
    exact rdLeaves_congr h

theorem loadT_congr {R : Type} {P : Program} {t : TypeId} {H H' : Heap} {b o : Nat} {K : V → Option R} (h : H[b]? = H'[b]?) : loadT P t H b o K = loadT P t H' b o K := by
  unfold loadT
  split
  · rw [rdLeaves_congr h]
  · split
    · rw [rdLeaf_congr h]
    · rfl

theorem sameV_eq {v u : V} (h : sameV v u = true) : v = u := by
  unfold sameV at h
  split at h <;> simp_all

theorem sameVs_eq : ∀ {vs us : List V}, sameVs vs us = true → vs = us
  | [], [], _ => rfl
  | v :: vs, u :: us, h => by
    simp only [sameVs, Bool.and_eq_true] at h
    rw [sameV_eq h.1, sameVs_eq h.2]
  | [], _ :: _, h => by simp [sameVs] at h
  | _ :: _, [], h => by simp [sameVs] at h

theorem sameVal_eq {v u : V} (h : sameVal v u = true) : v = u := by
  unfold sameVal at h
  split at h
  · rw [sameVs_eq h]
  · exact sameV_eq h

theorem loadR_congr {P : Program} {r : Rd} {H H' : Heap} {b o : Nat} (h : H[b]? = H'[b]?) : loadR P r H b o = loadR P r H' b o := by
  cases r with
  | ty t => exact loadT_congr h
  | txt n => unfold loadR getS; simp only [h]

theorem eqLoad_spec {P : Program} {H : Heap} {p : Rd × (Nat × Nat)} {v : V} (h : eqLoad P H p v = true) : loadR P p.1 H p.2.1 p.2.2 = some v := by
  unfold eqLoad at h
  split at h
  · rename_i u hu
    rw [sameVal_eq h, hu]
  · cases h

/-- A reading operation: what it reads, where it reads it. -/
theorem opX_read {c : Cfg} {call : CallF} {o : Oper} {st : St} (hcl : clsOf c.P o = .l) : ∃ g : Heap → Option V, (∀ (R : Type) (H : Heap) (K : V → Heap → Option R), opX c call o st H K = (g H).bind fun v => K v H) ∧
    ∀ H v, g H = some v → (addrOf o st = none → ∀ H', g H' = some v) ∧ ∀ r a, addrOf o st = some (r, a) → ∀ H', g H' = loadR c.P r H' a.1 a.2 := by
  refine ⟨fun H => opX c call o st H (fun v _ => some v), ?_, ?_⟩
  · intro R H K
    unfold opX
    rcases clsOf_l hcl with ⟨t, x, hop⟩ | ⟨s, t, x, e, hop, ht, hs⟩
    · simp only [hop]
      split
      · rename_i p hp
        cases p with
        | none => rfl
        | some a =>
          simp only [Option.bind_some]
          rw [loadT_split]
      · rfl
    · simp only [hop, ht, hs]
      split <;> first | rfl | (exfalso; simp_all; done) | skip
      repeat' first
        | rfl
        | (rw [Option.bind_assoc]; congr 1; funext _; rw [Option.bind_assoc]; rfl)
        | split
  · intro H v hv
    unfold opX at hv
    rcases clsOf_l hcl with ⟨t, x, hop⟩ | ⟨s, t, x, e, hop, ht, hs⟩
    · rw [hop] at hv
      simp only at hv
      split at hv
      · rename_i p hp
        obtain ⟨a, rfl, hv⟩ := Option.bind_eq_some_iff.1 hv
        have ha : addrOf o st = some (.ty t, a) := by unfold addrOf; rw [hop]; simp only [hp]
        refine ⟨fun h => (by rw [ha] at h; cases h), fun r b h H' => ?_⟩
        rw [ha] at h
        cases h
        unfold opX loadR
        simp only [hop, hp, Option.bind_some]
      · cases hv
    · rw [hop] at hv
      simp only [ht, hs] at hv
      split at hv <;> first | (cases hv; done) | (exfalso; simp_all; done) | skip
      rename_i e' k2 es p n e1 k1 k3 k4
      obtain rfl : e = e1 := by simpa using k3
      split at hv
      · rename_i hes
        split at hv
        · rename_i he
          cases p with
          | some a =>
            have ha : addrOf o st = some (.txt n, a) := by unfold addrOf; rw [hop]; simp only [k1]
            refine ⟨fun h => (by rw [ha] at h; cases h), fun r b h H' => ?_⟩
            rw [ha] at h
            cases h
            unfold opX loadR
            simp only [hop, ht, hs, k1, if_pos hes, he, if_true]
          | none =>
            refine ⟨fun h H' => ?_, fun r b h H' => ?_⟩
            · unfold opX
              simp only [hop, ht, hs, k1, if_pos hes, he, if_true]
              unfold getS at hv ⊢
              exact hv
            · unfold addrOf at h
              rw [hop] at h
              simp only [k1] at h
              cases h
        · cases hv
      · cases hv

end Go.Vm
