/-
  A small heap within a larger one, told by lists.
-/
import Derived.Test.YtfhjdnekidhjnaaVm34
set_option linter.unusedVariables false
set_option linter.unusedSimpArgs false
namespace Go.Vm

def sg (l : List (Option (Nat × Nat))) : Sig := fun b => (l[b]?).join
def nu (n : Nat) (l : List Nat) : Nat → Option Nat := fun b1 => if b1 < n then none else l[b1 - n]?

def ownB : Blk → Bool
  | .cells true _ => true
  | .loop _ => true
  | _ => false
def livB : Blk → Bool
  | .cells _ _ => true
  | .loop _ => true
  | _ => false
def ownAt (H : Heap) (b : Nat) : Bool := match H[b]? with
  | some k => ownB k
  | none => false
def livAt (H : Heap) (b : Nat) : Bool := match H[b]? with
  | some k => livB k
  | none => false
def deadAt (H : Heap) (b : Nat) : Bool := match H[b]? with
  | some .dead => true
  | _ => false

theorem owned_at {H : Heap} {b : Nat} : Owned H b → ownAt H b = true := by
  rintro (⟨cs, h⟩ | ⟨r, h⟩) <;> simp [ownAt, h, ownB]
theorem live_at {H : Heap} {b : Nat} : Live H b → livAt H b = true := by
  rintro (⟨rw, cs, h⟩ | ⟨r, h⟩) <;> simp [livAt, h, livB]

def samePB : Option (Nat × Nat) → Option (Nat × Nat) → Bool
  | some p, some q => p.1 == q.1
  | _, _ => false
def eqPB : Option (Nat × Nat) → Option (Nat × Nat) → Bool
  | some p, some q => p.1 == q.1 && p.2 == q.2
  | _, _ => false

/-- The names do not meet, and none is of a block that is given up. -/
def chkE (H : Heap) (sl : List (Option (Nat × Nat))) : Bool :=
  decide (sl.length ≤ H.length) &&
  (List.range sl.length).all fun b => !((sg sl b).isSome && deadAt H b) && (List.range sl.length).all fun b' => b == b' || !(ownAt H b && livAt H b') || !(samePB (sg sl b) (sg sl b'))

def chkP (H G G' : Heap) (sl sl' : List (Option (Nat × Nat))) (nl : List Nat) : Bool :=
  decide (G.length ≤ G'.length) && nl.length == G'.length - G.length &&
  (List.range sl'.length).all fun b => match sg sl' b with
    | none => true
    | some p => if p.1 < G.length then eqPB (sg sl b) (some p) && (!(roAt H b) || roAt G p.1) else p.2 == 0 && nl[p.1 - G.length]? == some b

def EmbL (σ : Sig) (G : Heap) : Nat → List Blk → Prop
  | _, [] => True
  | b, k :: ks => EB σ G b k ∧ EmbL σ G (b + 1) ks

theorem embL_get {σ : Sig} {G : Heap} : ∀ {H : List Blk} {s : Nat}, EmbL σ G s H → ∀ {b : Nat} {k : Blk}, H[b]? = some k → EB σ G (s + b) k
  | [], _, _, _, _, h => by simp at h
  | k0 :: ks, s, h, b, k, hb => by
    cases b with
    | zero => simp at hb; subst hb; exact h.1
    | succ b =>
      have := embL_get h.2 (b := b) (k := k) (by simpa using hb)
      rw [show s + (b + 1) = s + 1 + b by omega]
      exact this

theorem sg_lt {l : List (Option (Nat × Nat))} {b : Nat} {p : Nat × Nat} (h : sg l b = some p) : b < l.length := by
  unfold sg at h
  cases hb : l[b]? with
  | none => rw [hb] at h; simp at h
  | some x => exact (List.getElem?_eq_some_iff.1 hb).1

theorem emb_of {H G : Heap} {sl : List (Option (Nat × Nat))} (hc : chkE H sl = true) (he : EmbL (sg sl) G 0 H) : Emb (sg sl) H G ∧ ∀ b p, sg sl b = some p → H[b]? ≠ some .dead := by
  unfold chkE at hc
  simp only [Bool.and_eq_true, decide_eq_true_eq, List.all_eq_true, List.mem_range] at hc
  refine ⟨⟨fun b p hb => Nat.lt_of_lt_of_le (sg_lt hb) hc.1, fun b k hb => by simpa using embL_get he hb, ?_⟩, ?_⟩
  · intro b b' p p' ho hl hne h1 h2 e
    have := (hc.2 b (sg_lt h1)).2 b' (sg_lt h2)
    rw [owned_at ho, live_at hl, h1, h2] at this
    simp [hne, samePB, e] at this
  · intro b p hb hd
    have := (hc.2 b (sg_lt hb)).1
    simp [hb, deadAt, hd] at this

/-- What each block of the larger heap is, behind it. -/
def PostL (sl : List (Option (Nat × Nat))) (σ' : Sig) (H G H' : Heap) : Nat → List Blk → Prop
  | _, [] => True
  | b1, k :: ks => (k = .dead ∨ (G[b1]? = some k ∧ ((List.range sl.length).all fun b => !(ownAt H b && eqPB (sg sl b) (some (b1, 0)))) = true) ∨ ∃ b k0, σ' b = some (b1, 0) ∧ H'[b]? = some k0 ∧ IB σ' k0 k) ∧ PostL sl σ' H G H' (b1 + 1) ks

theorem postL_get {sl : List (Option (Nat × Nat))} {σ' : Sig} {H G H' : Heap} : ∀ {G' : List Blk} {s : Nat}, PostL sl σ' H G H' s G' → ∀ {b1 : Nat} {k : Blk}, G'[b1]? = some k →
    (k = .dead ∨ (G[s + b1]? = some k ∧ ((List.range sl.length).all fun b => !(ownAt H b && eqPB (sg sl b) (some (s + b1, 0)))) = true) ∨ ∃ b k0, σ' b = some (s + b1, 0) ∧ H'[b]? = some k0 ∧ IB σ' k0 k)
  | [], _, _, _, _, h => by simp at h
  | k0 :: ks, s, h, b, k, hb => by
    cases b with
    | zero => simp at hb; subst hb; exact h.1
    | succ b =>
      have := postL_get h.2 (b1 := b) (k := k) (by simpa using hb)
      rw [show s + (b + 1) = s + 1 + b by omega]
      exact this

theorem post_of {H G H' G' : Heap} {sl sl' : List (Option (Nat × Nat))} {nl : List Nat} (hc : chkP H G G' sl sl' nl = true) (hp : PostL sl (sg sl') H G H' 0 G') : Post (sg sl) (sg sl') (nu G.length nl) H G H' G' := by
  unfold chkP at hc
  simp only [Bool.and_eq_true, decide_eq_true_eq, List.all_eq_true, List.mem_range, beq_iff_eq] at hc
  obtain ⟨⟨h1, h2⟩, h3⟩ := hc
  refine ⟨h1, ?_, ?_, ?_, ?_⟩
  · intro b p hb hlt
    have := h3 b (sg_lt hb)
    rw [hb] at this
    simp only [hlt, if_true, Bool.and_eq_true] at this
    refine ⟨?_, fun hr => ?_⟩
    · cases hs : sg sl b with
      | none => rw [hs] at this; simp [eqPB] at this
      | some q =>
        rw [hs] at this
        simp only [eqPB, Bool.and_eq_true, beq_iff_eq] at this
        obtain ⟨⟨e1, e2⟩, _⟩ := this
        cases p; cases q
        simp_all
    · have := this.2
      rw [hr] at this
      simpa using this
  · intro b p hb hge
    have := h3 b (sg_lt hb)
    rw [hb] at this
    simp only [show ¬ p.1 < G.length by omega, if_false, Bool.and_eq_true, beq_iff_eq] at this
    refine ⟨this.1, ?_⟩
    unfold nu
    rw [if_neg (by omega)]
    exact this.2
  · intro b1 b hb
    unfold nu at hb
    split at hb
    · cases hb
    · have := (List.getElem?_eq_some_iff.1 hb).1
      omega
  · intro b1 k hk
    rcases postL_get hp hk with h | ⟨h, hn⟩ | ⟨b, k0, e1, e2, e3⟩
    · exact .inl h
    · rw [Nat.zero_add] at h hn
      refine .inr (.inl ⟨(List.getElem?_eq_some_iff.1 h).1, h, fun b ho hs => ?_⟩)
      rw [List.all_eq_true] at hn
      have := hn b (List.mem_range.2 (sg_lt hs))
      rw [owned_at ho, hs] at this
      simp [eqPB] at this
    · rw [Nat.zero_add] at e1
      exact .inr (.inr ⟨b, k0, e1, e2, e3⟩)

/-- A call, on a larger heap. -/
theorem OK.at {c : Cfg} {fv fv1 : V} {args args1 : List V} {H H' : Heap} {v v1 : V} (h : OK c fv args H v H') (sl sl' : List (Option (Nat × Nat))) (nl : List Nat) (G G' : Heap) (h1 : chkE H sl = true) (h2 : chkP H G G' sl sl' nl = true)
    (h3 : EmbL (sg sl) G 0 H) (h4 : PostL sl (sg sl') H G H' 0 G') (hf : VE true (sg sl) fv fv1) (ha : VEL true (sg sl) args args1) (hv : VE false (sg sl') v v1) : OK c fv1 args1 G v1 G' :=
  h.emb (emb_of h1 h3).1 (emb_of h1 h3).2 (post_of h2 h4) hf ha hv

theorem COK.at {c : Cfg} {rd rd1 : Option Nat} {code : Code} {st st1 st' st1' : St} {H H' : Heap} {e : Ex} (h : COK c rd code st H e st' H') (sl sl' : List (Option (Nat × Nat))) (nl : List Nat) (G G' : Heap) (hrd : RdE (sg sl) rd rd1) (h1 : chkE H sl = true) (h2 : chkP H G G' sl sl' nl = true)
    (h3 : EmbL (sg sl) G 0 H) (h4 : PostL sl (sg sl') H G H' 0 G') (hs : VEL true (sg sl) st st1) (hs' : VEL false (sg sl') st' st1') : COK c rd1 code st1 G e st1' G' :=
  COK.emb h hrd (emb_of h1 h3).1 (emb_of h1 h3).2 (post_of h2 h4) hs hs'

theorem LOK.at {c : Cfg} {rd rd1 : Option Nat} {code : Code} {st st1 st' st1' : St} {H H' : Heap} {e : Ex} (h : LOK c rd code st H e st' H') (sl sl' : List (Option (Nat × Nat))) (nl : List Nat) (G G' : Heap) (hrd : RdE (sg sl) rd rd1) (h1 : chkE H sl = true) (h2 : chkP H G G' sl sl' nl = true)
    (h3 : EmbL (sg sl) G 0 H) (h4 : PostL sl (sg sl') H G H' 0 G') (hs : VEL true (sg sl) st st1) (hs' : VEL false (sg sl') st' st1') : LOK c rd1 code st1 G e st1' G' :=
  LOK.emb h hrd (emb_of h1 h3).1 (emb_of h1 h3).2 (post_of h2 h4) hs hs'

/-- A call of plain values, on any heap. -/
theorem OK.anyH {c : Cfg} {f : FuncId} {args : List V} {H' : Heap} {v : V} (h : OK c (.fn f []) args [] v H') (ha : plains args = true) (hv : v.plain = true ∨ ∃ cs, (v = .tup cs ∨ v = .agg cs) ∧ plains cs = true) (G : Heap) : OK c (.fn f []) args G v G := by
  have he : Emb (fun _ => none) [] G := ⟨fun b p hb => (by cases hb), fun b k hb => (by simp at hb), fun b b' p p' ho => (by rcases ho with ⟨_, h⟩ | ⟨_, h⟩ <;> simp at h)⟩
  have hp : Post (fun _ => none) (fun _ => none) (fun _ => none) [] G H' G :=
    ⟨Nat.le_refl _, fun b p hb => (by cases hb), fun b p hb => (by cases hb), fun b1 b hb => (by cases hb), fun b1 k hk => .inr (.inl ⟨(List.getElem?_eq_some_iff.1 hk).1, hk, fun b _ hb => (by cases hb)⟩)⟩
  refine OK.emb h he (fun b p hb => (by cases hb)) hp (.fn _ _ _ .nil) (VEL.plain ha) ?_
  rcases hv with hv | ⟨cs, rfl | rfl, hv⟩
  · exact VE.plain hv
  · exact .tup _ _ (VEL.plain hv)
  · exact .agg _ _ (VEL.plain hv)

/-! ### Names for names -/

def renP (σ : Sig) : Nat × Nat → Option (Nat × Nat)
  | (b, o) => (σ b).map fun p => (p.1, p.2 + o)

mutual
def renV (σ : Sig) : V → Option V
  | .ptr (some p) => (renP σ p).map fun q => .ptr (some q)
  | .sl es (some p) n => (renP σ p).map fun q => .sl es (some q) n
  | .fn f cs => (renL σ cs).map (.fn f)
  | .yld b => (σ b).bind fun p => if p.2 = 0 then some (.yld p.1) else none
  | .agg cs => (renL σ cs).map .agg
  | .tup cs => (renL σ cs).map .tup
  | .int k n => some (.int k n)
  | .bool b => some (.bool b)
  | .str s => some (.str s)
  | .ptr none => some (.ptr none)
  | .sl es none n => some (.sl es none n)
  | .nilFn => some .nilFn
  | .nilIface => some .nilIface
  | .undef => some .undef
def renL (σ : Sig) : List V → Option (List V)
  | [] => some []
  | v :: vs => match renV σ v, renL σ vs with
    | some v', some vs' => some (v' :: vs')
    | _, _ => none
end

mutual
theorem VE.ren {q : Bool} {σ : Sig} : ∀ {v v' : V}, renV σ v = some v' → VE q σ v v'
  | .ptr (some (b, o)), v', h => by
    simp only [renV, renP, Option.map_map, Option.map_eq_some_iff, Function.comp] at h
    obtain ⟨⟨b', o'⟩, h1, rfl⟩ := h
    exact .ptr b o b' o' h1
  | .sl es (some (b, o)) n, v', h => by
    simp only [renV, renP, Option.map_map, Option.map_eq_some_iff, Function.comp] at h
    obtain ⟨⟨b', o'⟩, h1, rfl⟩ := h
    exact .sl es b o n b' o' h1
  | .fn f cs, v', h => by
    simp only [renV, Option.map_eq_some_iff] at h
    obtain ⟨cs', h1, rfl⟩ := h
    exact .fn f cs cs' (VEL.ren h1)
  | .yld b, v', h => by
    simp only [renV, Option.bind_eq_some_iff] at h
    obtain ⟨⟨b', o'⟩, h1, h⟩ := h
    simp only at h
    split at h
    · rename_i ho
      cases h
      subst ho
      exact .yld b b' h1
    · cases h
  | .agg cs, v', h => by
    simp only [renV, Option.map_eq_some_iff] at h
    obtain ⟨cs', h1, rfl⟩ := h
    exact .agg cs cs' (VEL.ren h1)
  | .tup cs, v', h => by
    simp only [renV, Option.map_eq_some_iff] at h
    obtain ⟨cs', h1, rfl⟩ := h
    exact .tup cs cs' (VEL.ren h1)
  | .int k n, v', h => by simp only [renV, Option.some.injEq] at h; subst h; exact .int k n
  | .bool b, v', h => by simp only [renV, Option.some.injEq] at h; subst h; exact .bool b
  | .str s, v', h => by simp only [renV, Option.some.injEq] at h; subst h; exact .str s
  | .ptr none, v', h => by simp only [renV, Option.some.injEq] at h; subst h; exact .ptrN
  | .sl es none n, v', h => by simp only [renV, Option.some.injEq] at h; subst h; exact .slN es n
  | .nilFn, v', h => by simp only [renV, Option.some.injEq] at h; subst h; exact .nilFn
  | .nilIface, v', h => by simp only [renV, Option.some.injEq] at h; subst h; exact .nilIface
  | .undef, v', h => by simp only [renV, Option.some.injEq] at h; subst h; exact .undef _ (.inr rfl)
theorem VEL.ren {q : Bool} {σ : Sig} : ∀ {vs vs' : List V}, renL σ vs = some vs' → VEL q σ vs vs'
  | [], vs', h => by simp only [renL, Option.some.injEq] at h; subst h; exact .nil
  | v :: vs, vs', h => by
    simp only [renL] at h
    split at h
    · rename_i v1 vs1 h1 h2
      cases h
      exact .cons _ _ _ _ (VE.ren h1) (VEL.ren h2)
    · cases h
end

theorem VEL.get_ro {q : Bool} {σ : Sig} {cs cs' : List V} (h : VEL q σ cs cs') (i : Nat) (v : V) (hi : cs[i]? = some v) : ∃ v', cs'[0 + i]? = some v' ∧ VE q σ v v' := by
  rw [Nat.zero_add]; exact h.get hi

theorem plains_map {α : Type} (f : α → V) (h : ∀ x, (f x).plain = true) : ∀ (l : List α), plains (l.map f) = true
  | [] => rfl
  | x :: l => by simp [plains, h x, plains_map f h l]
theorem plains_append : ∀ {l l' : List V}, plains l = true → plains l' = true → plains (l ++ l') = true
  | [], _, _, h => h
  | v :: l, l', h, h' => by
    simp only [plains, Bool.and_eq_true] at h
    simp [plains, h.1, plains_append h.2 h']

end Go.Vm
