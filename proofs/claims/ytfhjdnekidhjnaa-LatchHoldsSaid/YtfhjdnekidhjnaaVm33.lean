/-
  A small heap within a larger one: what a call comes to on the small heap, it comes to on the larger one, the rest of which stays.
-/
import Derived.Test.YtfhjdnekidhjnaaVm32
set_option linter.unusedVariables false
set_option linter.unusedSimpArgs false
namespace Go.Vm

abbrev Sig := Nat → Option (Nat × Nat)

mutual
inductive VE (q : Bool) (σ : Sig) : V → V → Prop
  | int (k : IntKind) (n : Int) : VE q σ (.int k n) (.int k n)
  | bool (b : Bool) : VE q σ (.bool b) (.bool b)
  | str (s : ByteArray) : VE q σ (.str s) (.str s)
  | ptrN : VE q σ (.ptr none) (.ptr none)
  | ptr (b o b' o' : Nat) (h : σ b = some (b', o')) : VE q σ (.ptr (some (b, o))) (.ptr (some (b', o' + o)))
  | slN (es n : Nat) : VE q σ (.sl es none n) (.sl es none n)
  | slZ (es es' : Nat) : VE q σ (.sl es none 0) (.sl es' none 0)
  | sl (es b o n b' o' : Nat) (h : σ b = some (b', o')) : VE q σ (.sl es (some (b, o)) n) (.sl es (some (b', o' + o)) n)
  | fn (f : FuncId) (cs cs' : List V) (h : VEL q σ cs cs') : VE q σ (.fn f cs) (.fn f cs')
  | yld (b b' : Nat) (h : σ b = some (b', 0)) : VE q σ (.yld b) (.yld b')
  | nilFn : VE q σ .nilFn .nilFn
  | nilIface : VE q σ .nilIface .nilIface
  | agg (cs cs' : List V) (h : VEL q σ cs cs') : VE q σ (.agg cs) (.agg cs')
  | tup (cs cs' : List V) (h : VEL q σ cs cs') : VE q σ (.tup cs) (.tup cs')
  | undef (v : V) (h : q = true ∨ v = .undef) : VE q σ .undef v
  | drop (v : V) (h : q = false) : VE q σ v .undef
inductive VEL (q : Bool) (σ : Sig) : List V → List V → Prop
  | nil : VEL q σ [] []
  | cons (v v' : V) (vs vs' : List V) (h : VE q σ v v') (hs : VEL q σ vs vs') : VEL q σ (v :: vs) (v' :: vs')
end

theorem VEL.length {q : Bool} {σ : Sig} : ∀ {vs vs' : List V}, VEL q σ vs vs' → vs'.length = vs.length
  | _, _, .nil => rfl
  | _, _, .cons _ _ _ _ _ hs => by simp [hs.length]
theorem VEL.get {q : Bool} {σ : Sig} : ∀ {vs vs' : List V}, VEL q σ vs vs' → ∀ {i : Nat} {v : V}, vs[i]? = some v → ∃ v', vs'[i]? = some v' ∧ VE q σ v v'
  | _, _, .nil, _, _, h => by simp at h
  | _, _, .cons v v' vs vs' h hs, i, w, hi => by
    cases i with
    | zero => simp at hi; subst hi; exact ⟨v', by simp, h⟩
    | succ i => simpa using hs.get (i := i) (by simpa using hi)
theorem VEL.get' {q : Bool} {σ : Sig} : ∀ {vs vs' : List V}, VEL q σ vs vs' → ∀ {i : Nat} {v' : V}, vs'[i]? = some v' → ∃ v, vs[i]? = some v ∧ VE q σ v v'
  | _, _, .nil, _, _, h => by simp at h
  | _, _, .cons v v' vs vs' h hs, i, w, hi => by
    cases i with
    | zero => simp at hi; subst hi; exact ⟨v, by simp, h⟩
    | succ i => simpa using hs.get' (i := i) (by simpa using hi)
theorem VEL.append {q : Bool} {σ : Sig} : ∀ {vs vs' us us' : List V}, VEL q σ vs vs' → VEL q σ us us' → VEL q σ (vs ++ us) (vs' ++ us')
  | _, _, _, _, .nil, h => h
  | _, _, _, _, .cons _ _ _ _ h hs, h' => .cons _ _ _ _ h (hs.append h')

theorem VE.plain {q : Bool} {σ : Sig} {v : V} (h : v.plain = true) : VE q σ v v := by
  cases v with
  | int k n => exact .int k n
  | bool b => exact .bool b
  | str s => exact .str s
  | ptr p => cases p with
    | none => exact .ptrN
    | some p => cases h
  | sl es p n => cases p with
    | none => exact .slN es n
    | some p => cases h
  | nilFn => exact .nilFn
  | nilIface => exact .nilIface
  | _ => cases h
theorem VEL.plain {q : Bool} {σ : Sig} : ∀ {vs : List V}, plains vs = true → VEL q σ vs vs
  | [], _ => .nil
  | v :: vs, h => by
    simp only [plains, Bool.and_eq_true] at h
    exact .cons _ _ _ _ (VE.plain h.1) (VEL.plain h.2)
theorem VEL.undefs {σ : Sig} : ∀ {vs : List V}, VEL true σ (List.replicate vs.length .undef) vs
  | [] => .nil
  | v :: vs => .cons _ _ _ _ (.undef v (.inl rfl)) VEL.undefs

def roAt (H : Heap) (b : Nat) : Bool :=
  match H[b]? with
  | some (.cells false _) => true
  | _ => false

/-- The small heap's names, in the model. -/
def comp (ρ : Map) (σ : Sig) (H : Heap) : Map := fun b => (σ b).bind fun p => (ρ p.1).bind fun L => some ⟨L.blk, L.base + p.2, L.size, if roAt H b = true ∧ L.kind = .rw then .ro else L.kind⟩

theorem comp_some {ρ : Map} {σ : Sig} {H : Heap} {b b' o' : Nat} {L : Loc} (h : σ b = some (b', o')) (hL : ρ b' = some L) : comp ρ σ H b = some ⟨L.blk, L.base + o', L.size, if roAt H b = true ∧ L.kind = .rw then .ro else L.kind⟩ := by
  unfold comp
  rw [h]
  simp [hL]
theorem comp_inv {ρ : Map} {σ : Sig} {H : Heap} {b : Nat} {M : Loc} (h : comp ρ σ H b = some M) : ∃ b' o' L, σ b = some (b', o') ∧ ρ b' = some L ∧ M = ⟨L.blk, L.base + o', L.size, if roAt H b = true ∧ L.kind = .rw then .ro else L.kind⟩ := by
  unfold comp at h
  obtain ⟨⟨b', o'⟩, h1, h⟩ := Option.bind_eq_some_iff.1 h
  obtain ⟨L, h2, h⟩ := Option.bind_eq_some_iff.1 h
  simp only at h2 h
  cases h
  exact ⟨b', o', L, h1, h2, rfl⟩

theorem VR.inv_yld' {ρ : Map} {l : Nat} {u : Value} (h : VR ρ (.yld l) u) : ∃ L, ρ l = some L ∧ L.kind = .loop ∧ u = .func (.yield L.blk) #[] #[] := h.inv_yld

mutual
theorem VR.pre {ρ : Map} {σ : Sig} {H : Heap} : ∀ {v v' : V} {u : Value}, VE true σ v v' → VR ρ v' u → VR (comp ρ σ H) v u
  | _, _, _, .int _ _, h => by rw [h.inv_int]; exact .int _ _
  | _, _, _, .bool _, h => by rw [h.inv_bool]; exact .bool _
  | _, _, _, .str _, h => by rw [h.inv_str]; exact .str _
  | _, _, _, .ptrN, h => by rw [h.inv_ptrN]; exact .ptrN
  | _, _, _, .ptr b o b' o' hσ, h => by
    obtain ⟨L, hL, hk, rfl⟩ := h.inv_ptr
    have := VR.ptr b o _ (comp_some (H := H) hσ hL) (by simp only; split <;> simp_all)
    simpa [Nat.add_assoc] using this
  | _, _, _, .slN es n, h => by
    obtain ⟨rfl, rfl⟩ := h.inv_slN
    exact .slN es
  | _, _, _, .slZ es es', h => by
    obtain ⟨_, rfl⟩ := h.inv_slN
    exact .slN es
  | _, _, _, .sl es b o n b' o' hσ, h => by
    obtain ⟨L, a, cap, hL, hn, ha, hrw, hv, hl, hkc, rfl⟩ := h.inv_slc
    refine .sl es b o n cap a _ (comp_some (H := H) hσ hL) hn ?_ ?_ ?_ ?_ ?_
    · simpa [Nat.add_assoc] using ha
    · simp only
      intro hk hbg
      split at hk
      · cases hk
      · have := hrw hk hbg; omega
    · simp only
      intro hk
      split at hk
      · cases hk
      · exact hv hk
    · simp only
      split
      · simp
      · exact hl
    · intro hb
      refine ⟨(hkc hb).1, fun hk => ?_⟩
      simp only at hk ⊢
      split at hk
      · cases hk
      · have := (hkc hb).2 hk; omega
  | _, _, _, .fn f cs cs' hc, h => by
    obtain ⟨us, hus, rfl⟩ := h.inv_fn
    exact .fn f cs us (VRL.pre hc hus)
  | _, _, _, .yld b b' hσ, h => by
    obtain ⟨L, hL, hk, rfl⟩ := h.inv_yld
    have := VR.yld b _ (comp_some (H := H) hσ hL) (by simp [hk])
    exact this
  | _, _, _, .nilFn, h => by rw [h.inv_nilFn]; exact .nilFn
  | _, _, _, .nilIface, h => by cases h; exact .nilIface
  | _, _, _, .agg cs cs' hc, h => by
    obtain ⟨us, hus, rfl⟩ := h.inv_agg
    exact .agg cs us (VRL.pre hc hus)
  | _, _, _, .tup cs cs' hc, h => by
    obtain ⟨us, hus, rfl⟩ := h.inv_tup
    exact .tup cs us (VRL.pre hc hus)
  | _, _, _, .undef _ _, _ => .undef _
  | _, _, _, .drop _ h, _ => by cases h
theorem VRL.pre {ρ : Map} {σ : Sig} {H : Heap} : ∀ {vs vs' : List V} {us : List Value}, VEL true σ vs vs' → VRL ρ vs' us → VRL (comp ρ σ H) vs us
  | _, _, _, .nil, h => by cases h; exact .nil
  | _, _, _, .cons _ _ _ _ h1 hs1, h => by
    cases h with
    | cons _ _ _ _ h hs => exact .cons _ _ _ _ (VR.pre h1 h) (VRL.pre hs1 hs)
end

def EB (σ : Sig) (G : Heap) (b : Nat) : Blk → Prop
  | .dead => True
  | .void => ∃ b', σ b = some (b', 0) ∧ G[b']? = some .void
  | .cells true cs => ∃ b' cs', σ b = some (b', 0) ∧ G[b']? = some (.cells true cs') ∧ VEL true σ cs cs'
  | .cells false cs => ∃ b' o' rw cs', σ b = some (b', o') ∧ G[b']? = some (.cells rw cs') ∧ ∀ i v, cs[i]? = some v → ∃ v', cs'[o' + i]? = some v' ∧ VE true σ v v'
  | .loop r => ∃ b' st', σ b = some (b', 0) ∧ (∃ r', G[b']? = some (.loop r') ∧ r'.state = r.state ∧ r'.pending = r.pending ∧ r'.params = r.params ∧ r'.assign = r.assign ∧ r'.body = r.body ∧ r'.st = st') ∧ VEL true σ r.st st'

structure Emb (σ : Sig) (H G : Heap) : Prop where
  dom : ∀ b p, σ b = some p → b < H.length
  blk : ∀ b k, H[b]? = some k → EB σ G b k
  inj : ∀ b b' p p', Owned H b → Live H b' → b ≠ b' → σ b = some p → σ b' = some p' → p.1 ≠ p'.1

theorem Emb.owned {σ : Sig} {H G : Heap} (h : Emb σ H G) {b : Nat} (ho : Owned H b) : ∃ b', σ b = some (b', 0) ∧ Owned G b' := by
  rcases ho with ⟨cs, hb⟩ | ⟨r, hb⟩
  · obtain ⟨b', cs', h1, h2, _⟩ := h.blk _ _ hb
    exact ⟨b', h1, .inl ⟨_, h2⟩⟩
  · obtain ⟨b', st', h1, ⟨r', h2, _⟩, _⟩ := h.blk _ _ hb
    exact ⟨b', h1, .inr ⟨_, h2⟩⟩
theorem Emb.live {σ : Sig} {H G : Heap} (h : Emb σ H G) {b : Nat} (ho : Live H b) : ∃ b' o', σ b = some (b', o') ∧ Live G b' := by
  rcases ho with ⟨rw, cs, hb⟩ | ⟨r, hb⟩
  · cases rw with
    | true => obtain ⟨b', cs', h1, h2, _⟩ := h.blk _ _ hb; exact ⟨b', 0, h1, .inl ⟨_, _, h2⟩⟩
    | false => obtain ⟨b', o', rw', cs', h1, h2, _⟩ := h.blk _ _ hb; exact ⟨b', o', h1, .inl ⟨_, _, h2⟩⟩
  · obtain ⟨b', st', h1, ⟨r', h2, _⟩, _⟩ := h.blk _ _ hb
    exact ⟨b', 0, h1, .inr ⟨_, h2⟩⟩

/-- The larger heap's world is the small one's. -/
theorem Rel.pre {ρ : Map} {σ : Sig} {H G : Heap} {w : World} (hr : Rel ρ G w) (he : Emb σ H G) : Rel (comp ρ σ H) H w where
  dom b M hb := by
    obtain ⟨b', o', L, h1, _, _⟩ := comp_inv hb
    exact he.dom b _ h1
  blk b k hb := by
    have hE := he.blk b k hb
    cases k with
    | dead => exact trivial
    | void =>
      obtain ⟨b', h1, h2⟩ := hE
      obtain ⟨L, hL, hk⟩ := hr.blk _ _ h2
      exact ⟨_, comp_some h1 hL, by simp [hk]⟩
    | cells rw cs =>
      cases rw with
      | true =>
        obtain ⟨b', cs', h1, h2, h3⟩ := hE
        obtain ⟨L, C, ty, fz, j1, j2, j3, j4, j5⟩ := hr.blk _ _ h2
        have hro : roAt H b = false := by unfold roAt; rw [hb]
        refine ⟨_, C, ty, fz, comp_some h1 j1, by simpa [hro] using j2, j3, fun i v hi => ?_, fun _ => ?_⟩
        · obtain ⟨v', hv', hve⟩ := h3.get hi
          obtain ⟨u, hu, huv⟩ := j4 i v' hv'
          exact ⟨u, by simpa using hu, VR.pre hve huv⟩
        · obtain ⟨k1, k2, k3⟩ := j5 rfl
          refine ⟨k1, ?_, k3⟩
          have := h3.length
          simp only
          omega
      | false =>
        obtain ⟨b', o', rw', cs', h1, h2, h3⟩ := hE
        obtain ⟨L, C, ty, fz, j1, j2, j3, j4, j5⟩ := hr.blk _ _ h2
        have hro : roAt H b = true := by unfold roAt; rw [hb]
        refine ⟨_, C, ty, fz, comp_some h1 j1, ?_, j3, fun i v hi => ?_, fun h => by cases h⟩
        · simp only [hro, true_and]
          cases rw' <;> simp [j2]
        · obtain ⟨v', hv', hve⟩ := h3 i v hi
          obtain ⟨u, hu, huv⟩ := j4 _ v' hv'
          exact ⟨u, by simpa [Nat.add_assoc] using hu, VR.pre hve huv⟩
    | loop r =>
      obtain ⟨b', st', h1, ⟨r', h2, e1, e2, e3, e4, e5, e6⟩, h3⟩ := hE
      obtain ⟨L, fn, tm, d, j1, j2, j3, j4⟩ := hr.blk _ _ h2
      refine ⟨_, fn, tm, d, comp_some h1 j1, by simp [j2], ?_, ?_⟩
      · simpa [e1, e2, e3, e4, e5] using j3
      · rw [e6] at j4
        exact VRL.pre h3 j4
  inj b b' M M' ho hl hne h1 h2 := by
    obtain ⟨c, o, L, k1, k2, rfl⟩ := comp_inv h1
    obtain ⟨c', o', L', k3, k4, rfl⟩ := comp_inv h2
    obtain ⟨d, d1, d2⟩ := he.owned ho
    rw [k1] at d1; cases d1
    obtain ⟨d', p', d3, d4⟩ := he.live hl
    rw [k3] at d3; cases d3
    exact hr.inj c c' L L' d2 d4 (he.inj b b' _ _ ho hl hne k1 k3) k2 k4

theorem ownR_pre {ρ : Map} {σ : Sig} {H G : Heap} (he : Emb σ H G) {i : Nat} (h : OwnR (comp ρ σ H) H i) : OwnR ρ G i := by
  obtain ⟨b, M, ho, hb, e⟩ := h
  obtain ⟨c, o, L, k1, k2, rfl⟩ := comp_inv hb
  obtain ⟨d, d1, d2⟩ := he.owned ho
  rw [k1] at d1; cases d1
  exact ⟨c, L, d2, k2, e⟩
theorem livR_pre {ρ : Map} {σ : Sig} {H G : Heap} (he : Emb σ H G) {i : Nat} (h : LivR (comp ρ σ H) H i) : LivR ρ G i := by
  obtain ⟨b, M, ho, hb, e⟩ := h
  obtain ⟨c, o, L, k1, k2, rfl⟩ := comp_inv hb
  obtain ⟨d, p, d1, d2⟩ := he.live ho
  rw [k1] at d1; cases d1
  exact ⟨c, L, d2, k2, e⟩

/-- What a block of the small heap is in the larger one. -/
def IB (σ' : Sig) : Blk → Blk → Prop
  | .void, .void => True
  | .cells true cs, .cells true cs' => VEL false σ' cs cs'
  | .loop r, .loop r' => r'.state = r.state ∧ r'.pending = r.pending ∧ r'.params = r.params ∧ r'.assign = r.assign ∧ r'.body = r.body ∧ VEL false σ' r.st r'.st
  | _, _ => False

/-- The larger heap behind it: of its old blocks, those that are no block of the small heap stay. -/
structure Post (σ σ' : Sig) (ν : Nat → Option Nat) (H G H' G' : Heap) : Prop where
  len : G.length ≤ G'.length
  old : ∀ b p, σ' b = some p → p.1 < G.length → σ b = some p ∧ (roAt H b = true → roAt G p.1 = true)
  new : ∀ b p, σ' b = some p → G.length ≤ p.1 → p.2 = 0 ∧ ν p.1 = some b
  nu : ∀ b1 b, ν b1 = some b → b1 < G'.length
  blk : ∀ b1 k, G'[b1]? = some k → k = .dead ∨ (b1 < G.length ∧ G[b1]? = some k ∧ ∀ b, Owned H b → σ b ≠ some (b1, 0)) ∨ ∃ b k0, σ' b = some (b1, 0) ∧ H'[b]? = some k0 ∧ IB σ' k0 k

def post (ρ : Map) (ν : Nat → Option Nat) (n : Nat) (ρ' : Map) : Map := fun b1 => if b1 < n then ρ b1 else (ν b1).bind ρ'

/-- The name of a block of the small heap, in the larger one. -/
theorem post_at {ρ ρ' : Map} {σ σ' : Sig} {ν : Nat → Option Nat} {H G H' G' : Heap} {w : World} (hr : Rel ρ G w) (hp : Post σ σ' ν H G H' G') (hle : Map.le (comp ρ σ H) ρ') {b b1 o1 : Nat} (hσ : σ' b = some (b1, o1)) {M : Loc} (hM : ρ' b = some M)
    (hdef : ∀ b p, σ b = some p → ∃ L, ρ p.1 = some L) :
    ∃ L, post ρ ν G.length ρ' b1 = some L ∧ L.blk = M.blk ∧ L.base + o1 = M.base ∧ L.size = M.size ∧ L.kind = M.kind := by
  unfold post
  by_cases hb : b1 < G.length
  · rw [if_pos hb]
    obtain ⟨k1, k2⟩ := hp.old b _ hσ hb
    obtain ⟨L, hL⟩ := hdef b _ k1
    have := hle b _ (comp_some (H := H) k1 hL)
    rw [hM] at this; cases this
    refine ⟨L, hL, rfl, rfl, rfl, ?_⟩
    simp only
    split
    · rename_i hc
      exfalso
      have hro := k2 hc.1
      unfold roAt at hro
      split at hro
      · rename_i cs hcs
        obtain ⟨L', C, ty, fz, j1, j2, _⟩ := hr.blk _ _ hcs
        simp only at j1
        simp only at hL
        rw [hL] at j1; cases j1
        rw [hc.2] at j2
        simp at j2
      · cases hro
    · rfl
  · rw [if_neg hb]
    obtain ⟨k1, k2⟩ := hp.new b _ hσ (by omega)
    simp only at k1 k2
    subst k1
    rw [k2]
    exact ⟨M, hM, rfl, rfl, rfl, rfl⟩

mutual
theorem VR.post_ {ρ' ρ2 : Map} {σ' : Sig} (hat : ∀ b b1 o1 M, σ' b = some (b1, o1) → ρ' b = some M → ∃ L, ρ2 b1 = some L ∧ L.blk = M.blk ∧ L.base + o1 = M.base ∧ L.size = M.size ∧ L.kind = M.kind) :
    ∀ {v v' : V} {u : Value}, VE false σ' v v' → VR ρ' v u → VR ρ2 v' u
  | _, _, _, .int _ _, h => by rw [h.inv_int]; exact .int _ _
  | _, _, _, .bool _, h => by rw [h.inv_bool]; exact .bool _
  | _, _, _, .str _, h => by rw [h.inv_str]; exact .str _
  | _, _, _, .ptrN, h => by rw [h.inv_ptrN]; exact .ptrN
  | _, _, _, .ptr b o b' o' hσ, h => by
    obtain ⟨M, hM, hk, rfl⟩ := h.inv_ptr
    obtain ⟨L, h1, h2, h3, h4, h5⟩ := hat _ _ _ _ hσ hM
    have := VR.ptr b' (o' + o) L h1 (by rw [h5]; exact hk)
    rw [← h2, ← h3]
    simpa [Nat.add_assoc] using this
  | _, _, _, .slN es n, h => by
    obtain ⟨rfl, rfl⟩ := h.inv_slN
    exact .slN es
  | _, _, _, .slZ es es', h => by
    obtain ⟨_, rfl⟩ := h.inv_slN
    exact .slN es'
  | _, _, _, .sl es b o n b' o' hσ, h => by
    obtain ⟨M, a, cap, hM, hn, ha, hrw, hv, hl, hkc, rfl⟩ := h.inv_slc
    obtain ⟨L, h1, h2, h3, h4, h5⟩ := hat _ _ _ _ hσ hM
    refine .sl es b' (o' + o) n cap a L h1 hn ?_ ?_ ?_ ?_ ?_
    · rw [h2, show L.base + (o' + o) = M.base + o by omega]; exact ha
    · intro hk hbg; rw [h5] at hk; have := hrw hk hbg; omega
    · intro hk; rw [h5] at hk; exact hv hk
    · rw [h5]; exact hl
    · intro hb; refine ⟨(hkc hb).1, fun hk => ?_⟩; rw [h5] at hk; have := (hkc hb).2 hk; omega
  | _, _, _, .fn f cs cs' hc, h => by
    obtain ⟨us, hus, rfl⟩ := h.inv_fn
    exact .fn f cs' us (VRL.post_ hat hc hus)
  | _, _, _, .yld b b' hσ, h => by
    obtain ⟨M, hM, hk, rfl⟩ := h.inv_yld
    obtain ⟨L, h1, h2, h3, h4, h5⟩ := hat _ _ _ _ hσ hM
    rw [← h2]
    exact .yld b' L h1 (by rw [h5]; exact hk)
  | _, _, _, .nilFn, h => by rw [h.inv_nilFn]; exact .nilFn
  | _, _, _, .nilIface, h => by cases h; exact .nilIface
  | _, _, _, .agg cs cs' hc, h => by
    obtain ⟨us, hus, rfl⟩ := h.inv_agg
    exact .agg cs' us (VRL.post_ hat hc hus)
  | _, _, _, .tup cs cs' hc, h => by
    obtain ⟨us, hus, rfl⟩ := h.inv_tup
    exact .tup cs' us (VRL.post_ hat hc hus)
  | _, _, _, .undef v hv, h => by
    rcases hv with hv | rfl
    · cases hv
    · exact .undef _
  | _, _, _, .drop v hv, h => .undef _
theorem VRL.post_ {ρ' ρ2 : Map} {σ' : Sig} (hat : ∀ b b1 o1 M, σ' b = some (b1, o1) → ρ' b = some M → ∃ L, ρ2 b1 = some L ∧ L.blk = M.blk ∧ L.base + o1 = M.base ∧ L.size = M.size ∧ L.kind = M.kind) :
    ∀ {vs vs' : List V} {us : List Value}, VEL false σ' vs vs' → VRL ρ' vs us → VRL ρ2 vs' us
  | _, _, _, .nil, h => by cases h; exact .nil
  | _, _, _, .cons v v' _ _ h1 hs1, h => by
    cases h with
    | cons _ _ _ _ h hs =>
      refine .cons _ _ _ _ ?_ (VRL.post_ hat hs1 hs)
      exact VR.post_ hat h1 h
end

end Go.Vm
