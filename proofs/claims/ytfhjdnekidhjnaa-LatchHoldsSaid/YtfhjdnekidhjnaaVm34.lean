/-
  A small heap within a larger one: behind a run.
-/
import Derived.Test.YtfhjdnekidhjnaaVm33
set_option linter.unusedVariables false
set_option linter.unusedSimpArgs false
namespace Go.Vm

section
variable {ρ ρ' : Map} {σ σ' : Sig} {ν : Nat → Option Nat} {H G H' G' : Heap} {w w' : World}

theorem Emb.dfn (he : Emb σ H G) (hr : Rel ρ G w) (hσ : ∀ b p, σ b = some p → H[b]? ≠ some .dead) : ∀ b p, σ b = some p → ∃ L, ρ p.1 = some L := by
  intro b p hb
  have hlt := he.dom b p hb
  have hg : H[b]? = some H[b] := List.getElem?_eq_getElem hlt
  have hE := he.blk b _ hg
  cases hk : H[b] with
  | dead => rw [hk] at hg; exact absurd hg (hσ b p hb)
  | void =>
    rw [hk] at hE
    obtain ⟨b', h1, h2⟩ := hE
    rw [hb] at h1; cases h1
    obtain ⟨L, hL, _⟩ := hr.blk _ _ h2
    exact ⟨L, hL⟩
  | cells rw cs =>
    rw [hk] at hE
    cases rw with
    | true =>
      obtain ⟨b', cs', h1, h2, _⟩ := hE
      rw [hb] at h1; cases h1
      obtain ⟨L, _, _, _, hL, _⟩ := hr.blk _ _ h2
      exact ⟨L, hL⟩
    | false =>
      obtain ⟨b', o', rw', cs', h1, h2, _⟩ := hE
      rw [hb] at h1; cases h1
      obtain ⟨L, _, _, _, hL, _⟩ := hr.blk _ _ h2
      exact ⟨L, hL⟩
  | loop r =>
    rw [hk] at hE
    obtain ⟨b', st', h1, ⟨r', h2, _⟩, _⟩ := hE
    rw [hb] at h1; cases h1
    obtain ⟨L, _, _, _, hL, _⟩ := hr.blk _ _ h2
    exact ⟨L, hL⟩

def At (ρ' ρ2 : Map) (σ' : Sig) : Prop := ∀ b b1 o1 M, σ' b = some (b1, o1) → ρ' b = some M → ∃ L, ρ2 b1 = some L ∧ L.blk = M.blk ∧ L.base + o1 = M.base ∧ L.size = M.size ∧ L.kind = M.kind

theorem image_owned {k0 k : Blk} (h : IB σ' k0 k) {b b1 : Nat} (h0 : H'[b]? = some k0) (h1 : G'[b1]? = some k) : (Live G' b1 → Owned H' b) := by
  intro hl
  rcases hl with ⟨rw, cs, hl⟩ | ⟨r, hl⟩
  · rw [h1] at hl; cases hl
    cases k0 with
    | cells rw0 cs0 => cases rw0 with
      | true => exact .inl ⟨_, h0⟩
      | false => cases h
    | _ => cases h
  · rw [h1] at hl; cases hl
    cases k0 with
    | loop r0 => exact .inr ⟨_, h0⟩
    | cells rw0 cs0 => cases rw0 <;> cases h
    | _ => cases h

theorem rel_post (hr : Rel ρ G w) (he : Emb σ H G) (hσ : ∀ b p, σ b = some p → H[b]? ≠ some .dead) (hp : Post σ σ' ν H G H' G') (hr' : Rel ρ' H' w') (hs : Step (comp ρ σ H) H w ρ' H' w') :
    Rel (post ρ ν G.length ρ') G' w' ∧ Step ρ G w (post ρ ν G.length ρ') G' w' ∧ At ρ' (post ρ ν G.length ρ') σ' := by
  have hdef := he.dfn hr hσ
  have hat : At ρ' (post ρ ν G.length ρ') σ' := fun b b1 o1 M h1 h2 => post_at hr hp hs.le h1 h2 hdef
  have hle : Map.le ρ (post ρ ν G.length ρ') := by
    intro b L hb
    unfold post
    rw [if_pos (hr.dom b L hb)]
    exact hb
  -- what stays
  have stays : ∀ b1 k, b1 < G.length → G[b1]? = some k → (∀ b, Owned H b → σ b ≠ some (b1, 0)) → Live G b1 → ∀ L, ρ b1 = some L → ¬ OwnR (comp ρ σ H) H L.blk := by
    rintro b1 k hlt hk hno hl L hL ⟨b, M, ho, hb, e⟩
    obtain ⟨c, o, L2, k1, k2, rfl⟩ := comp_inv hb
    obtain ⟨d, d1, d2⟩ := he.owned ho
    rw [k1] at d1; cases d1
    have hne : c ≠ b1 := fun e => hno b ho (by rw [k1, e])
    exact hr.inj c b1 L2 L d2 hl hne k2 hL e
  have hblk : ∀ b1 k, G'[b1]? = some k → BlkR (post ρ ν G.length ρ') w' b1 k := by
    intro b1 k hk
    rcases hp.blk b1 k hk with rfl | ⟨hlt, hG, hno⟩ | ⟨b, k0, h1, h2, h3⟩
    · exact trivial
    · have hB := hr.blk b1 k hG
      cases k with
      | dead => exact trivial
      | void => obtain ⟨L, hL, hk⟩ := hB; exact ⟨L, hle _ _ hL, hk⟩
      | cells rw cs =>
        obtain ⟨L, C, ty, fz, j1, j2, j3, j4, j5⟩ := hB
        have hn := stays b1 _ hlt hG hno (.inl ⟨_, _, hG⟩) L j1
        exact ⟨L, C, ty, fz, hle _ _ j1, j2, (hs.keep _ (Array.getElem?_eq_some_iff.1 j3).1 hn).trans j3, fun i v hi => let ⟨u, hu, hv⟩ := j4 i v hi; ⟨u, hu, hv.mono hle⟩, j5⟩
      | loop r =>
        obtain ⟨L, fn, tm, d, j1, j2, j3, j4⟩ := hB
        have hn := stays b1 _ hlt hG hno (.inr ⟨_, hG⟩) L j1
        exact ⟨L, fn, tm, d, hle _ _ j1, j2, (hs.keep _ (Array.getElem?_eq_some_iff.1 j3).1 hn).trans j3, j4.mono hle⟩
    · have hB := hr'.blk b k0 h2
      cases k0 with
      | dead => cases h3
      | void => cases k with
        | void =>
          obtain ⟨M, hM, hk⟩ := hB
          obtain ⟨L, e1, e2, e3, e4, e5⟩ := hat _ _ _ _ h1 hM
          exact ⟨L, e1, by rw [e5]; exact hk⟩
        | _ => cases h3
      | cells rw cs => cases rw with
        | false => cases h3
        | true => cases k with
          | cells rw1 cs1 => cases rw1 with
            | false => cases h3
            | true =>
              obtain ⟨M, C, ty, fz, j1, j2, j3, j4, j5⟩ := hB
              obtain ⟨L, e1, e2, e3, e4, e5⟩ := hat _ _ _ _ h1 j1
              have hL := VEL.length h3
              refine ⟨L, C, ty, fz, e1, by rw [e5]; exact j2, by rw [e2]; exact j3, fun i v hi => ?_, fun _ => ?_⟩
              · obtain ⟨v0, hv0, hve⟩ := VEL.get' h3 hi
                obtain ⟨u, hu, huv⟩ := j4 i v0 hv0
                refine ⟨u, ?_, VR.post_ hat hve huv⟩
                rw [show L.base + i = M.base + i by omega]
                exact hu
              · obtain ⟨q1, q2, q3⟩ := j5 rfl
                exact ⟨by rw [e4]; exact q1, by omega, q3⟩
          | _ => cases h3
      | loop r => cases k with
        | loop r1 =>
          obtain ⟨a1, a2, a3, a4, a5, a6⟩ := h3
          obtain ⟨M, fn, tm, d, j1, j2, j3, j4⟩ := hB
          obtain ⟨L, e1, e2, e3, e4, e5⟩ := hat _ _ _ _ h1 j1
          refine ⟨L, fn, tm, d, e1, by rw [e5]; exact j2, ?_, VRL.post_ hat a6 j4⟩
          rw [e2, a1, a2, a3, a4, a5]
          exact j3
        | _ => cases h3
  -- of whom a block is
  have own1 : ∀ b1 L, Owned G' b1 → post ρ ν G.length ρ' b1 = some L → (Owned G b1 ∧ ρ b1 = some L ∧ b1 < G.length ∧ ∀ b, Owned H b → σ b ≠ some (b1, 0)) ∨ ∃ b M, Owned H' b ∧ σ' b = some (b1, 0) ∧ ρ' b = some M ∧ M.blk = L.blk := by
    intro b1 L ho hL
    have hlv := ho.live
    have hex : ∃ k, G'[b1]? = some k := by rcases ho with ⟨cs, h⟩ | ⟨r, h⟩ <;> exact ⟨_, h⟩
    obtain ⟨k, hk⟩ := hex
    rcases hp.blk b1 k hk with rfl | ⟨hlt, hG, hno⟩ | ⟨b, k0, h1, h2, h3⟩
    · rcases ho with ⟨cs, h⟩ | ⟨r, h⟩ <;> (rw [hk] at h; cases h)
    · left
      refine ⟨?_, ?_, hlt, hno⟩
      · rcases ho with ⟨cs, h⟩ | ⟨r, h⟩
        · rw [hk] at h; cases h; exact .inl ⟨_, hG⟩
        · rw [hk] at h; cases h; exact .inr ⟨_, hG⟩
      · unfold post at hL; rw [if_pos hlt] at hL; exact hL
    · right
      have hob := image_owned h3 h2 hk hlv
      obtain ⟨M, hM, _⟩ := hr'.lt hob.live
      obtain ⟨L', e1, e2, _⟩ := hat _ _ _ _ h1 hM
      rw [hL] at e1; cases e1
      exact ⟨b, M, hob, h1, hM, e2.symm⟩
  have liv1 : ∀ b1 L, Live G' b1 → post ρ ν G.length ρ' b1 = some L → (Live G b1 ∧ ρ b1 = some L ∧ b1 < G.length ∧ ∀ b, Owned H b → σ b ≠ some (b1, 0)) ∨ ∃ b M, Owned H' b ∧ σ' b = some (b1, 0) ∧ ρ' b = some M ∧ M.blk = L.blk := by
    intro b1 L hlv hL
    have hex : ∃ k, G'[b1]? = some k := by rcases hlv with ⟨rw, cs, h⟩ | ⟨r, h⟩ <;> exact ⟨_, h⟩
    obtain ⟨k, hk⟩ := hex
    rcases hp.blk b1 k hk with rfl | ⟨hlt, hG, hno⟩ | ⟨b, k0, h1, h2, h3⟩
    · rcases hlv with ⟨rw, cs, h⟩ | ⟨r, h⟩ <;> (rw [hk] at h; cases h)
    · left
      refine ⟨?_, ?_, hlt, hno⟩
      · rcases hlv with ⟨rw, cs, h⟩ | ⟨r, h⟩
        · rw [hk] at h; cases h; exact .inl ⟨_, _, hG⟩
        · rw [hk] at h; cases h; exact .inr ⟨_, hG⟩
      · unfold post at hL; rw [if_pos hlt] at hL; exact hL
    · right
      have hob := image_owned h3 h2 hk hlv
      obtain ⟨M, hM, _⟩ := hr'.lt hob.live
      obtain ⟨L', e1, e2, _⟩ := hat _ _ _ _ h1 hM
      rw [hL] at e1; cases e1
      exact ⟨b, M, hob, h1, hM, e2.symm⟩
  -- an image against what stays
  have apart : ∀ b M b2 L2, Owned H' b → ρ' b = some M → Live G b2 → ρ b2 = some L2 → (∀ b, Owned H b → σ b ≠ some (b2, 0)) → M.blk ≠ L2.blk := by
    intro b M b2 L2 hob hM hl2 hL2 hno e
    obtain ⟨L3, g1, g2⟩ := hr.lt hl2
    rw [hL2] at g1; cases g1
    rcases hs.own M.blk ⟨b, M, hob, hM, rfl⟩ with ⟨b3, M3, ho3, hb3, e3⟩ | hge
    · obtain ⟨c, o, L3, k1, k2, rfl⟩ := comp_inv hb3
      obtain ⟨d, d1, d2⟩ := he.owned ho3
      rw [k1] at d1; cases d1
      have hne : c ≠ b2 := fun e => hno b3 ho3 (by rw [k1, e])
      simp only at e3
      exact hr.inj c b2 L3 L2 d2 hl2 hne k2 hL2 (e3.trans e)
    · omega
  refine ⟨⟨?_, hblk, ?_⟩, ⟨hle, hp.len, hs.os, hs.tape, hs.output, hs.size, ?_, ?_, ?_, ?_⟩, hat⟩
  · intro b1 L hL
    unfold post at hL
    split at hL
    · have := hp.len; omega
    · obtain ⟨b, h1, h2⟩ := Option.bind_eq_some_iff.1 hL
      exact hp.nu b1 b h1
  · intro b1 b2 L1 L2 ho hl hne h1 h2
    rcases own1 b1 L1 ho h1 with ⟨o1, o2, o3, o4⟩ | ⟨b, M, o1, o2, o3, o4⟩
    · rcases liv1 b2 L2 hl h2 with ⟨p1, p2, p3, p4⟩ | ⟨b', M', p1, p2, p3, p4⟩
      · exact hr.inj b1 b2 L1 L2 o1 p1 hne o2 p2
      · have := apart b' M' b1 L1 p1 p3 o1.live o2 o4
        rw [p4] at this
        exact fun e => this e.symm
    · rcases liv1 b2 L2 hl h2 with ⟨p1, p2, p3, p4⟩ | ⟨b', M', p1, p2, p3, p4⟩
      · have := apart b M b2 L2 o1 o3 p1 p2 p4
        rw [o4] at this
        exact this
      · have hbb : b ≠ b' := by
          rintro rfl
          rw [o2] at p2; cases p2
          exact hne rfl
        have := hr'.inj b b' M M' o1 p1.live hbb o3 p3
        rw [o4, p4] at this
        exact this
  · exact fun i hi hn => hs.keep i hi fun ho => hn (ownR_pre he ho)
  · rintro i ⟨b1, L, ho, hL, rfl⟩
    rcases own1 b1 L ho hL with ⟨o1, o2, o3, o4⟩ | ⟨b, M, o1, o2, o3, o4⟩
    · exact .inl ⟨b1, L, o1, o2, rfl⟩
    · rcases hs.own M.blk ⟨b, M, o1, o3, rfl⟩ with h | h
      · rw [o4] at h; exact .inl (ownR_pre he h)
      · rw [o4] at h; exact .inr h
  · rintro i ⟨b1, L, ho, hL, rfl⟩
    rcases liv1 b1 L ho hL with ⟨o1, o2, o3, o4⟩ | ⟨b, M, o1, o2, o3, o4⟩
    · exact .inl ⟨b1, L, o1, o2, rfl⟩
    · rcases hs.live M.blk ⟨b, M, o1.live, o3, rfl⟩ with h | h
      · rw [o4] at h; exact .inl (livR_pre he h)
      · rw [o4] at h; exact .inr h
  · intro b1 L hL
    unfold post at hL
    split at hL
    · exact .inl hL
    · rename_i h; exact .inr (by omega)

theorem marks_pre {B : Nat} {ds : List Deferred} (he : Emb σ H G) (h : Marks B ρ G w ds) : Marks B (comp ρ σ H) H w ds :=
  ⟨fun d hd => let ⟨r, e, hr, hn, hB⟩ := h.1 d hd; ⟨r, e, hr, fun ho => hn (ownR_pre he ho), hB⟩, h.2⟩

theorem marks_post {B : Nat} {ds : List Deferred} {ρ2 : Map} (hr2 : Rel ρ2 G' w') (h : Marks B ρ' H' w' ds) : Marks B ρ2 G' w' ds := by
  refine ⟨fun d hd => ?_, h.2⟩
  obtain ⟨r, e, hr, hn, hB⟩ := h.1 d hd
  refine ⟨r, e, hr, ?_, hB⟩
  rintro ⟨b, L, ho, hb, rfl⟩
  rcases ho with ⟨cs, ho⟩ | ⟨q, ho⟩
  · obtain ⟨L', C, ty, fz, j1, j2, j3, _⟩ := hr2.blk _ _ ho
    rw [hb] at j1; cases j1
    rw [hr] at j3; cases j3
  · obtain ⟨L', fn, tm, d, j1, j2, j3, _⟩ := hr2.blk _ _ ho
    rw [hb] at j1; cases j1
    rw [hr] at j3; cases j3

end

theorem callsIn_back_mono {n : Nat} {P : Program} {fv : Value} {us : List Value} {w : World} {Q Q' : Ending → World → Prop} (h : Goes Fence.wide n P fv us w Q) (hq : ∀ e w', Q e w' → Q' e w') : Goes Fence.wide n P fv us w Q' := by
  rcases h with ⟨f, us', fn, h1, h2, h3, h4, h5⟩ | ⟨l, f, tmps, assign, body, h1, h2, h3⟩ | ⟨f, us', fn, v, w', h1, h2, h3, h4, h5⟩
  · exact .inl ⟨f, us', fn, h1, h2, h3, h4, h5.mono fun e w' he => hq e w' he⟩
  · exact .inr (.inl ⟨l, f, tmps, assign, body, h1, h2, h3.mono fun e w' he => hq e w' he⟩)
  · exact .inr (.inr ⟨f, us', fn, v, w', h1, h2, h3, h4, hq _ _ h5⟩)

/-- A call on a small heap within a larger one. -/
theorem OK.emb {c : Cfg} {fv fv1 : V} {args args1 : List V} {H H' G G' : Heap} {v v1 : V} {σ σ' : Sig} {ν : Nat → Option Nat} (h : OK c fv args H v H') (he : Emb σ H G) (hσ : ∀ b p, σ b = some p → H[b]? ≠ some .dead) (hp : Post σ σ' ν H G H' G')
    (hf : VE true σ fv fv1) (ha : VEL true σ args args1) (hv : VE false σ' v v1) : OK c fv1 args1 G v1 G' := by
  intro n ρ w ufv uargs hr h1 h2
  refine callsIn_back_mono (h n (comp ρ σ H) w ufv uargs (hr.pre he) (VR.pre hf h1) (VRL.pre ha h2)) ?_
  rintro e w' ⟨u, ρ', rfl, k1, k2, k3⟩
  obtain ⟨q1, q2, q3⟩ := rel_post hr he hσ hp k2 k3
  exact ⟨u, _, rfl, VR.post_ q3 hv k1, q1, q2⟩

def RdE (σ : Sig) : Option Nat → Option Nat → Prop
  | none, none => True
  | some l, some l' => σ l = some (l', 0)
  | _, _ => False

theorem RdE.ok {F : Fence} {ρ : Map} {σ : Sig} {H : Heap} : ∀ {rd rd1 : Option Nat}, RdE σ rd rd1 → RdOK F ρ rd1 → RdOK F (comp ρ σ H) rd
  | none, none, _, h => h
  | some l, some l', hl, ⟨L, h1, h2⟩ => ⟨_, comp_some hl h1, h2⟩

/-- A piece of code on a small heap within a larger one. -/
theorem COK.emb {c : Cfg} {rd rd1 : Option Nat} {code : Code} {st st1 st' st1' : St} {H H' G G' : Heap} {e : Ex} {σ σ' : Sig} {ν : Nat → Option Nat} (h : COK c rd code st H e st' H') (hrd : RdE σ rd rd1) (he : Emb σ H G) (hσ : ∀ b p, σ b = some p → H[b]? ≠ some .dead)
    (hp : Post σ σ' ν H G H' G') (hs : VEL true σ st st1) (hs' : VEL false σ' st' st1') : COK c rd1 code st1 G e st1' G' := by
  intro F hF B n ρ w a Q hr h1 h2 h3 h4 h5
  refine h F hF B n (comp ρ σ H) w a Q (hr.pre he) (VRL.pre hs h1) (marks_pre he h2) (hrd.ok h3) h4 ?_
  intro ρ' w' a' k1 k2 k3 k4
  obtain ⟨q1, q2, q3⟩ := rel_post hr he hσ hp k1 k4
  exact h5 _ w' a' q1 (VRL.post_ q3 hs' k2) (marks_post q1 k3) q2

theorem LOK.emb {c : Cfg} {rd rd1 : Option Nat} {code : Code} {st st1 st' st1' : St} {H H' G G' : Heap} {e : Ex} {σ σ' : Sig} {ν : Nat → Option Nat} (h : LOK c rd code st H e st' H') (hrd : RdE σ rd rd1) (he : Emb σ H G) (hσ : ∀ b p, σ b = some p → H[b]? ≠ some .dead)
    (hp : Post σ σ' ν H G H' G') (hs : VEL true σ st st1) (hs' : VEL false σ' st' st1') : LOK c rd1 code st1 G e st1' G' := by
  intro F hF B n ρ w a Q hr h1 h2 h3 h4 h5
  refine h F hF B n (comp ρ σ H) w a Q (hr.pre he) (VRL.pre hs h1) (marks_pre he h2) (hrd.ok h3) h4 ?_
  intro ρ' w' a' k1 k2 k3 k4
  obtain ⟨q1, q2, q3⟩ := rel_post hr he hσ hp k1 k4
  exact h5 _ w' a' q1 (VRL.post_ q3 hs' k2) (marks_post q1 k3) q2

end Go.Vm
