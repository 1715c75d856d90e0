/-
  Slices whose capacity is known: what holds for every capacity holds. And: two slices in two blocks do not overlap.
-/
import Derived.Test.YtfhjdnekidhjnaaVm39
import Derived.Lib.Overlaps
set_option linter.unusedVariables false
set_option linter.unusedSimpArgs false
namespace Go.Vm

theorem Step.preH {ρ : Map} {H K : Heap} {w : World} {ρ' : Map} {H' : Heap} {w' : World} (h : Step ρ K w ρ' H' w') (hl : K.length = H.length) (ho : ∀ b, Owned K b ↔ Owned H b) (hv : ∀ b, Live K b ↔ Live H b) : Step ρ H w ρ' H' w' where
  le := h.le
  len := hl ▸ h.len
  os := h.os
  tape := h.tape
  output := h.output
  size := h.size
  keep i hi hn := h.keep i hi fun ⟨b, L, h1, h2, h3⟩ => hn ⟨b, L, (ho b).1 h1, h2, h3⟩
  own i hi := (h.own i hi).imp (fun ⟨b, L, h1, h2, h3⟩ => ⟨b, L, (ho b).1 h1, h2, h3⟩) id
  live i hi := (h.live i hi).imp (fun ⟨b, L, h1, h2, h3⟩ => ⟨b, L, (hv b).1 h1, h2, h3⟩) id
  fresh b L hb := (h.fresh b L hb).imp id fun x => hl ▸ x

theorem Step.postH {ρ : Map} {H : Heap} {w : World} {ρ' : Map} {H' K' : Heap} {w' : World} (h : Step ρ H w ρ' H' w') (hl : K'.length = H'.length) (ho : ∀ b, Owned K' b → Owned H' b) (hv : ∀ b, Live K' b → Live H' b) : Step ρ H w ρ' K' w' where
  le := h.le
  len := by rw [hl]; exact h.len
  os := h.os
  tape := h.tape
  output := h.output
  size := h.size
  keep := h.keep
  own i hi := h.own i (let ⟨b, L, h1, h2, h3⟩ := hi; ⟨b, L, ho b h1, h2, h3⟩)
  live i hi := h.live i (let ⟨b, L, h1, h2, h3⟩ := hi; ⟨b, L, hv b h1, h2, h3⟩)
  fresh := h.fresh

theorem owned_set {H : Heap} {b : Nat} {x y : List V} (hb : H[b]? = some (.cells true x)) (b' : Nat) : Owned (H.set b (.cells true y)) b' ↔ Owned H b' := by
  by_cases e : b' = b
  · subst e
    have hlt := (List.getElem?_eq_some_iff.1 hb).1
    exact ⟨fun _ => .inl ⟨_, hb⟩, fun _ => .inl ⟨y, List.getElem?_set_self hlt⟩⟩
  · unfold Owned
    rw [List.getElem?_set_ne (Ne.symm e)]
theorem live_set {H : Heap} {b : Nat} {x y : List V} (hb : H[b]? = some (.cells true x)) (b' : Nat) : Live (H.set b (.cells true y)) b' ↔ Live H b' := by
  by_cases e : b' = b
  · subst e
    have hlt := (List.getElem?_eq_some_iff.1 hb).1
    exact ⟨fun _ => .inl ⟨_, _, hb⟩, fun _ => .inl ⟨_, y, List.getElem?_set_self hlt⟩⟩
  · unfold Live
    rw [List.getElem?_set_ne (Ne.symm e)]

theorem Rel.setC {ρ : Map} {H : Heap} {w : World} (hr : Rel ρ H w) {b : Nat} {x y : List V} (hb : H[b]? = some (.cells true x)) (hy : BlkR ρ w b (.cells true x) → BlkR ρ w b (.cells true y)) : Rel ρ (H.set b (.cells true y)) w := by
  refine ⟨fun b' L h => by simpa using hr.dom b' L h, ?_, fun b1 b2 L1 L2 h1 h2 => hr.inj b1 b2 L1 L2 ((owned_set hb b1).1 h1) ((live_set hb b2).1 h2)⟩
  intro b' k hk
  by_cases e : b' = b
  · subst e
    rw [List.getElem?_set_self (List.getElem?_eq_some_iff.1 hb).1] at hk
    cases hk
    exact hy (hr.blk _ _ hb)
  · rw [List.getElem?_set_ne (Ne.symm e)] at hk
    exact hr.blk _ _ hk

/-- A call with a slice that fills its block so far as it is known: what holds for every capacity holds. -/
theorem OK.cap {c : Cfg} {fv : V} {e b o n : Nat} {cs : List V} {rest : List V} {H : Heap} {v : V} {H' : Heap} (hb : H[b]? = some (.cells true cs)) (hl : o + n * e = cs.length) (hp : 0 < e) (hs : e < 4294967296)
    (h : ∀ k : Nat, OK c fv (.sl (e + 8589934592 * (n + k + 1)) (some (b, o)) n :: rest) (H.set b (.cells true (cs ++ List.replicate (k * e) .undef))) v H') : OK c fv (.sl e (some (b, o)) n :: rest) H v H' := by
  intro n0 ρ w ufv uargs hr hf ha
  cases ha with
  | cons _ u _ us hu hus =>
    obtain ⟨L, ad, cap, hL, hn, had, hrw, hv, hlp, hu'⟩ := hu.inv_sl
    obtain ⟨L', C, ty, fz, h1, h2, h3, h4, h5⟩ := hr.blk _ _ hb
    rw [hL] at h1; cases h1
    obtain ⟨h51, h52, h53⟩ := h5 rfl
    have hz := hrw h2 hs
    obtain ⟨k, hk⟩ : ∃ k, cap = n + k := ⟨cap - n, by omega⟩
    subst hk
    have hz2 : L.base + (cs.length + k * e) = C.size := by
      rw [← h51, ← hz, ← hl, Nat.add_mul]; omega
    have hcap : capOf (e + 8589934592 * (n + k + 1)) = n + k := by unfold capOf; omega
    have hmod : (e + 8589934592 * (n + k + 1)) % 8589934592 = e := by omega
    have hu2 : VR ρ (.sl (e + 8589934592 * (n + k + 1)) (some (b, o)) n) u := hu.know hmod hs hp hL h2 hcap.symm hz
    have hr2 : Rel ρ (H.set b (.cells true (cs ++ List.replicate (k * e) .undef))) w := by
      refine hr.setC hb fun _ => ⟨L, C, ty, fz, hL, h2, h3, fun i x hi => ?_, fun _ => ⟨h51, by simp only [List.length_append, List.length_replicate]; omega, h53⟩⟩
      by_cases hlt : i < cs.length
      · rw [List.getElem?_append_left hlt] at hi; exact h4 i x hi
      · rw [List.getElem?_append_right (by omega)] at hi
        have hi2 := (List.getElem?_eq_some_iff.1 hi)
        obtain ⟨hi3, hi4⟩ := hi2
        simp only [List.length_replicate] at hi3
        simp only [List.getElem_replicate] at hi4
        subst hi4
        have hlt2 : L.base + i < C.size := by omega
        exact ⟨_, Array.getElem?_eq_getElem hlt2, .undef _⟩
    refine callsIn_back_mono (h k n0 ρ w ufv (u :: us) hr2 hf (.cons _ _ _ _ hu2 hus)) ?_
    rintro e' w' ⟨u', ρ', rfl, k1, k2, k3⟩
    exact ⟨u', ρ', rfl, k1, k2, k3.preH (by simp) (owned_set hb) (live_set hb)⟩

/-- A capacity that was known need not be. -/
theorem OK.uncap {c : Cfg} {fv : V} {args : List V} {H : Heap} {e q n : Nat} {p : Option (Nat × Nat)} {H' : Heap} (h : OK c fv args H (.sl (e + 8589934592 * (q + 1)) p n) H') (hs : e < 4294967296) : OK c fv args H (.sl e p n) H' := by
  intro n0 ρ w ufv uargs hr hf ha
  refine callsIn_back_mono (h n0 ρ w ufv uargs hr hf ha) ?_
  rintro e' w' ⟨u', ρ', rfl, k1, k2, k3⟩
  exact ⟨u', ρ', rfl, k1.forget (by omega) (by omega) hs, k2, k3⟩

/-- What lies behind need not be known. -/
theorem OK.trim {c : Cfg} {fv : V} {args : List V} {H : Heap} {v : V} {H' : Heap} (h : OK c fv args H v H') {b : Nat} {xs ys : List V} (hb : H'[b]? = some (.cells true (xs ++ ys))) : OK c fv args H v (H'.set b (.cells true xs)) := by
  intro n0 ρ w ufv uargs hr hf ha
  refine callsIn_back_mono (h n0 ρ w ufv uargs hr hf ha) ?_
  rintro e' w' ⟨u', ρ', rfl, k1, k2, k3⟩
  refine ⟨u', ρ', rfl, k1, k2.setC hb ?_, k3.postH (by simp) (fun b' h => (owned_set hb b').1 h) (fun b' h => (live_set hb b').1 h)⟩
  rintro ⟨L, C, ty, fz, g1, g2, g3, g4, g5⟩
  obtain ⟨g51, g52, g53⟩ := g5 rfl
  refine ⟨L, C, ty, fz, g1, g2, g3, fun i x hi => g4 i x ?_, fun _ => ⟨g51, by simp at g52; omega, g53⟩⟩
  rw [List.getElem?_append_left (List.getElem?_eq_some_iff.1 hi).1]
  exact hi

/-- Two slices in two blocks do not overlap. -/
theorem overlaps_ok {c : Cfg} {f : FuncId} {fn : Func} {t r e : TypeId} (hf : c.P.funcs[f]? = some fn) (hname : (fn.name == "runtime.NumGoroutine") = false) (hb : fn.body.isNone = true) (hn : Extern.findNext fn = none)
    (hx : Extern.find fn = some (Extern.SlicesOverlaps.overlaps #[t, t] #[r])) (ht : c.P.underlying t = some (.slice e)) (hi : 0 < esOf c.P e) {H : Heap} {b1 o1 m b2 o2 n es1 es2 : Nat} {cs1 cs2 : List V}
    (h1 : H[b1]? = some (.cells true cs1)) (h2 : H[b2]? = some (.cells true cs2)) (hne : b1 ≠ b2) (ho1 : o1 ≤ cs1.length) (hcs : 0 < cs2.length) (hm : 0 < m) (hn2 : 0 < n) :
    OK c (.fn f []) [.sl es1 (some (b1, o1)) m, .sl es2 (some (b2, o2)) n] H (.bool false) H := by
  intro n0 ρ w ufv uargs hr hfv ha
  obtain ⟨us, hus, rfl⟩ := hfv.inv_fn
  cases hus
  cases ha with
  | cons _ u1 _ us1 hu1 hus1 =>
    cases hus1 with
    | cons _ u2 _ us2 hu2 hus2 =>
      cases hus2
      obtain ⟨L1, a1, c1, p1, p2, p3, _, _, _, rfl⟩ := hu1.inv_sl
      obtain ⟨L2, a2, c2, q1, q2, q3, _, _, _, rfl⟩ := hu2.inv_sl
      obtain ⟨L1', C1, ty1, fz1, g1, g2, g3, g4, g5⟩ := hr.blk _ _ h1
      obtain ⟨L2', C2, ty2, fz2, k1, k2, k3, k4, k5⟩ := hr.blk _ _ h2
      rw [p1] at g1; cases g1
      rw [q1] at k1; cases k1
      obtain ⟨g51, g52, g53⟩ := g5 rfl
      obtain ⟨k51, k52, k53⟩ := k5 rfl
      have e1 := p3.resolve_left (by omega)
      have e2 := q3.resolve_left (by omega)
      subst e1 e2
      have hbne := hr.inj b1 b2 L1 L2 (.inl ⟨_, h1⟩) (.inl ⟨_, _, h2⟩) hne p1 q1
      refine .inr (.inr ⟨f, #[], fn, .bool false, w, rfl, hf, by simpa using hb, ?_, _, ρ, rfl, .bool _, hr, Step.refl _ _ _⟩)
      rw [run_callFunc_extern hf hname hb hn hx]
      have := Go.Lib.run_overlaps_apart (P := c.P) w t r e ht (esOf c.P e) (run_sizeOf (info_of_es hi)) ⟨L1.blk, L1.base + o1, none⟩ ⟨L2.blk, L2.base + o2, none⟩ m c1 n c2 hbne ty1 ty2 C1.size C2.size
        (by unfold World.shape?; simp only [g3]) (by unfold World.shape?; simp only [k3]) (by omega)
        (by unfold World.frozen?; simp only [g3]; have := g53 (L1.base + o1) (by omega); simpa using this)
        (by unfold World.frozen?; simp only [g3]; have := g53 C1.size (Nat.le_refl _); simpa using this)
      simp [this, Result.andThen]

/-- The size of elements with a capacity that is known. -/
def KES (e q : Nat) : Nat := e + 8589934592 * (q + 1)
theorem KES_ge (e q : Nat) : 8589934592 ≤ KES e q := by unfold KES; omega
theorem KES_cap {e q : Nat} (hs : e < 4294967296) : capOf (KES e q) = q := by unfold KES capOf; omega
theorem KES_mod {e q : Nat} (hs : e < 4294967296) : KES e q % 8589934592 = e := by unfold KES; omega
theorem KES_slE {e q : Nat} (hs : e < 4294967296) : slE (KES e q) e = true := by
  unfold slE
  rw [KES_mod hs]
  simp [KES_ge]
theorem KES_sh {e q i : Nat} (hi : i ≤ q) : shE (KES e q) i = KES e (q - i) := by
  unfold shE
  rw [if_pos (KES_ge e q)]
  unfold KES
  omega

theorem k_cap {e q b o : Nat} {H : Heap} (hs : e < 4294967296) : (if 8589934592 ≤ KES e q ∧ (some (b, o)).isSome = true then some (V.int .i64 (capOf (KES e q)), H) else none) = some (V.int .i64 q, H) := by
  rw [if_pos ⟨KES_ge e q, rfl⟩, KES_cap hs]
theorem k_sl {e q n b o : Nat} {i j : Int} {lo : Option Operand} {H : Heap} (hp : 0 < e) (hs : e < 4294967296) (h : 0 ≤ i ∧ i ≤ j ∧ j ≤ q) :
    (if ((slE (KES e q) e || (some (b, o)).isNone) && decide (0 < e) && decide (e < 4294967296)) = true then
      (if 0 ≤ i ∧ i ≤ j ∧ j ≤ lim (some (b, o)) (KES e q) n then some (V.sl (shE (KES e q) i.toNat) (slP lo (some (b, o)) (i.toNat * e)) (j.toNat - i.toNat), H) else none) else none) =
      some (V.sl (KES e (q - i.toNat)) (slP lo (some (b, o)) (i.toNat * e)) (j.toNat - i.toNat), H) := by
  have hl : lim (some (b, o)) (KES e q) n = q := by
    show (if 8589934592 ≤ KES e q then capOf (KES e q) else n) = q
    rw [if_pos (KES_ge e q), KES_cap hs]
  rw [if_pos (by simp [KES_slE hs, hp, hs]), hl, if_pos h, KES_sh (by omega)]
theorem k_sl3 {e q n b o : Nat} {i j m : Int} {H : Heap} (hp : 0 < e) (hs : e < 4294967296) (h : 0 ≤ i ∧ i ≤ j ∧ j ≤ m ∧ m ≤ q) :
    (if ((slE (KES e q) e || (some (b, o)).isNone) && decide (0 < e)) = true then
      (if 0 ≤ i ∧ i ≤ j ∧ j ≤ m ∧ m ≤ lim (some (b, o)) (KES e q) n then some (V.undef, H) else none) else none) = some (V.undef, H) := by
  have hl : lim (some (b, o)) (KES e q) n = q := by
    show (if 8589934592 ≤ KES e q then capOf (KES e q) else n) = q
    rw [if_pos (KES_ge e q), KES_cap hs]
  rw [if_pos (by simp [KES_slE hs, hp]), hl, if_pos h]
theorem k_copy {e es es' n m : Nat} {p q : Option (Nat × Nat)} {H H' : Heap} {xs : List V} (hp : 0 < e) (h1 : slE es e = true) (h2 : slE es' e = true) (hg : getS e H q (min m n) = some xs) (hs : putS H p xs = some H') :
    (if ((slE es e || p.isNone) && (slE es' e || q.isNone) && decide (0 < e)) = true then (getS e H q (min m n)).bind fun xs => (putS H p xs).bind fun H' => some (V.int .i64 (min m n : Nat), H') else none) = some (V.int .i64 (min m n : Nat), H') := by
  rw [if_pos (by simp [h1, h2, hp]), hg]
  simp [hs]
theorem k_clear {e es n : Nat} {p : Option (Nat × Nat)} {H H' : Heap} {z : List V} (h1 : slE es e = true) (hs : putS H p (rep n z) = some H') :
    (if (slE es e || p.isNone) = true then (putS H p (rep n z)).bind fun H' => some (V.tup [], H') else none) = some (V.tup [], H') := by
  rw [if_pos (by simp [h1]), hs]
  rfl
theorem k_app {e es' by_ q n m b o : Nat} {p2 : Option (Nat × Nat)} {H H' : Heap} {xs : List V} {z : List V} (hp : 0 < e) (hs : e < 4294967296) (h2 : slE es' e = true) (hr : rwAt H (some (b, o)) = true) (hg : getS e H p2 m = some xs) (ha : appH e by_ (some (b, o)) n m xs H = some (H', some (b, o))) :
    (if ((KES e q == e || (some (b, o)).isNone) && (slE es' e || p2.isNone) && decide (0 < e) && decide (e < 4294967296)) = true ∧ (some z).isSome = true then
        (getS e H p2 m).bind fun xs => (appH e by_ (some (b, o)) n m xs H).bind fun r => some (V.sl e r.2 (n + m), r.1)
      else if (decide (8589934592 ≤ KES e q) && KES e q % 8589934592 == e && (slE es' e || p2.isNone) && decide (0 < e) && decide (e < 4294967296) && rwAt H (some (b, o))) = true ∧ (some z).isSome = true then
        (getS e H p2 m).bind fun xs => (appH e by_ (some (b, o)) n m xs H).bind fun r => if eqPO r.2 (some (b, o)) = true then some (V.sl (KES e q) r.2 (n + m), r.1) else none
      else none) = some (V.sl (KES e q) (some (b, o)) (n + m), H') := by
  have hne : (KES e q == e) = false := by have := KES_ge e q; simp; omega
  rw [if_neg (by simp [hne]), if_pos (by simp [KES_ge, KES_mod hs, h2, hp, hs, hr]), hg]
  simp [ha, eqPO]

theorem OK.room {c : Cfg} {fv : V} {e b o n : Nat} {cs : List V} {rest : List V} {H : Heap} {v : V} {H' : Heap} (hb : H[b]? = some (.cells true cs)) (hl : o + n * e = cs.length) (hp : 0 < e) (hs : e < 4294967296)
    (hA : OK c fv (.sl (KES e n) (some (b, o)) n :: rest) H v H')
    (hB : ∀ q, n + 1 ≤ q → OK c fv (.sl (KES e q) (some (b, o)) n :: rest) (H.set b (.cells true (cs ++ List.replicate e .undef))) v H') : OK c fv (.sl e (some (b, o)) n :: rest) H v H' := by
  refine OK.cap hb hl hp hs fun k => ?_
  cases k with
  | zero =>
    have e1 : H.set b (.cells true (cs ++ List.replicate (0 * e) .undef)) = H := by
      rw [Nat.zero_mul, List.replicate_zero, List.append_nil]
      apply List.ext_getElem?
      intro i
      by_cases hi : b = i
      · subst hi; rw [List.getElem?_set_self (List.getElem?_eq_some_iff.1 hb).1, hb]
      · rw [List.getElem?_set_ne hi]
    rw [e1]
    exact hA
  | succ k =>
    have h := hB (n + (k + 1)) (by omega)
    intro n0 ρ w ufv uargs hr hf ha
    have hlt := (List.getElem?_eq_some_iff.1 hb).1
    have hb2 : (H.set b (.cells true (cs ++ List.replicate ((k + 1) * e) .undef)))[b]? = some (.cells true (cs ++ List.replicate ((k + 1) * e) .undef)) := List.getElem?_set_self hlt
    have hr2 := hr.setC hb2 (y := cs ++ List.replicate e .undef) (by
      rintro ⟨L, C, ty, fz, g1, g2, g3, g4, g5⟩
      obtain ⟨g51, g52, g53⟩ := g5 rfl
      have he : (cs ++ List.replicate ((k + 1) * e) V.undef) = (cs ++ List.replicate e V.undef) ++ List.replicate (k * e) V.undef := by
        rw [List.append_assoc, List.replicate_append_replicate]; congr 2; rw [Nat.succ_mul]; omega
      refine ⟨L, C, ty, fz, g1, g2, g3, fun i x hi => g4 i x ?_, fun _ => ⟨g51, by rw [he] at g52; simp only [List.length_append] at g52 ⊢; omega, g53⟩⟩
      rw [he, List.getElem?_append_left (List.getElem?_eq_some_iff.1 hi).1]
      exact hi)
    rw [List.set_set] at hr2
    have h3 := h n0 ρ w ufv uargs hr2 hf ha
    refine callsIn_back_mono h3 ?_
    rintro e' w' ⟨u', ρ', rfl, k1, k2, k3⟩
    refine ⟨u', ρ', rfl, k1, k2, k3.preH (by simp) (fun b' => ?_) (fun b' => ?_)⟩
    · rw [owned_set hb, owned_set hb]
    · rw [live_set hb, live_set hb]

/-- One thing is put into a slice, wherever its memory is then. -/
theorem OK.ins {c : Cfg} {f : FuncId} {e n : Nat} {i : Int} {S X R : List V} (hl : n * e = S.length) (hp : 0 < e) (hs : e < 4294967296) (h1 : plains S = true) (h2 : plains X = true) (h3 : plains R = true)
    (hA : OK c (.fn f []) [.sl (KES e n) (some (0, 0)) n, .int .i64 i, .sl e (some (1, 0)) 1] [.cells true S, .cells true X] (.sl e (some (2, 0)) (n + 1)) [.cells true S, .cells true X, .cells true R])
    (hB : ∀ q, n + 1 ≤ q → OK c (.fn f []) [.sl (KES e q) (some (0, 0)) n, .int .i64 i, .sl e (some (1, 0)) 1] [.cells true (S ++ List.replicate e .undef), .cells true X] (.sl (KES e q) (some (0, 0)) (n + 1)) [.cells true R, .cells true X, .dead]) :
    OK c (.fn f []) [.sl e (some (0, 0)) n, .int .i64 i, .sl e (some (1, 0)) 1] [.cells true S, .cells true X] (.sl e (some (2, 0)) (n + 1)) [.dead, .cells true X, .cells true R] := by
  refine OK.room (cs := S) rfl (by omega) hp hs ?_ fun q hq => ?_
  · exact OK.at (args1 := [.sl (KES e n) (some (0, 0)) n, .int .i64 i, .sl e (some (1, 0)) 1]) (v1 := .sl e (some (2, 0)) (n + 1)) hA [some (0, 0), some (1, 0)] [some (0, 0), some (1, 0), some (2, 0)] [2] _ _ rfl rfl
      ⟨⟨0, S, rfl, rfl, VEL.plain h1⟩, ⟨1, X, rfl, rfl, VEL.plain h2⟩, trivial⟩
      ⟨.inl rfl, .inr (.inr ⟨1, .cells true X, rfl, rfl, VEL.plain h2⟩), .inr (.inr ⟨2, .cells true R, rfl, rfl, VEL.plain h3⟩), trivial⟩
      (VE.ren rfl) (VEL.ren rfl) (VE.ren rfl)
  · have h := hB q hq
    have h' := (show OK c (.fn f []) _ _ (.sl (e + 8589934592 * (q + 1)) _ _) _ from h).uncap hs
    exact OK.at (args1 := [.sl (KES e q) (some (0, 0)) n, .int .i64 i, .sl e (some (1, 0)) 1]) (v1 := .sl e (some (2, 0)) (n + 1)) h' [some (0, 0), some (1, 0)] [some (2, 0), some (1, 0)] [0] _ _ rfl rfl
      ⟨⟨0, S ++ List.replicate e .undef, rfl, rfl, VEL.append (VEL.plain h1) (by have := @VEL.undefs (sg [some (0, 0), some (1, 0)]) (List.replicate e .undef); rwa [List.length_replicate] at this)⟩, ⟨1, X, rfl, rfl, VEL.plain h2⟩, trivial⟩
      ⟨.inl rfl, .inr (.inr ⟨1, .cells true X, rfl, rfl, VEL.plain h2⟩), .inr (.inr ⟨0, .cells true R, rfl, rfl, VEL.plain h3⟩), trivial⟩
      (VE.ren rfl) (VEL.ren rfl) (VE.ren rfl)

/-- Some things are taken out of a slice. -/
theorem OK.del {c : Cfg} {f : FuncId} {e n m : Nat} {i j : Int} {S R R' : List V} (hl : n * e = S.length) (hp : 0 < e) (hs : e < 4294967296)
    (h : ∀ q, n ≤ q → OK c (.fn f []) [.sl (KES e q) (some (0, 0)) n, .int .i64 i, .int .i64 j] [.cells true S] (.sl (KES e q) (some (0, 0)) m) [.cells true (R ++ R')]) :
    OK c (.fn f []) [.sl e (some (0, 0)) n, .int .i64 i, .int .i64 j] [.cells true S] (.sl e (some (0, 0)) m) [.cells true R] := by
  refine OK.cap (cs := S) rfl (by omega) hp hs fun k => ?_
  have h0 := (show OK c (.fn f []) _ _ (.sl (e + 8589934592 * (n + k + 1)) _ _) _ from h (n + k) (by omega)).uncap hs |>.trim (b := 0) (xs := R) (ys := R') rfl
  intro n0 ρ w ufv uargs hr hf ha
  have hr2 := hr.setC (H := [.cells true (S ++ List.replicate (k * e) .undef)]) (b := 0) rfl (y := S) (by
    rintro ⟨L, C, ty, fz, g1, g2, g3, g4, g5⟩
    obtain ⟨g51, g52, g53⟩ := g5 rfl
    refine ⟨L, C, ty, fz, g1, g2, g3, fun i x hi => g4 i x ?_, fun _ => ⟨g51, by simp only [List.length_append] at g52; omega, g53⟩⟩
    rw [List.getElem?_append_left (List.getElem?_eq_some_iff.1 hi).1]
    exact hi)
  refine callsIn_back_mono (h0 n0 ρ w ufv uargs hr2 hf ha) ?_
  rintro e' w' ⟨u', ρ', rfl, k1, k2, k3⟩
  exact ⟨u', ρ', rfl, k1, k2, k3.preH rfl (fun b' => (owned_set (H := [.cells true S]) (b := 0) (y := S ++ List.replicate (k * e) .undef) rfl b').symm) (fun b' => (live_set (H := [.cells true S]) (b := 0) (y := S ++ List.replicate (k * e) .undef) rfl b').symm)⟩

/-! What is asked, by a name of its own: the machine's run is left to the kernel. -/
theorem ok_fn' {c : Cfg} (hm : c.P.follows .mixedOrders = true) {n : Nat} {f : FuncId} {cs args : List V} {H : Heap} {os : List Ans} {v : V} {H' : Heap} {A : Prop}
    (e : A = fnP c n f cs args H os fun v1 H1 => (v1, H1) = (v, H')) (h : A) : OK c (.fn f cs) args H v H' := ok_fn hm (Eq.mp e h)
theorem cok_of' {c : Cfg} (hm : c.P.follows .mixedOrders = true) {n : Nat} {rd : Option Nat} {code : Code} {st : St} {H : Heap} {os : List Ans} {e : Ex} {st' : St} {H' : Heap} {A : Prop}
    (q : A = codeP c n rd code st H os fun e1 st1 H1 _ => (e1, st1, H1) = (e, st', H')) (h : A) : COK c rd code st H e st' H' := cok_of hm (Eq.mp q h)
theorem ok_yld' {c : Cfg} (hm : c.P.follows .mixedOrders = true) {n : Nat} {l : Nat} {args : List V} {H : Heap} {os : List Ans} {v : V} {H' : Heap} {A : Prop}
    (e : A = yldP c n l args H os fun v1 H1 => (v1, H1) = (v, H')) (h : A) : OK c (.yld l) args H v H' := ok_yld hm (Eq.mp e h)
/-- Cells that are read in the midst of others. -/
theorem ro_win {q : Bool} {σ : Sig} {cs cs' : List V} {o : Nat} (h : (cs'.drop o).take cs.length = cs) (hp : plains cs = true) (i : Nat) (v : V) (hi : cs[i]? = some v) : ∃ v', cs'[o + i]? = some v' ∧ VE q σ v v' := by
  refine ⟨v, ?_, ?_⟩
  · rw [← h, List.getElem?_take] at hi
    split at hi
    · rw [List.getElem?_drop] at hi; exact hi
    · cases hi
  · obtain ⟨v', h1, h2⟩ := (VEL.plain (q := q) (σ := σ) hp).get hi
    rw [hi] at h1
    cases h1
    exact h2

end Go.Vm
