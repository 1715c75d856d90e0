/-
  Lists of operations, loops, code.
-/
import Derived.Test.YtfhjdnekidhjnaaVm11
set_option linter.unusedVariables false
set_option linter.unusedSimpArgs false
namespace Go.Vm

section
variable {R : Type} {c : Cfg} {call : CallF} {ops : Array Oper}

theorem SR.at_ {ρ : Map} {st : St} {tmps : Array Value} (h : SR ρ st tmps) {g : Nat} {v : V} (hg : st[g]? = some v) : ∃ u, tmps[g]? = some u ∧ VR ρ v u := by
  obtain ⟨u, hu, hv⟩ := VRL.get h hg
  exact ⟨u, by simpa using hu, hv⟩

theorem yielded_bool {ρ : Map} {st : St} {tmps : Array Value} (h : SR ρ st tmps) {j g : Nat} (hj : (ops[j]?).bind (·.dst) = some g) {b : Bool} (hg : st[g]? = some (.bool b)) : yielded ops tmps j = some b := by
  obtain ⟨u, hu, hv⟩ := h.at_ hg
  have := hv.inv_bool
  subst this
  simp [yielded, hj, hu]

theorem yielded_none {ρ : Map} {st : St} {tmps : Array Value} (h : SR ρ st tmps) {j g : Nat} (hj : (ops[j]?).bind (·.dst) = some g) (hg : st[g]? = some (.tup [])) : yielded ops tmps j = none := by
  obtain ⟨u, hu, hv⟩ := h.at_ hg
  obtain ⟨us, hus, rfl⟩ := hv.inv_tup
  simp [yielded, hj, hu]

theorem SR.set_same {ρ : Map} {st : St} {tmps : Array Value} (h : SR ρ st tmps) {g : Nat} {v w : V} (hg : st[g]? = some v) (e : v = w) : SR ρ (st.set g w) tmps := by
  subst e
  have : st.set g v = st := by
    apply List.ext_getElem?
    intro i
    by_cases hi : g = i
    · subst hi
      rw [List.getElem?_set_self (List.getElem?_eq_some_iff.1 hg).1, hg]
    · rw [List.getElem?_set_ne hi]
  rw [this]
  exact h

theorem ops_sound {F : Fence} {n : Nat} {Q : Exit → Act → World → Prop} (hF : FOK F) (hC : CallOK c call F) : ∀ (is : List Nat) {st : St} {H : Heap} {K : St → Heap → Option R} {r : R} {ρ : Map} {w : World} {a : Act},
    opsX c call ops is st H K = some r → Rel ρ H w → SR ρ st a.tmps →
    (∀ st' H' ρ' w' a', K st' H' = some r → Rel ρ' H' w' → SR ρ' st' a'.tmps → a'.defers = a.defers → Step ρ H w ρ' H' w' → Q .normal a' w') → wpOpsIn F n c.P ops Q is a w
  | [], st, H, K, r, ρ, w, a, h, hr, hs, hQ => hQ st H ρ w a h hr hs rfl (Step.refl _ _ _)
  | i :: is, st, H, K, r, ρ, w, a, h, hr, hs, hQ => by
    unfold opsX at h
    unfold wpOpsIn
    split at h
    · cases h
    · rename_i o ho
      simp only [ho]
      split at h
      · rename_i hg
        have hw : Region.wanted o (yielded ops a.tmps) = true := by simp [Region.wanted, hg]
        rw [if_pos hw]
        refine wp_op hF hC h hr hs fun v u ρ' H' w' hv hr' hst hK => ?_
        exact ops_sound hF hC is hK hr' ((hs.mono hst.le).put _ hv) fun st2 H2 ρ2 w2 a2 k1 k2 k3 k4 k5 => hQ st2 H2 ρ2 w2 a2 k1 k2 k3 (k4.trans (put_defers _ _ _)) (hst.trans k5)
      · rename_i j want hg
        split at h
        · cases h
        · rename_i g hj
          split at h
          · rename_i b hb
            have hy := yielded_bool hs hj hb
            by_cases hbw : b = want
            · rw [if_pos hbw] at h
              have hw : Region.wanted o (yielded ops a.tmps) = true := by simp [Region.wanted, hg, hy, hbw]
              rw [if_pos hw]
              refine wp_op hF hC h hr (hs.set_same hb (by rw [hbw])) fun v u ρ' H' w' hv hr' hst hK => ?_
              exact ops_sound hF hC is hK hr' (((hs.set_same hb (by rw [hbw])).mono hst.le).put _ hv) fun st2 H2 ρ2 w2 a2 k1 k2 k3 k4 k5 => hQ st2 H2 ρ2 w2 a2 k1 k2 k3 (k4.trans (put_defers _ _ _)) (hst.trans k5)
            · rw [if_neg hbw] at h
              have hw : ¬ Region.wanted o (yielded ops a.tmps) = true := by simp [Region.wanted, hg, hy, hbw]
              rw [if_neg hw]
              refine ⟨fun f _ => hF.fn f, ?_⟩
              have hb' : b = !want := by cases b <;> cases want <;> simp_all
              exact ops_sound hF hC is h hr ((hs.set_same hb (by rw [hb'])).put _ (.tup [] [] .nil)) fun st2 H2 ρ2 w2 a2 k1 k2 k3 k4 k5 => hQ st2 H2 ρ2 w2 a2 k1 k2 k3 (k4.trans (put_defers _ _ _)) k5
          · rename_i hb
            have hy := yielded_none hs hj hb
            have hw : ¬ Region.wanted o (yielded ops a.tmps) = true := by simp [Region.wanted, hg, hy]
            rw [if_neg hw]
            refine ⟨fun f _ => hF.fn f, ?_⟩
            exact ops_sound hF hC is h hr (hs.put _ (.tup [] [] .nil)) fun st2 H2 ρ2 w2 a2 k1 k2 k3 k4 k5 => hQ st2 H2 ρ2 w2 a2 k1 k2 k3 (k4.trans (put_defers _ _ _)) k5
          · cases h

/-! ### Code -/

/-- What is asked of the way out, for each way in which the small machine's code may end. -/
def exit? : Ex → Exit
  | .normal => .normal
  | .exit id => .exit id
  | .ret => .ret

/-- The marks among the deferred calls: each names a block of deferred calls that is empty, and lies beyond B. -/
def Marks (B : Nat) (ρ : Map) (H : Heap) (w : World) (ds : List Deferred) : Prop :=
  (∀ d ∈ ds, ∃ r, d = { target := .collected r, args := #[] } ∧ w.heap[r]? = some (.deferred (some [])) ∧ ¬ OwnR ρ H r ∧ B ≤ r) ∧ ds.Nodup

theorem Marks.nil (B : Nat) (ρ : Map) (H : Heap) (w : World) : Marks B ρ H w [] := ⟨fun d hd => (by simp at hd), List.nodup_nil⟩

theorem Marks.step {B : Nat} {ρ ρ' : Map} {H H' : Heap} {w w' : World} {ds : List Deferred} (h : Marks B ρ H w ds) (hs : Step ρ H w ρ' H' w') : Marks B ρ' H' w' ds := by
  refine ⟨fun d hd => ?_, h.2⟩
  obtain ⟨r, e, hr, hn, hB⟩ := h.1 d hd
  have hlt : r < w.heap.size := (Array.getElem?_eq_some_iff.1 hr).1
  refine ⟨r, e, (hs.keep r hlt hn).trans hr, fun ho => ?_, hB⟩
  rcases hs.own r ho with ho | ho
  · exact hn ho
  · omega

end

theorem goes_round {n : Nat} {P : Program} {fv : Value} {args : List Value} {w : World} {Q : Ending → World → Prop} (l : Nat) (h : Goes Fence.wide n P fv args w Q) : Goes (Fence.wide.inRound l) n P fv args w Q := by
  rcases h with ⟨f, us, fn, h1, h2, h3, h4, h5⟩ | ⟨l', f, tmps, assign, body, h1, h2, h3⟩ | h
  · exact .inl ⟨f, us, fn, h1, h2, h3, h4, h5⟩
  · exact .inr (.inl ⟨l', f, tmps, assign, body, h1, h2, h3⟩)
  · exact .inr (.inr h)

theorem callOK_round {c : Cfg} {call : CallF} (l : Nat) (h : CallOK c call Fence.wide) : CallOK c call (Fence.wide.inRound l) :=
  fun n fv args H v H' hc ρ w ufv uargs hr h1 h2 => goes_round l (h n fv args H v H' hc ρ w ufv uargs hr h1 h2)

def RdOK (F : Fence) (ρ : Map) : Option Nat → Prop
  | none => F.round = none
  | some l => ∃ L, ρ l = some L ∧ F.round = some L.blk

theorem RdOK.mono {F : Fence} {ρ ρ' : Map} (hle : Map.le ρ ρ') : ∀ {rd : Option Nat}, RdOK F ρ rd → RdOK F ρ' rd
  | none, h => h
  | some _, ⟨L, h1, h2⟩ => ⟨L, hle _ _ h1, h2⟩

/-- What a piece of code owes: each way out that the small machine may take is one that the model's Q takes. -/
def Owes {R : Type} (B : Nat) (ρ : Map) (H : Heap) (w : World) (K : Ex → St → Heap → Option R) (r : R) (Q : Exit → Act → World → Prop) : Prop :=
  ∀ e st' H' ρ' w' a', K e st' H' = some r → Rel ρ' H' w' → SR ρ' st' a'.tmps → Marks B ρ' H' w' a'.defers → Step ρ H w ρ' H' w' → Q (exit? e) a' w'

theorem least (p : Nat → Prop) (h : ∃ m, p m) : ∃ m, p m ∧ ∀ k, p k → m ≤ k := by
  obtain ⟨m, hm⟩ := h
  induction m using Nat.strongRecOn with
  | _ m ih =>
    by_cases hx : ∃ k, k < m ∧ p k
    · obtain ⟨k, hk, hp⟩ := hx
      exact ih k hk hp
    · exact ⟨m, hm, fun k hk => Nat.le_of_not_lt fun hlt => hx ⟨k, hlt, hk⟩⟩

open Classical in
noncomputable def leastOf (p : Nat → Prop) : Nat := if h : ∃ m, p m then Classical.choose (least p h) else 0
theorem leastOf_spec {p : Nat → Prop} (h : ∃ m, p m) : p (leastOf p) := by
  unfold leastOf
  rw [dif_pos h]
  exact (Classical.choose_spec (least p h)).1
theorem leastOf_le {p : Nat → Prop} {k : Nat} (h : p k) : leastOf p ≤ k := by
  unfold leastOf
  rw [dif_pos ⟨k, h⟩]
  exact (Classical.choose_spec (least p ⟨k, h⟩)).2 k h

section
variable {R : Type} {c : Cfg} {call : CallF} {F : Fence} {r : R} {B : Nat} {f : FuncId} {k : Nat} {rd : Option Nat}

theorem loop_sound {a0 : Code} {n : Nat} (body : ∀ {st : St} {H : Heap} {K : Ex → St → Heap → Option R} {ρ : Map} {w : World} {a : Act} {Q : Exit → Act → World → Prop},
      codeX c call f k rd a0 st H K = some r → Rel ρ H w → SR ρ st a.tmps → Marks B ρ H w a.defers → RdOK F ρ rd → B ≤ w.heap.size → Owes B ρ H w K r Q → a0.wpIn F n c.P Q a w)
    {m : Nat} {st : St} {H : Heap} {K : Ex → St → Heap → Option R} {ρ : Map} {w : World} {a : Act} {Q : Exit → Act → World → Prop}
    (h : iterX (codeX c call f k rd a0) m st H K = some r) (hr : Rel ρ H w) (hs : SR ρ st a.tmps) (hm : Marks B ρ H w a.defers) (hrd : RdOK F ρ rd) (hB : B ≤ w.heap.size) (hQ : Owes B ρ H w K r Q) :
    (Code.loop a0).wpIn F n c.P Q a w := by
  let Cond : Nat → Act → World → Prop := fun m a' w' => ∃ st' H' ρ', iterX (codeX c call f k rd a0) m st' H' K = some r ∧ Rel ρ' H' w' ∧ SR ρ' st' a'.tmps ∧ Marks B ρ' H' w' a'.defers ∧ Step ρ H w ρ' H' w'
  refine wpIn_loop (fun a' w' => ∃ m, Cond m a' w') (fun a' w' => leastOf fun m => Cond m a' w') ⟨m, st, H, ρ, h, hr, hs, hm, Step.refl _ _ _⟩ ?_
  intro a1 w1 hI
  have hspec := leastOf_spec hI
  generalize (leastOf fun m => Cond m a1 w1) = m0 at hspec
  obtain ⟨st1, H1, ρ1, k1, k2, k3, k4, k5⟩ := hspec
  cases m0 with
  | zero => simp [iterX] at k1
  | succ m1 =>
    unfold iterX at k1
    refine body k1 k2 k3 k4 (hrd.mono k5.le) (Nat.le_trans hB k5.size) ?_
    intro e st2 H2 ρ2 w2 a2 j1 j2 j3 j4 j5
    cases e with
    | normal =>
      have hc : Cond m1 a2 w2 := ⟨st2, H2, ρ2, j1, j2, j3, j4, k5.trans j5⟩
      have hx : ∃ m, Cond m a2 w2 := ⟨m1, hc⟩
      refine ⟨hx, ?_⟩
      have := leastOf_le (p := fun m => Cond m a2 w2) hc
      exact Nat.lt_succ_of_le this
    | exit id => exact hQ (.exit id) st2 H2 ρ2 w2 a2 j1 j2 j3 j4 (k5.trans j5)
    | ret => exact hQ .ret st2 H2 ρ2 w2 a2 j1 j2 j3 j4 (k5.trans j5)

end
end Go.Vm
