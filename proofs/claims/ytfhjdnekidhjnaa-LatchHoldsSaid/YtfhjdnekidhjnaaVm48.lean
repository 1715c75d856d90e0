/-
  Pieces of code, by their places; what a piece comes to, by other names.
-/
import Derived.Test.YtfhjdnekidhjnaaVm47
set_option linter.unusedVariables false
set_option linter.unusedSimpArgs false
namespace Go.Vm

def childOf : Code → Nat → Code
  | .seq a _, 0 => a
  | .seq _ b, _ => b
  | .cond _ a _, 0 => a
  | .cond _ _ b, _ => b
  | .block _ a, _ => a
  | .loop a, _ => a
  | .scope a, _ => a
  | c, _ => c

/-- The piece at a place. -/
def pieceAt (c : Code) : List Nat → Code
  | [] => c
  | i :: l => pieceAt (childOf c i) l

/-- A function's body. -/
def bodyOf (P : Program) (f : FuncId) : Code :=
  match P.funcs[f]? with
  | some fn => match fn.body with
    | some b => b
    | none => .skip
  | none => .skip

theorem COK.re {c : Cfg} {rd : Option Nat} {code : Code} {st st' st1' : St} {H H' : Heap} {e : Ex} (h : COK c rd code st H e st' H') (sl sl' : List (Option (Nat × Nat))) (nl : List Nat) (G' : Heap) (hrd : RdE (sg sl) rd rd) (h1 : chkE H sl = true) (h2 : chkP H H G' sl sl' nl = true)
    (h3 : EmbL (sg sl) H 0 H) (h4 : PostL sl (sg sl') H H H' 0 G') (hs : VEL true (sg sl) st st) (hs' : VEL false (sg sl') st' st1') : COK c rd code st H e st1' G' :=
  h.at sl sl' nl H G' hrd h1 h2 h3 h4 hs hs'

theorem COK.eqs {c : Cfg} {rd : Option Nat} {code : Code} {st st' st2 : St} {H H' H2 : Heap} {e : Ex} (h : COK c rd code st H e st' H') (e1 : st2 = st') (e2 : H2 = H') : COK c rd code st H e st2 H2 := by subst e1; subst e2; exact h

/-- Is a name one of some? -/
def inR : Option (Nat × Nat) → Nat → Nat → Bool
  | some p, s, k => decide (s ≤ p.1) && decide (p.1 < s + k)
  | none, _, _ => false

/-- Blocks that stay as they are. -/
theorem PostL.us {sl : List (Option (Nat × Nat))} {σ' : Sig} {H G H' : Heap} : ∀ (k : Nat) {s : Nat} {G' : List Blk}, G'.take k = (G.drop s).take k → (List.range sl.length).all (fun b => !(ownAt H b && inR (sg sl b) s k)) = true →
    PostL sl σ' H G H' (s + k) (G'.drop k) → PostL sl σ' H G H' s G'
  | 0, s, G', _, _, hr => by simpa using hr
  | k + 1, s, [], _, _, _ => trivial
  | k + 1, s, x :: xs, he, hc, hr => by
    have hs : G.drop s = x :: G.drop (s + 1) ∧ xs.take k = (G.drop (s + 1)).take k := by
      cases hd : G.drop s with
      | nil => rw [hd] at he; simp at he
      | cons y ys =>
        rw [hd] at he
        simp only [List.take_succ_cons, List.cons.injEq] at he
        have e2 : G.drop (s + 1) = ys := by rw [← List.tail_drop, hd]; rfl
        exact ⟨by rw [he.1, e2], by rw [e2]; exact he.2⟩
    have hg : G[s]? = some x := by
      have : (G.drop s)[0]? = some x := by rw [hs.1]; rfl
      rw [List.getElem?_drop] at this
      simpa using this
    rw [List.all_eq_true] at hc
    refine ⟨.inr (.inl ⟨hg, ?_⟩), PostL.us k hs.2 ?_ (by rw [show s + 1 + k = s + (k + 1) by omega]; exact hr)⟩
    · rw [List.all_eq_true]
      intro b hb
      have := hc b hb
      cases ho : ownAt H b with
      | false => rfl
      | true =>
        rw [ho] at this
        cases hs' : sg sl b with
        | none => rfl
        | some p =>
          rw [hs'] at this
          simp only [inR, Bool.true_and, Bool.not_eq_true', Bool.and_eq_false_iff, decide_eq_false_iff_not] at this
          simp only [eqPB, Bool.true_and, Bool.not_eq_true', Bool.and_eq_false_iff, beq_eq_false_iff_ne]
          left
          omega
    · rw [List.all_eq_true]
      intro b hb
      have := hc b hb
      cases ho : ownAt H b with
      | false => rfl
      | true =>
        rw [ho] at this
        cases hs' : sg sl b with
        | none => rfl
        | some p =>
          rw [hs'] at this
          simp only [inR, Bool.true_and, Bool.not_eq_true', Bool.and_eq_false_iff, decide_eq_false_iff_not] at this ⊢
          omega

/-- A call that reads alone. -/
theorem OK.rd {c : Cfg} {fv fv1 : V} {args args1 : List V} {H H' : Heap} {v v1 : V} (h : OK c fv args H v H') (sl sl' : List (Option (Nat × Nat))) (G : Heap) (h1 : chkE H sl = true) (h2 : chkP H G G sl sl' [] = true) (h2b : (List.range sl.length).all (fun b => !(ownAt H b)) = true)
    (h3 : EmbL (sg sl) G 0 H) (hf : VE true (sg sl) fv fv1) (ha : VEL true (sg sl) args args1) (hv : VE false (sg sl') v v1) : OK c fv1 args1 G v1 G := by
  refine OK.at h sl sl' [] G G h1 h2 h3 (PostL.us G.length (by simp) ?_ (by simp; trivial)) hf ha hv
  rw [List.all_eq_true] at h2b ⊢
  intro b hb
  have := h2b b hb
  simp only [Bool.not_eq_true'] at this
  rw [this]
  rfl
theorem rI {q : Bool} {σ : Sig} {k : IntKind} {L : List Int} (i : Nat) (v : V) (hi : (L.map (V.int k))[i]? = some v) : ∃ v', (L.map (V.int k))[0 + i]? = some v' ∧ VE q σ v v' := VEL.get_ro (VEL.plain (plains_map _ (fun _ => rfl) _)) i v hi
theorem vI {q : Bool} {σ : Sig} {k : IntKind} {L : List Int} : VEL q σ (L.map (V.int k)) (L.map (V.int k)) := VEL.plain (plains_map _ (fun _ => rfl) _)
theorem a_ {a b : Prop} (h : a) (k : b) : a ∧ b := ⟨h, k⟩
abbrev p_ (b : Nat) : Option (Nat × Nat) := some (b, 0)
def cc : Nat → List Ans → List Ans
  | 0, l => l
  | n + 1, l => .c :: cc n l
theorem VE.eqL0 {q : Bool} {σ : Sig} {es b b' o n n' : Nat} (hn : n' = n) (h : σ b = some (b', 0)) : VE q σ (.sl es (some (b, o)) n) (.sl es (some (b', o)) n') := by
  subst hn
  have := VE.sl (q := q) es b o n' b' 0 h
  rwa [Nat.zero_add] at this
/-- So many cells that are not told, ahead of others. -/
def un : Nat → List V → List V
  | 0, l => l
  | n + 1, l => .undef :: un n l
def tn : Nat → List V → List V
  | 0, l => l
  | n + 1, l => .tup [] :: tn n l
theorem VE.R {q : Bool} {σ : Sig} {v v' : V} (h : renV σ v = some v' := by kernel_rfl) : VE q σ v v' := .ren h
theorem VEL.R {q : Bool} {σ : Sig} {vs vs' : List V} (h : renL σ vs = some vs' := by kernel_rfl) : VEL q σ vs vs' := .ren h
theorem VEL.P {q : Bool} {σ : Sig} {vs : List V} (h : plains vs = true := by kernel_rfl) : VEL q σ vs vs := .plain h
abbrev n6 (n : Nat) : V := .int .i64 n
abbrev cI (L : List Int) : Blk := .cells true (L.map (V.int .i64))
def pr : Nat → Nat → List (Option (Nat × Nat)) → List (Option (Nat × Nat))
  | _, 0, l => l
  | k, n + 1, l => p_ k :: pr (k + 1) n l
end Go.Vm
