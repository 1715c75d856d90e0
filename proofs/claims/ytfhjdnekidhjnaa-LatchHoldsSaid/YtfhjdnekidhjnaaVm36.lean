/-
  What is read, put and appended, for the printed ways.
-/
import Derived.Test.YtfhjdnekidhjnaaVm35
set_option linter.unusedVariables false
set_option linter.unusedSimpArgs false
namespace Go.Vm

theorem OK.pad {c : Cfg} {fv : V} {args : List V} {H : Heap} {v : V} {H' : Heap} (h : OK c fv args H v H') : OK c fv args H v (H' ++ [.dead]) := by
  intro n ρ w ufv uargs hr h1 h2
  refine callsIn_back_mono (h n ρ w ufv uargs hr h1 h2) ?_
  rintro e w' ⟨u, ρ', rfl, k1, k2, k3⟩
  have e1 := k2.pad 1
  have e2 := k3.pad 1
  exact ⟨u, ρ', rfl, k1, e1, e2⟩

theorem ld_int {k : IntKind} {L : List Int} {o : Nat} (h : o < L.length) : ((((L.map (V.int k))[o]?).bind (asI k)).bind fun n => some (V.int k n)) = some (.int k (L.getD o 0)) := by
  simp [List.getElem?_map, List.getElem?_eq_getElem h, asI]

theorem gs_whole {es : Nat} {rw : Bool} {cs : List V} {m : Nat} (h : m * es = cs.length) : (if m = 0 then some [] else if 0 + m * es ≤ cs.length then some ((cs.drop 0).take (m * es)) else none) = some cs := by
  by_cases hm : m = 0
  · subst hm
    simp at h
    simp [List.eq_nil_of_length_eq_zero h.symm]
  · rw [if_neg hm, if_pos (by omega)]
    simp [h]

/-- The numbers' bytes. -/
def bytesOfInts (L : List Int) : ByteArray := ⟨(L.map fun n => UInt8.ofNat n.toNat).toArray⟩

theorem strV_ints : ∀ (L : List Int), strV (L.map (V.int .u8)) = some (L.map fun n => UInt8.ofNat n.toNat)
  | [] => rfl
  | n :: L => by simp [strV, strV_ints L]

/-! ### The bodies of a code's loops -/

def loopsIn : Code → List Code
  | .seq a b => loopsIn a ++ loopsIn b
  | .cond _ a b => loopsIn a ++ loopsIn b
  | .block _ a => loopsIn a
  | .scope a => loopsIn a
  | .loop a => a :: loopsIn a
  | .rangeFunc _ _ a b => loopsIn a ++ loopsIn b
  | _ => []

def loopAt (P : Program) (f : FuncId) (k : Nat) : Code :=
  match P.funcs[f]? with
  | some fn => match fn.body with
    | some b => ((loopsIn b)[k]?).getD .skip
    | none => .skip
  | none => .skip

end Go.Vm
namespace Go.Vm
theorem VEL.eqR {q : Bool} {σ : Sig} {a b : List V} (h : b = a) (p : VEL q σ a a) : VEL q σ a b := by subst h; exact p

/-- Behind a loop: new blocks by other numbers. -/
theorem LOK.re {c : Cfg} {rd : Option Nat} {code : Code} {st st' st1' : St} {H H' : Heap} {e : Ex} (h : LOK c rd code st H e st' H') (sl sl' : List (Option (Nat × Nat))) (nl : List Nat) (G' : Heap) (hrd : RdE (sg sl) rd rd) (h1 : chkE H sl = true) (h2 : chkP H H G' sl sl' nl = true)
    (h3 : EmbL (sg sl) H 0 H) (h4 : PostL sl (sg sl') H H H' 0 G') (hs : VEL true (sg sl) st st) (hs' : VEL false (sg sl') st' st1') : LOK c rd code st H e st1' G' :=
  h.at sl sl' nl H G' hrd h1 h2 h3 h4 hs hs'

theorem setR_ints {k : IntKind} (M : List Int) (o : Nat) (x : Int) : setR (M.map (V.int k)) o [V.int k x] = (M.set o x).map (V.int k) := by
  simp [setR, List.map_set]
theorem rep_ints (n : Nat) (k : IntKind) (x : Int) : rep n [V.int k x] = (List.replicate n x).map (V.int k) := by
  induction n with
  | zero => rfl
  | succ n ih => unfold rep at *; simp [List.replicate_succ, ih]
theorem append_ints {k : IntKind} (M : List Int) (x : Int) : M.map (V.int k) ++ [V.int k x] = (M ++ [x]).map (V.int k) := by simp
theorem ones_map {α : Type} (f : α → V) (h : ∀ x, (f x).one = true) : ∀ (l : List α), ones (l.map f) = true
  | [] => rfl
  | x :: l => by simp [ones, h x, ones_map f h l]
end Go.Vm
namespace Go.Vm
theorem VE.eqI {q : Bool} {σ : Sig} {k : IntKind} {n m : Int} (h : m = n) : VE q σ (.int k n) (.int k m) := by subst h; exact .int k _
theorem VE.eqL {q : Bool} {σ : Sig} {es b o b' o' n m : Nat} (h : m = n) (hσ : σ b = some (b', o')) : VE q σ (.sl es (some (b, o)) n) (.sl es (some (b', o' + o)) m) := by subst h; exact .sl es b o _ b' o' hσ
theorem VE.eqB {q : Bool} {σ : Sig} {n m : Bool} (h : m = n) : VE q σ (.bool n) (.bool m) := by subst h; exact .bool _
end Go.Vm
namespace Go.Vm
theorem gs_whole' {es b m : Nat} {rw : Bool} {H : Heap} {cs : List V} (hH : H[b]? = some (.cells rw cs)) (h : m * es = cs.length) : getS es H (some (b, 0)) m = some cs := by
  unfold getS
  by_cases hm : m = 0
  · subst hm
    simp at h
    simp [List.eq_nil_of_length_eq_zero h.symm]
  · simp only [hH, if_neg hm]
    rw [if_pos (by omega)]
    simp [h]
theorem gs_part {es b o m : Nat} {rw : Bool} {H : Heap} {cs : List V} (hH : H[b]? = some (.cells rw cs)) (h : o + m * es ≤ cs.length) : getS es H (some (b, o)) m = some ((cs.drop o).take (m * es)) := by
  unfold getS
  by_cases hm : m = 0
  · subst hm; simp
  · simp only [hH, if_neg hm, if_pos h]
theorem app_end {es bytes b n m : Nat} {q : Option (Nat × Nat)} {H : Heap} {cs xs : List V} (hg : getS es H q m = some xs) (hm : m ≠ 0) (hb : (n + m) * bytes ≤ 140737488355328 ∧ n + m ≤ 9223372036854775807) (ho : ones xs = true) (he : n * es = cs.length)
    (hH : H[b]? = some (.cells true cs)) : ((getS es H q m).bind fun xs => (appH es bytes (some (b, 0)) n m xs H).bind fun r => some (V.sl es r.2 (n + m), r.1)) = some (V.sl es (some (H.length, 0)) (n + m), newH (H.set b .dead) (cs.drop 0 ++ xs)) := by
  simp only [hg, Option.bind_some, appH, if_neg hm]
  rw [if_pos ⟨hb.1, hb.2, ho⟩]
  simp only [hH]
  rw [if_pos (by omega)]
  simp
theorem app_nil {es bytes n m : Nat} {q : Option (Nat × Nat)} {H : Heap} {xs : List V} (hg : getS es H q m = some xs) (hm : m ≠ 0) (hb : (n + m) * bytes ≤ 140737488355328 ∧ n + m ≤ 9223372036854775807) (ho : ones xs = true) (hn : n = 0) :
    ((getS es H q m).bind fun xs => (appH es bytes none n m xs H).bind fun r => some (V.sl es r.2 (n + m), r.1)) = some (V.sl es (some (H.length, 0)) (n + m), newH H xs) := by
  simp only [hg, Option.bind_some, appH, if_neg hm]
  rw [if_pos ⟨hb.1, hb.2, ho⟩]
  simp [hn]
theorem app_zero {es bytes n m : Nat} {p q : Option (Nat × Nat)} {H : Heap} (hm : m = 0) :
    ((getS es H q m).bind fun xs => (appH es bytes p n m xs H).bind fun r => some (V.sl es r.2 (n + m), r.1)) = some (V.sl es p (n + m), H) := by
  subst hm
  simp [getS, appH]
theorem str_ints {b n : Nat} {rw : Bool} {H : Heap} {L : List Int} (hH : H[b]? = some (.cells rw (L.map (V.int .u8)))) (h : n = L.length) :
    ((getS 1 H (some (b, 0)) n).bind fun vs => (strV vs).bind fun l => some (V.str ⟨l.toArray⟩, H)) = some (V.str (bytesOfInts L), H) := by
  rw [gs_whole' hH (by simp [h])]
  simp [strV_ints, bytesOfInts]
theorem bytesOfInts_inj {L M : List Int} (hL : ∀ x ∈ L, 0 ≤ x ∧ x < 256) (hM : ∀ x ∈ M, 0 ≤ x ∧ x < 256) : ((bytesOfInts L).toList == (bytesOfInts M).toList) = decide (L = M) := by
  have key : ∀ {L M : List Int}, (∀ x ∈ L, 0 ≤ x ∧ x < 256) → (∀ x ∈ M, 0 ≤ x ∧ x < 256) → L.map (fun n => UInt8.ofNat n.toNat) = M.map (fun n => UInt8.ofNat n.toNat) → L = M := by
    intro L
    induction L with
    | nil => intro M _ _ h; cases M with
      | nil => rfl
      | cons y M => simp at h
    | cons x L ih =>
      intro M hL hM h
      cases M with
      | nil => simp at h
      | cons y M =>
        simp only [List.map_cons, List.cons.injEq] at h
        have hx := hL x (by simp)
        have hy := hM y (by simp)
        have e := congrArg UInt8.toNat h.1
        simp only [UInt8.toNat_ofNat'] at e
        have : x = y := by omega
        rw [this, ih (fun z hz => hL z (by simp [hz])) (fun z hz => hM z (by simp [hz])) h.2]
  have e : ∀ L : List Int, (bytesOfInts L).toList = L.map fun n => UInt8.ofNat n.toNat := by
    intro L
    rw [ByteArray.toList_eq]
    simp [bytesOfInts]
  rw [e, e]
  by_cases h : L = M
  · subst h; simp
  · have : ¬ L.map (fun n => UInt8.ofNat n.toNat) = M.map (fun n => UInt8.ofNat n.toNat) := fun h' => h (key hL hM h')
    simp [h, this]
end Go.Vm
namespace Go.Vm
open Go.RowKit in
/-- A law's call: what it was told of is as it was. -/
theorem walk_ok {c : Cfg} {f : FuncId} {args : List V} {H H' : Heap} {b : Bool} (h : OK c (.fn f []) args H (.bool b) H') {ρ : Map} {w : World} {uargs : List Value} (hr : Rel ρ H w) (ho : ∀ i, ¬ Owned H i) (hv : VRL ρ args uargs) (hbd : hasBody c.P f = true := by kernel_rfl) :
    Calls c.P f uargs.toArray w fun e w' => e = .returned (.bool b) ∧ Below w.heap.size w w' := by
  rcases h 0 ρ w (.func (.func f) #[] #[]) uargs hr (.fn f [] [] .nil) hv with ⟨g, us, fn, e1, e2, e3, e4, e5⟩ | ⟨_, _, _, _, _, e1, _⟩ | ⟨g, us, fn, u, w2, e1, e2, e3, _⟩
  · cases e1
    rw [Array.append_empty] at e5
    refine (callsIn_wide.1 e5).mono ?_
    rintro e w' ⟨u, ρ', rfl, hu, hrel, hst⟩
    have := hu.inv_bool
    subst this
    refine ⟨rfl, hst.os, hst.tape, hst.output, hst.size, fun i hi => hst.keep i hi ?_⟩
    rintro ⟨b', L, h1, h2, h3⟩
    exact ho b' h1
  · cases e1
  · cases e1
    simp [hasBody, e2, e3] at hbd
/-- A call that the machine runs to its end. -/
theorem ok_run {c : Cfg} (hm : c.P.follows .mixedOrders = true) (k : Nat) {fv : V} {args : List V} {H : Heap} {v : V} (h : (callX c k fv args H).map (·.1) = some v) : ∃ H', OK c fv args H v H' := by
  cases hc : callX c k fv args H with
  | none => rw [hc] at h; cases h
  | some r => rw [hc] at h; cases r; simp at h; subst h; exact ⟨_, ok_of_callOK (call_ok hm k) hc⟩
end Go.Vm
