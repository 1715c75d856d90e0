/-
  The ranges over functions in a code; windows of what is only read.
-/
import Derived.Test.YtfhjdnekidhjnaaVm37
set_option linter.unusedVariables false
set_option linter.unusedSimpArgs false
namespace Go.Vm

def rangesIn : Code → List (Array Tmp × Code × Code)
  | .seq a b => rangesIn a ++ rangesIn b
  | .cond _ a b => rangesIn a ++ rangesIn b
  | .block _ a => rangesIn a
  | .scope a => rangesIn a
  | .loop a => rangesIn a
  | .rangeFunc _ p a b => (p, a, b) :: (rangesIn a ++ rangesIn b)
  | _ => []

def rangeAt (P : Program) (f : FuncId) (k : Nat) : Array Tmp × Code × Code :=
  match P.funcs[f]? with
  | some fn => match fn.body with
    | some b => ((rangesIn b)[k]?).getD (#[], .skip, .skip)
    | none => (#[], .skip, .skip)
  | none => (#[], .skip, .skip)

/-- What a range's record is. -/
def recOf (P : Program) (f : FuncId) (k : Nat) (st : St) (s : LoopState) (p : Option Code) : LoopRec :=
  { fid := 0, state := s, pending := p, st := st, params := (rangeAt P f k).1, assign := (rangeAt P f k).2.1, body := (rangeAt P f k).2.2 }

theorem ro_pre {q : Bool} {σ : Sig} {cs cs' : List V} (h : ∀ (i : Nat) (v : V), cs[i]? = some v → cs'[i]? = some v) (hp : plains cs = true) (i : Nat) (v : V) (hi : cs[i]? = some v) : ∃ v', cs'[0 + i]? = some v' ∧ VE q σ v v' := by
  rw [Nat.zero_add]
  obtain ⟨v', h1, h2⟩ := (VEL.plain (q := q) (σ := σ) hp).get hi
  rw [hi] at h1
  cases h1
  exact ⟨v, h i v hi, h2⟩

theorem arg_agg {Hd : Type} {enc : TypeId × Value → Hd} {P : Program} {w w' : World} {base base' d : Nat} {sp : Nat → Bool} {held : Bool} {r : Reach} {t : TypeId} {v : Value} {dd : DataW Hd} {ps : List MemPlace}
    (ht : isAggT P t = true) (hf : flatB P d t = true) (hv : Value.okWide P w' r base' t v) (h : DataW.Trod enc P w base sp held t v dd ps) : ∃ vs, Typed (leaves P d t) vs ∧ ∀ ρ, VR ρ (.agg vs) v := by
  obtain ⟨fuel, h⟩ := h
  have hagg : ∃ cs, v = .agg cs := by
    unfold Value.okWide at hv
    unfold isAggT at ht
    split at hv
    · obtain ⟨cs, rfl, _⟩ := hv; exact ⟨_, rfl⟩
    · obtain ⟨cs, rfl, _⟩ := hv; exact ⟨_, rfl⟩
    · rename_i h1 h2
      split at ht
      · rename_i fs hu; exact absurd hu (h1 fs)
      · rename_i n e hu; exact absurd hu (h2 n e)
      · cases ht
  obtain ⟨cs, rfl⟩ := hagg
  obtain ⟨_, vs, h1, h2⟩ := trod_flat d hf h
  refine ⟨vs, h1, fun ρ => ?_⟩
  have := VR.agg vs _ (h2 ρ)
  simpa [Value.cells] using this

theorem arg_int {Hd : Type} {enc : TypeId × Value → Hd} {P : Program} {w w' : World} {base base' : Nat} {sp : Nat → Bool} {held : Bool} {r : Reach} {t : TypeId} {k : IntKind} {v : Value} {dd : DataW Hd} {ps : List MemPlace}
    (ht : P.underlying t = some (.int k)) (hv : Value.okWide P w' r base' t v) (h : DataW.Trod enc P w base sp held t v dd ps) : ∃ n, v = .int k n ∧ (Lit.int k n).wf = true := by
  obtain ⟨n, rfl⟩ := WideShapes.okWide_int ht hv
  obtain ⟨fuel, h⟩ := h
  obtain ⟨m, h1, _, h2⟩ := DataW.trod_int ht h
  simp [Value.cells] at h1
  subst h1
  exact ⟨_, rfl, h2⟩

theorem arg_bool {P : Program} {w' : World} {base' : Nat} {r : Reach} {t : TypeId} {v : Value} (ht : P.underlying t = some .bool) (hv : Value.okWide P w' r base' t v) : ∃ b, v = .bool b := WideShapes.okWide_bool ht hv

theorem arg_str {Hd : Type} {enc : TypeId × Value → Hd} {P : Program} {w w' : World} {base base' : Nat} {sp : Nat → Bool} {held : Bool} {r : Reach} {t : TypeId} {v : Value} {dd : DataW Hd} {ps : List MemPlace}
    (ht : P.underlying t = some .string) (hv : Value.okWide P w' r base' t v) (h : DataW.Trod enc P w base sp held t v dd ps) : ∃ s, v = .string s ∧ s.size ≤ maxLen := by
  obtain ⟨s, rfl⟩ := WideShapes.okWide_string ht hv
  obtain ⟨fuel, h⟩ := h
  obtain ⟨m, h1, _, h2⟩ := DataW.trod_string ht h
  simp [Value.cells] at h1
  subst h1
  exact ⟨_, rfl, h2⟩

theorem arg_sl {Hd : Type} {enc : TypeId × Value → Hd} {P : Program} {w : World} {base : Nat} {held : Bool} {t e : TypeId} {d : Nat} {v : Value} {dd : DataW Hd} {ps : List MemPlace} {w' : World} {base' : Nat} {r : Reach}
    (ht : P.underlying t = some (.slice e)) (hf : flatB P d e = true) (hpos : 0 < esOf P e ∧ esOf P e < 8589934592) (hw : ∀ m ∈ dd.weights P t, m ≤ reachBytes) (hbo : 0 < P.bytesOf e) (hv : Value.okWide P w' r base' t v) (h : DataW.Trod enc P w base (fun _ => true) held t v dd ps) : ∃ rows, ArgSl (leaves P d e) (esOf P e) w v rows := by
  obtain ⟨a, len, cap, rfl⟩ := WideShapes.okWide_slice ht hv
  obtain ⟨fuel, h⟩ := h
  exact argSl_of ht hf hpos hw hbo (by simpa [Value.cells] using h)

theorem wf_i64 {n : Int} (h : (Lit.int .i64 n).wf = true) : -9223372036854775808 ≤ n ∧ n ≤ 9223372036854775807 := by
  simp [Lit.wf, IntKind.min, IntKind.max, IntKind.signed, IntKind.bits] at h
  omega
theorem wf_u8 {n : Int} (h : (Lit.int .u8 n).wf = true) : 0 ≤ n ∧ n < 256 := by
  simp [Lit.wf, IntKind.min, IntKind.max, IntKind.signed, IntKind.bits] at h
  omega
theorem wf_u16 {n : Int} (h : (Lit.int .u16 n).wf = true) : 0 ≤ n ∧ n < 65536 := by
  simp [Lit.wf, IntKind.min, IntKind.max, IntKind.signed, IntKind.bits] at h
  omega

end Go.Vm
namespace Go.Vm
theorem OK.eqb {c : Cfg} {fv : V} {args : List V} {H : Heap} {b : Bool} {H' : Heap} (h : OK c fv args H (.bool b) H') (hb : b = true) : OK c fv args H (.bool true) H' := by subst hb; exact h
end Go.Vm
namespace Go.Vm
theorem ld_str {L : List ByteArray} {o : Nat} (h : o < L.length) : ((((L.map V.str)[o]?).bind asStr).bind fun s => some (V.str s)) = some (.str (L.getD o ByteArray.empty)) := by
  simp [List.getElem?_map, List.getElem?_eq_getElem h, asStr]
theorem fix_int {k : IntKind} {n m : Int} {H : Heap} (h : n = m) : some (V.int k n, H) = some (V.int k m, H) := by rw [h]
end Go.Vm
namespace Go.Vm
theorem typed_str {r : List V} (h : Typed [.str] r) : ∃ s, r = [.str s] ∧ s.size ≤ maxLen := by
  match r, h with
  | [v], ⟨hv, _⟩ => cases v with
    | str s => exact ⟨s, rfl, hv⟩
    | _ => exact hv.elim
theorem typed_int {k : IntKind} {r : List V} (h : Typed [.int k] r) : ∃ n, r = [.int k n] ∧ (Lit.int k n).wf = true := by
  match r, h with
  | [v], ⟨hv, _⟩ => cases v with
    | int k' n => obtain ⟨rfl, hw⟩ := hv; exact ⟨n, rfl, hw⟩
    | _ => exact hv.elim
/-- Rows, told by what they hold. -/
theorem rows_of {α : Type} {f : α → List V} {p : α → Prop} {ls : List Leaf} (hf : ∀ r, Typed ls r → ∃ x, r = f x ∧ p x) : ∀ {rows : List (List V)}, (∀ r ∈ rows, Typed ls r) → ∃ L : List α, rows = L.map f ∧ ∀ x ∈ L, p x
  | [], _ => ⟨[], rfl, by simp⟩
  | r :: rows, h => by
    obtain ⟨x, h1, h2⟩ := hf r (h r (by simp))
    obtain ⟨L, h3, h4⟩ := rows_of (rows := rows) hf (fun r hr => h r (by simp [hr]))
    exact ⟨x :: L, by simp [h1, h3], by simpa using ⟨h2, h4⟩⟩
theorem rows_str {rows : List (List V)} (h : ∀ r ∈ rows, Typed [.str] r) : ∃ L : List ByteArray, rows.flatten = L.map V.str ∧ rows.length = L.length ∧ ∀ s ∈ L, s.size ≤ maxLen := by
  obtain ⟨L, rfl, h2⟩ := rows_of (f := fun s => [V.str s]) (p := fun s => s.size ≤ maxLen) (fun r hr => typed_str hr) h
  refine ⟨L, ?_, by simp, h2⟩
  clear h h2
  induction L with
  | nil => rfl
  | cons x L ih => simp [ih]
theorem rows_int {k : IntKind} {rows : List (List V)} (h : ∀ r ∈ rows, Typed [.int k] r) : ∃ L : List Int, rows.flatten = L.map (V.int k) ∧ rows.length = L.length ∧ ∀ n ∈ L, (Lit.int k n).wf = true := by
  obtain ⟨L, rfl, h2⟩ := rows_of (f := fun n => [V.int k n]) (p := fun n => (Lit.int k n).wf = true) (fun r hr => typed_int hr) h
  refine ⟨L, ?_, by simp, h2⟩
  clear h h2
  induction L with
  | nil => rfl
  | cons x L ih => simp [ih]
end Go.Vm
