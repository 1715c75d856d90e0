/-
  Lists of structs as cells.
-/
import Derived.Test.YtfhjdnekidhjnaaVm38
set_option linter.unusedVariables false
set_option linter.unusedSimpArgs false
namespace Go.Vm

theorem fm_get {α : Type} (f : α → List V) (es : Nat) (hes : ∀ x, (f x).length = es) (d : α) : ∀ (S : List α) (i j : Nat), i < S.length → j < es → ((S.map f).flatten)[0 + i * es + j]? = (f (S.getD i d))[j]?
  | [], i, j, hi, _ => by simp at hi
  | x :: S, 0, j, _, hj => by
    simp only [List.map_cons, List.flatten_cons, Nat.zero_mul, Nat.zero_add]
    rw [List.getElem?_append_left (by rw [hes]; exact hj)]
    simp
  | x :: S, i + 1, j, hi, hj => by
    simp only [List.map_cons, List.flatten_cons]
    rw [List.getElem?_append_right (by rw [hes, Nat.succ_mul]; omega)]
    have := fm_get f es hes d S i j (by simpa using hi) hj
    rw [hes, show 0 + (i + 1) * es + j - es = 0 + i * es + j by rw [Nat.succ_mul]; omega, this]
    simp

theorem fm_len {α : Type} (f : α → List V) (es : Nat) (hes : ∀ x, (f x).length = es) : ∀ (S : List α), ((S.map f).flatten).length = S.length * es
  | [] => by simp
  | x :: S => by simp [fm_len f es hes S, hes, Nat.succ_mul, Nat.add_comm]

theorem fm_take {α : Type} (f : α → List V) (S T : List α) (i : Nat) (v : V) (h : ((S.map f).flatten)[i]? = some v) : (((S ++ T).map f).flatten)[i]? = some v := by
  rw [List.map_append, List.flatten_append, List.getElem?_append_left (List.getElem?_eq_some_iff.1 h).1]
  exact h

theorem plains_flat {α : Type} (f : α → List V) (h : ∀ x, plains (f x) = true) : ∀ (S : List α), plains ((S.map f).flatten) = true
  | [] => rfl
  | x :: S => by
    simp only [List.map_cons, List.flatten_cons]
    exact plains_append (h x) (plains_flat f h S)

theorem ld_at_int {k : IntKind} {cs : List V} {o : Nat} {n : Int} (h : cs[o]? = some (.int k n)) : (((cs[o]?).bind (asI k)).bind fun n => some (V.int k n)) = some (.int k n) := by rw [h]; simp [asI]
theorem ld_at_bool {cs : List V} {o : Nat} {n : Bool} (h : cs[o]? = some (.bool n)) : (((cs[o]?).bind asB).bind fun n => some (V.bool n)) = some (.bool n) := by rw [h]; simp [asB]

theorem OK.eqv {c : Cfg} {fv : V} {args : List V} {H : Heap} {v v' : V} {H' : Heap} (h : OK c fv args H v H') (hv : v = v') : OK c fv args H v' H' := by subst hv; exact h

end Go.Vm
namespace Go.Vm
/-- A call of values without places, on any heap. -/
theorem OK.any {c : Cfg} {f : FuncId} {args : List V} {H' : Heap} {v : V} (h : OK c (.fn f []) args [] v H') (G : Heap) (ha : renL (fun _ => none) args = some args) (hv : renV (fun _ => none) v = some v) : OK c (.fn f []) args G v G := by
  have he : Emb (fun _ => none) [] G := ⟨fun b p hb => (by cases hb), fun b k hb => (by simp at hb), fun b b' p p' ho => (by rcases ho with ⟨_, h⟩ | ⟨_, h⟩ <;> simp at h)⟩
  have hp : Post (fun _ => none) (fun _ => none) (fun _ => none) [] G H' G :=
    ⟨Nat.le_refl _, fun b p hb => (by cases hb), fun b p hb => (by cases hb), fun b1 b hb => (by cases hb), fun b1 k hk => .inr (.inl ⟨(List.getElem?_eq_some_iff.1 hk).1, hk, fun b _ hb => (by cases hb)⟩)⟩
  exact OK.emb h he (fun b p hb => (by cases hb)) hp (.fn _ _ _ .nil) (VEL.ren ha) (VE.ren hv)
end Go.Vm
namespace Go.Vm
/-- A call that only reads: what it has made is forgotten. -/
theorem OK.ro1 {c : Cfg} {f : FuncId} {args : List V} {cs : List V} {v : V} {H' : Heap} (h : OK c (.fn f []) args [.cells false cs] v H') (hp : plains cs = true) (ha : renL (sg [some (0, 0)]) args = some args) (hv : renV (sg [none]) v = some v) :
    OK c (.fn f []) args [.cells false cs] v [.cells false cs] :=
  OK.at h [some (0, 0)] [none] [] [.cells false cs] [.cells false cs] rfl rfl ⟨⟨0, 0, false, cs, rfl, rfl, VEL.get_ro (VEL.plain hp)⟩, trivial⟩ ⟨.inr (.inl ⟨rfl, rfl⟩), trivial⟩ (VE.ren rfl) (VEL.ren ha) (VE.ren hv)
/-- Short names, for printed texts. -/
abbrev u_ : V := .undef
theorem VE.q {σ : Sig} {v : V} : VE true σ .undef v := .undef _ (.inl rfl)
theorem VE.dr {σ : Sig} {v : V} : VE false σ v .undef := .drop _ rfl
theorem VEL.c {q : Bool} {σ : Sig} {v v' : V} {vs vs' : List V} (h : VE q σ v v') (hs : VEL q σ vs vs') : VEL q σ (v :: vs) (v' :: vs') := .cons _ _ _ _ h hs
theorem eqLoad_txt {P : Program} {H : Heap} {b n : Nat} {rw : Bool} {L : List Int} (hH : H[b]? = some (.cells rw (L.map (V.int .u8)))) (h : n = L.length) : eqLoad P H (.txt n, (b, 0)) (.str (bytesOfInts L)) = true := by
  unfold eqLoad loadR
  simp only
  rw [gs_whole' hH (by simp [h])]
  simp [strV_ints, bytesOfInts, sameVal, sameV]

theorem VE.u {q : Bool} {σ : Sig} : VE q σ .undef .undef := .undef _ (.inr rfl)

end Go.Vm
