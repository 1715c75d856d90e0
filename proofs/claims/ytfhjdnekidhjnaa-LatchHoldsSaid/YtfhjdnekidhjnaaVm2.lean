/-
  What it means that the small machine's state tells the model's world: values ('VR'), states ('SR'), heaps ('Rel'); and what a step may change ('Step').
-/
import Derived.Test.YtfhjdnekidhjnaaVm1
set_option linter.unusedVariables false
set_option linter.unusedSimpArgs false
namespace Go.Vm

inductive LK where
  | rw | ro | void | loop
  deriving DecidableEq

structure Loc where
  blk : Nat
  base : Nat
  size : Nat
  kind : LK

abbrev Map := Nat → Option Loc

mutual
inductive VR (ρ : Map) : V → Value → Prop
  | int (k : IntKind) (n : Int) : VR ρ (.int k n) (.int k n)
  | bool (b : Bool) : VR ρ (.bool b) (.bool b)
  | str (s : ByteArray) : VR ρ (.str s) (.string s)
  | ptrN : VR ρ (.ptr none) (.pointer none)
  | ptr (b o : Nat) (L : Loc) (h : ρ b = some L) (hk : L.kind = .rw ∨ L.kind = .ro) : VR ρ (.ptr (some (b, o))) (.pointer (some ⟨L.blk, L.base + o, none⟩))
  | slN (es : Nat) : VR ρ (.sl es none 0) (.slice none 0 0)
  | sl (es b o n cap : Nat) (a : Addr) (L : Loc) (h : ρ b = some L) (hn : n ≤ cap) (ha : cap = 0 ∨ a = ⟨L.blk, L.base + o, none⟩)
      (hr : L.kind = .rw → es < 4294967296 → L.base + o + cap * es = L.size) (hv : L.kind = .void → cap = 0) (hl : L.kind ≠ .loop)
      (hc : 8589934592 ≤ es → cap = capOf es ∧ (L.kind = .rw → L.base + o + cap * (es % 8589934592) = L.size)) : VR ρ (.sl es (some (b, o)) n) (.slice (some a) n cap)
  | fn (f : FuncId) (cs : List V) (us : List Value) (h : VRL ρ cs us) : VR ρ (.fn f cs) (.func (.func f) #[] us.toArray)
  | yld (b : Nat) (L : Loc) (h : ρ b = some L) (hk : L.kind = .loop) : VR ρ (.yld b) (.func (.yield L.blk) #[] #[])
  | nilFn : VR ρ .nilFn .nilFunc
  | nilIface : VR ρ .nilIface .nilIface
  | agg (cs : List V) (us : List Value) (h : VRL ρ cs us) : VR ρ (.agg cs) (.agg us.toArray)
  | tup (cs : List V) (us : List Value) (h : VRL ρ cs us) : VR ρ (.tup cs) (.tuple us.toArray)
  | undef (u : Value) : VR ρ .undef u
inductive VRL (ρ : Map) : List V → List Value → Prop
  | nil : VRL ρ [] []
  | cons (v : V) (u : Value) (vs : List V) (us : List Value) (h : VR ρ v u) (hs : VRL ρ vs us) : VRL ρ (v :: vs) (u :: us)
end

theorem VR.inv_int {ρ : Map} {k : IntKind} {n : Int} {u : Value} (h : VR ρ (.int k n) u) : u = .int k n := by cases h; rfl
theorem VR.inv_bool {ρ : Map} {b : Bool} {u : Value} (h : VR ρ (.bool b) u) : u = .bool b := by cases h; rfl
theorem VR.inv_str {ρ : Map} {b : ByteArray} {u : Value} (h : VR ρ (.str b) u) : u = .string b := by cases h; rfl
theorem VR.inv_ptrN {ρ : Map} {u : Value} (h : VR ρ (.ptr none) u) : u = .pointer none := by cases h; rfl
theorem VR.inv_ptr {ρ : Map} {b o : Nat} {u : Value} (h : VR ρ (.ptr (some (b, o))) u) : ∃ L, ρ b = some L ∧ (L.kind = .rw ∨ L.kind = .ro) ∧ u = .pointer (some ⟨L.blk, L.base + o, none⟩) := by
  cases h with
  | ptr b o L h hk => exact ⟨L, h, hk, rfl⟩
theorem VR.inv_slN {ρ : Map} {es n : Nat} {u : Value} (h : VR ρ (.sl es none n) u) : n = 0 ∧ u = .slice none 0 0 := by cases h; exact ⟨rfl, rfl⟩
theorem VR.inv_sl {ρ : Map} {es b o n : Nat} {u : Value} (h : VR ρ (.sl es (some (b, o)) n) u) : ∃ L a cap, ρ b = some L ∧ n ≤ cap ∧ (cap = 0 ∨ a = ⟨L.blk, L.base + o, none⟩) ∧
    (L.kind = .rw → es < 4294967296 → L.base + o + cap * es = L.size) ∧ (L.kind = .void → cap = 0) ∧ L.kind ≠ .loop ∧ u = .slice (some a) n cap := by
  cases h with
  | sl es b o n cap a L h hn ha hr hv hl hc => exact ⟨L, a, cap, h, hn, ha, hr, hv, hl, rfl⟩
theorem VR.inv_slc {ρ : Map} {es b o n : Nat} {u : Value} (h : VR ρ (.sl es (some (b, o)) n) u) : ∃ L a cap, ρ b = some L ∧ n ≤ cap ∧ (cap = 0 ∨ a = ⟨L.blk, L.base + o, none⟩) ∧
    (L.kind = .rw → es < 4294967296 → L.base + o + cap * es = L.size) ∧ (L.kind = .void → cap = 0) ∧ L.kind ≠ .loop ∧ (8589934592 ≤ es → cap = capOf es ∧ (L.kind = .rw → L.base + o + cap * (es % 8589934592) = L.size)) ∧ u = .slice (some a) n cap := by
  cases h with
  | sl es b o n cap a L h hn ha hr hv hl hc => exact ⟨L, a, cap, h, hn, ha, hr, hv, hl, hc, rfl⟩
theorem VR.inv_slany {ρ : Map} {es n : Nat} {p : Option (Nat × Nat)} {u : Value} (h : VR ρ (.sl es p n) u) : ∃ A cap, u = .slice A n cap ∧ n ≤ cap ∧ A.isNone = p.isNone := by
  cases h with
  | slN => exact ⟨none, 0, rfl, Nat.le_refl _, rfl⟩
  | sl es b o n cap a L h hn ha hr hv hl hc => exact ⟨some a, cap, rfl, hn, rfl⟩
theorem VR.lim_le {ρ : Map} {es n : Nat} {p : Option (Nat × Nat)} {u : Value} {A : Option Addr} {cap : Nat} (h : VR ρ (.sl es p n) u) (hu : u = .slice A n cap) : lim p es n ≤ cap := by
  subst hu
  cases h with
  | slN es => exact Nat.le_refl _
  | sl es b o n cap a L h hn ha hr hv hl hc =>
    show (if 8589934592 ≤ es then capOf es else n) ≤ cap
    split
    · rename_i hk; rw [(hc hk).1]; exact Nat.le_refl _
    · exact hn
theorem VR.forget {ρ : Map} {es e n : Nat} {p : Option (Nat × Nat)} {u : Value} (h : VR ρ (.sl es p n) u) (hk : 8589934592 ≤ es) (he : es % 8589934592 = e) (hs : e < 4294967296) : VR ρ (.sl e p n) u := by
  cases h with
  | slN es => exact .slN _
  | sl es b o n cap a L h hn ha hr hv hl hc => exact .sl e b o n cap a L h hn ha (fun hw _ => by have := (hc hk).2 hw; rwa [he] at this) hv hl (fun hb => absurd hb (by omega))
theorem VR.know {ρ : Map} {es e b o n : Nat} {u : Value} {L : Loc} {cap : Nat} (h : VR ρ (.sl e (some (b, o)) n) u) (he : es % 8589934592 = e) (hs : e < 4294967296) (hp : 0 < e) (hL : ρ b = some L) (hw : L.kind = .rw) (hcap : cap = capOf es) (hz : L.base + o + cap * e = L.size) : VR ρ (.sl es (some (b, o)) n) u := by
  cases h with
  | sl e b o n cap' a L' h hn ha hr hv hl hc =>
    rw [hL] at h; cases h
    have h1 := hr hw hs
    have h2 : cap' = cap := Nat.eq_of_mul_eq_mul_right hp (by omega)
    subst h2
    refine .sl es b o n cap' a L hL hn ha (fun _ hb => ?_) hv hl (fun _ => ⟨hcap, fun _ => by rw [he]; exact hz⟩)
    have : es % 8589934592 = es := Nat.mod_eq_of_lt (by omega)
    rw [← this, he]
    exact hz
theorem VR.inv_ptrany {ρ : Map} {p : Option (Nat × Nat)} {u : Value} (h : VR ρ (.ptr p) u) : ∃ A, u = .pointer A ∧ A.isNone = p.isNone := by
  cases h with
  | ptrN => exact ⟨none, rfl, rfl⟩
  | ptr b o L h hk => exact ⟨_, rfl, rfl⟩
theorem VR.inv_fn {ρ : Map} {f : FuncId} {cs : List V} {u : Value} (h : VR ρ (.fn f cs) u) : ∃ us, VRL ρ cs us ∧ u = .func (.func f) #[] us.toArray := by
  cases h with
  | fn f cs us h => exact ⟨us, h, rfl⟩
theorem VR.inv_yld {ρ : Map} {l : Nat} {u : Value} (h : VR ρ (.yld l) u) : ∃ L, ρ l = some L ∧ L.kind = .loop ∧ u = .func (.yield L.blk) #[] #[] := by
  cases h with
  | yld l L h hk => exact ⟨L, h, hk, rfl⟩
theorem VR.inv_nilFn {ρ : Map} {u : Value} (h : VR ρ .nilFn u) : u = .nilFunc := by cases h; rfl
theorem VR.inv_agg {ρ : Map} {cs : List V} {u : Value} (h : VR ρ (.agg cs) u) : ∃ us, VRL ρ cs us ∧ u = .agg us.toArray := by
  cases h with
  | agg cs us h => exact ⟨us, h, rfl⟩
theorem VR.inv_tup {ρ : Map} {cs : List V} {u : Value} (h : VR ρ (.tup cs) u) : ∃ us, VRL ρ cs us ∧ u = .tuple us.toArray := by
  cases h with
  | tup cs us h => exact ⟨us, h, rfl⟩

def Map.le (ρ ρ' : Map) : Prop := ∀ b L, ρ b = some L → ρ' b = some L
theorem Map.le_refl (ρ : Map) : Map.le ρ ρ := fun _ _ h => h
theorem Map.le_trans {a b c : Map} (h : Map.le a b) (k : Map.le b c) : Map.le a c := fun x L hx => k x L (h x L hx)

mutual
theorem VR.mono {ρ ρ' : Map} (hle : Map.le ρ ρ') : ∀ {v : V} {u : Value}, VR ρ v u → VR ρ' v u
  | _, _, .int k n => .int k n
  | _, _, .bool b => .bool b
  | _, _, .str s => .str s
  | _, _, .ptrN => .ptrN
  | _, _, .ptr b o L h hk => .ptr b o L (hle _ _ h) hk
  | _, _, .slN es => .slN es
  | _, _, .sl es b o n cap a L h hn ha hr hv hl hc => .sl es b o n cap a L (hle _ _ h) hn ha hr hv hl hc
  | _, _, .fn f cs us h => .fn f cs us (VRL.mono hle h)
  | _, _, .yld b L h hk => .yld b L (hle _ _ h) hk
  | _, _, .nilFn => .nilFn
  | _, _, .nilIface => .nilIface
  | _, _, .agg cs us h => .agg cs us (VRL.mono hle h)
  | _, _, .tup cs us h => .tup cs us (VRL.mono hle h)
  | _, _, .undef u => .undef u
theorem VRL.mono {ρ ρ' : Map} (hle : Map.le ρ ρ') : ∀ {vs : List V} {us : List Value}, VRL ρ vs us → VRL ρ' vs us
  | _, _, .nil => .nil
  | _, _, .cons v u vs us h hs => .cons v u vs us (VR.mono hle h) (VRL.mono hle hs)
end

theorem VRL.length {ρ : Map} : ∀ {vs : List V} {us : List Value}, VRL ρ vs us → us.length = vs.length
  | _, _, .nil => rfl
  | _, _, .cons _ _ _ _ _ hs => by simp [hs.length]
theorem VRL.get {ρ : Map} : ∀ {vs : List V} {us : List Value}, VRL ρ vs us → ∀ {i : Nat} {v : V}, vs[i]? = some v → ∃ u, us[i]? = some u ∧ VR ρ v u
  | _, _, .nil, _, _, h => by simp at h
  | _, _, .cons v u vs us h hs, i, w, hi => by
    cases i with
    | zero => simp at hi; subst hi; exact ⟨u, by simp, h⟩
    | succ i => simpa using hs.get (i := i) (by simpa using hi)
theorem VRL.of_get {ρ : Map} : ∀ {vs : List V} {us : List Value}, us.length = vs.length → (∀ (i : Nat) (v : V), vs[i]? = some v → ∃ u, us[i]? = some u ∧ VR ρ v u) → VRL ρ vs us
  | [], [], _, _ => .nil
  | [], _ :: _, h, _ => by simp at h
  | _ :: _, [], h, _ => by simp at h
  | v :: vs, u :: us, h, hg => by
    obtain ⟨u', hu', hv⟩ := hg 0 v rfl
    simp at hu'; subst hu'
    exact .cons _ _ _ _ hv (VRL.of_get (by simpa using h) fun i w hi => by simpa using hg (i + 1) w (by simpa using hi))
theorem VRL.append {ρ : Map} : ∀ {vs : List V} {us : List Value} {vs' : List V} {us' : List Value}, VRL ρ vs us → VRL ρ vs' us' → VRL ρ (vs ++ vs') (us ++ us')
  | _, _, _, _, .nil, h' => h'
  | _, _, _, _, .cons _ _ _ _ h hs, h' => .cons _ _ _ _ h (hs.append h')
theorem VRL.take {ρ : Map} : ∀ {vs : List V} {us : List Value} (n : Nat), VRL ρ vs us → VRL ρ (vs.take n) (us.take n)
  | _, _, 0, _ => by simp; exact .nil
  | _, _, _ + 1, .nil => by simp; exact .nil
  | _, _, n + 1, .cons _ _ _ _ h hs => .cons _ _ _ _ h (hs.take n)
theorem VRL.drop {ρ : Map} : ∀ {vs : List V} {us : List Value} (n : Nat), VRL ρ vs us → VRL ρ (vs.drop n) (us.drop n)
  | _, _, 0, h => h
  | _, _, _ + 1, .nil => by simp; exact .nil
  | _, _, n + 1, .cons _ _ _ _ _ hs => hs.drop n
theorem VRL.replicate {ρ : Map} (n : Nat) {v : V} {u : Value} (h : VR ρ v u) : VRL ρ (List.replicate n v) (List.replicate n u) := by
  induction n with
  | zero => exact .nil
  | succ n ih => exact .cons _ _ _ _ h ih
theorem VRL.set {ρ : Map} : ∀ {vs : List V} {us : List Value} (i : Nat) {v : V} {u : Value}, VRL ρ vs us → VR ρ v u → VRL ρ (vs.set i v) (us.set i u)
  | _, _, _, _, _, .nil, _ => .nil
  | _, _, 0, _, _, .cons _ _ _ _ _ hs, hv => .cons _ _ _ _ hv hs
  | _, _, i + 1, _, _, .cons _ _ _ _ h hs, hv => .cons _ _ _ _ h (hs.set i hv)

/-- A list of temporaries. -/
def SR (ρ : Map) (st : St) (tmps : Array Value) : Prop := VRL ρ st tmps.toList

theorem SR.mono {ρ ρ' : Map} (hle : Map.le ρ ρ') {st : St} {tmps : Array Value} (h : SR ρ st tmps) : SR ρ' st tmps := VRL.mono hle h

theorem SR.put {ρ : Map} {st : St} {a : Act} (h : SR ρ st a.tmps) (dst : Option Tmp) {v : V} {u : Value} (hv : VR ρ v u) : SR ρ (putT st dst v) (a.put dst u).tmps := by
  cases dst with
  | none => exact h
  | some d => simpa [SR, putT, Act.put] using VRL.set d h hv

theorem put_defers (a : Act) (dst : Option Tmp) (u : Value) : (a.put dst u).defers = a.defers := by cases dst <;> rfl

theorem VR.weaken {ρ : Map} {v : V} {u : Value} (_h : VR ρ v u) : VR ρ .undef u := .undef u

theorem SR.mask {ρ : Map} : ∀ {vs : List V} {us : List Value} (m : List Bool), VRL ρ vs us → VRL ρ (maskL m vs) us
  | _, _, [], h => by cases h <;> (try unfold maskL) <;> (first | exact .nil | (exact .cons _ _ _ _ (by assumption) (by assumption)))
  | _, _, _ :: _, .nil => .nil
  | _, _, b :: m, .cons v u vs us h hs => by
    unfold maskL
    refine .cons _ _ _ _ ?_ (SR.mask m hs)
    cases b
    · exact .undef u
    · exact h

/-! ### Constants and operands -/

theorem constL_rel (ρ : Map) : ∀ {x : Value} {v : V}, constL x = some v → VR ρ v x := by
  intro x v h
  unfold constL at h
  split at h <;> first | (cases h; constructor; done) | (cases h)

theorem constLs_rel (ρ : Map) : ∀ {xs : List Value} {vs : List V}, constLs xs = some vs → VRL ρ vs xs
  | [], vs, h => by simp [constLs] at h; subst h; exact .nil
  | x :: xs, vs, h => by
    unfold constLs at h
    split at h
    · rename_i v vs' h1 h2
      cases h
      exact .cons _ _ _ _ (constL_rel ρ h1) (constLs_rel ρ h2)
    · cases h

theorem constV_rel (ρ : Map) {x : Value} {v : V} (h : constV x = some v) : VR ρ v x := by
  unfold constV at h
  split at h
  · rename_i cs
    cases hc : constLs cs.toList with
    | none => rw [hc] at h; cases h
    | some vs =>
      rw [hc] at h; cases h
      have := VR.agg vs cs.toList (constLs_rel ρ hc)
      simpa using this
  · exact constL_rel ρ h

theorem ev_rel {ρ : Map} {st : St} {a : Act} (h : SR ρ st a.tmps) {x : Operand} {v : V} (hx : ev st x = some v) : VR ρ v (a.eval x) := by
  cases x with
  | tmp t =>
    obtain ⟨u, hu, hv⟩ := h.get (i := t) (v := v) hx
    have : a.tmps.getD t Go.undef = u := by
      have h1 : a.tmps[t]? = some u := by simpa using hu
      simp [Array.getD_eq_getD_getElem?, h1]
    simpa [Act.eval, this] using hv
  | const c => exact constV_rel ρ hx
  | func f => simp [ev] at hx; subst hx; exact VR.fn f [] [] .nil
  | global g => simp [ev] at hx

theorem evs_rel {ρ : Map} {st : St} {a : Act} (h : SR ρ st a.tmps) : ∀ {xs : List Operand} {vs : List V}, evs st xs = some vs → VRL ρ vs (xs.map a.eval)
  | [], vs, hx => by simp [evs] at hx; subst hx; exact .nil
  | x :: xs, vs, hx => by
    unfold evs at hx
    split at hx
    · rename_i v vs' h1 h2
      cases hx
      exact .cons _ _ _ _ (ev_rel h h1) (evs_rel h h2)
    · cases hx

end Go.Vm
