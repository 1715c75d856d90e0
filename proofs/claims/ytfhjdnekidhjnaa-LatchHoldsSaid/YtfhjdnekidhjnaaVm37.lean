/-
  Arguments: values of flat types (numbers, texts, booleans, structs and arrays of such), and slices of such.
-/
import GoSem.ClaimJoined
import Derived.Test.YtfhjdnekidhjnaaVm36
import Derived.ChangeArms
import Derived.ChangeSlices
set_option linter.unusedVariables false
set_option linter.unusedSimpArgs false
namespace Go.Vm

def LeafOK : Leaf → V → Prop
  | .int k, .int k' n => k' = k ∧ (Lit.int k n).wf = true
  | .bool, .bool _ => True
  | .str, .str s => s.size ≤ maxLen
  | _, _ => False

def Typed : List Leaf → List V → Prop
  | [], [] => True
  | l :: ls, v :: vs => LeafOK l v ∧ Typed ls vs
  | _, _ => False

theorem Typed.append : ∀ {ls ls' : List Leaf} {vs vs' : List V}, Typed ls vs → Typed ls' vs' → Typed (ls ++ ls') (vs ++ vs')
  | [], _, [], _, _, h => h
  | _ :: _, _, _ :: _, _, h, h' => ⟨h.1, h.2.append h'⟩
  | [], _, _ :: _, _, h, _ => h.elim
  | _ :: _, _, [], _, h, _ => h.elim

def contigB (P : Program) (p : TypeId → Bool) : Nat → List Field → Nat → Bool
  | off, [], n => off == n
  | off, f :: fs, n => f.offset == off && p f.type && contigB P p (off + esOf P f.type) fs n

def flatB (P : Program) : Nat → TypeId → Bool
  | 0, _ => false
  | d + 1, t => match P.underlying t with
    | some (.int _) => esOf P t == 1
    | some .bool => esOf P t == 1
    | some .string => esOf P t == 1
    | some (.struct fs) => contigB P (flatB P d) 0 fs.toList (esOf P t)
    | some (.array n e) => flatB P d e && n * esOf P e == esOf P t
    | _ => false

theorem cellsOf_es (P : Program) (t : TypeId) : P.cellsOf t = esOf P t := rfl

section
variable {Hd : Type} {enc : TypeId × Value → Hd} {P : Program} {w : World} {base : Nat} {sp : Nat → Bool} {held : Bool}

theorem trod_array {n : Nat} {e t : TypeId} {fuel : Nat} {cs : List Value} {x : DataW Hd × List MemPlace} (ht : P.underlying t = some (.array n e)) (h : DataW.trod enc P w base sp held fuel t cs = some x) :
    ∃ (m : Nat), fuel = m + 1 ∧ cs.length = P.cellsOf t ∧ ∀ i, i < n → ∃ y, DataW.trod enc P w base sp held m e ((cs.drop (i * P.cellsOf e)).take (P.cellsOf e)) = some y := by
  cases fuel with
  | zero => simp [DataW.trod] at h
  | succ m =>
    unfold DataW.trod at h
    rw [ht] at h
    split at h <;> simp_all
    obtain ⟨hl, xs, hp, hd⟩ := h
    intro i hi
    have hlen := mapM_some_length hp
    simp at hlen
    have := mapM_some_get hp i i (by simp [hi])
    have hx : xs[i]? = some (xs[i]'(by omega)) := List.getElem?_eq_getElem (by omega)
    rw [hx] at this
    exact ⟨_, _, this⟩

theorem split_at {α : Type} (cs : List α) (off n : Nat) : cs.drop off = (cs.drop off).take n ++ cs.drop (off + n) := by
  rw [← List.drop_drop, List.take_append_drop]

/-- What is read of a flat type. -/
theorem trod_flat : ∀ (d : Nat) {t : TypeId} {fuel : Nat} {cs : List Value} {x : DataW Hd × List MemPlace}, flatB P d t = true → DataW.trod enc P w base sp held fuel t cs = some x →
    cs.length = esOf P t ∧ ∃ vs, Typed (leaves P d t) vs ∧ ∀ ρ, VRL ρ vs cs := by
  intro d
  induction d with
  | zero => intro t fuel cs x hf; simp [flatB] at hf
  | succ d ih =>
    intro t fuel cs x hf h
    unfold flatB at hf
    unfold leaves
    split at hf
    · rename_i k ht
      obtain ⟨n, rfl, _, hw⟩ := DataW.trod_int ht h
      simp only [ht]
      exact ⟨by simp at hf; simp [hf], [.int k n], ⟨⟨rfl, hw⟩, trivial⟩, fun ρ => .cons _ _ _ _ (.int _ _) .nil⟩
    · rename_i ht
      obtain ⟨b, rfl, _⟩ := DataW.trod_bool ht h
      simp only [ht]
      exact ⟨by simp at hf; simp [hf], [.bool b], ⟨trivial, trivial⟩, fun ρ => .cons _ _ _ _ (.bool _) .nil⟩
    · rename_i ht
      obtain ⟨s, rfl, _, hs⟩ := DataW.trod_string ht h
      simp only [ht]
      exact ⟨by simp at hf; simp [hf], [.str s], ⟨hs, trivial⟩, fun ρ => .cons _ _ _ _ (.str _) .nil⟩
    · rename_i fs ht
      obtain ⟨xs, n, rfl, _, hl, hlen, hel⟩ := DataW.trod_struct ht h
      simp only [ht]
      refine ⟨hl, ?_⟩
      have key : ∀ (fl : List Field) (off : Nat) (i : Nat), (∀ j f, fl[j]? = some f → fs[i + j]? = some f) → off ≤ cs.length → contigB P (flatB P d) off fl (esOf P t) = true →
          ∃ vs, Typed (fl.flatMap fun f => leaves P d f.type) vs ∧ ∀ ρ, VRL ρ vs (cs.drop off) := by
        intro fl
        induction fl with
        | nil =>
          intro off i _ _ hc
          simp only [contigB, beq_iff_eq] at hc
          refine ⟨[], trivial, fun ρ => ?_⟩
          rw [List.drop_eq_nil_of_le (by rw [hl]; exact Nat.le_of_eq hc.symm)]
          exact .nil
        | cons f fl ihf =>
          intro off i hget hoff hc
          simp only [contigB, Bool.and_eq_true, beq_iff_eq] at hc
          obtain ⟨⟨h1, h2⟩, h3⟩ := hc
          have hf0 := hget 0 f rfl
          have hi : i < xs.length := by rw [hlen]; exact (Array.getElem?_eq_some_iff.1 hf0).1
          have hr := hel i f hf0
          rw [List.getElem?_eq_getElem hi, h1] at hr
          obtain ⟨k1, vs1, k2, k3⟩ := ih h2 hr
          rw [cellsOf_es] at k1
          have hsz : off + esOf P f.type ≤ cs.length := by
            simp only [List.length_take, List.length_drop] at k1
            omega
          obtain ⟨vs2, k4, k5⟩ := ihf (off + esOf P f.type) (i + 1) (fun j g hj => by have := hget (j + 1) g hj; rw [show i + 1 + j = i + (j + 1) by omega]; exact this) hsz h3
          refine ⟨vs1 ++ vs2, by rw [List.flatMap_cons]; exact k2.append k4, fun ρ => ?_⟩
          rw [split_at cs off (esOf P f.type)]
          exact (k3 ρ).append (k5 ρ)
      obtain ⟨vs, k1, k2⟩ := key fs.toList 0 0 (fun j f hj => by simpa using hj) (Nat.zero_le _) hf
      exact ⟨vs, k1, by simpa using k2⟩
    · rename_i n e ht
      obtain ⟨m, rfl, hl, hel⟩ := trod_array ht h
      simp only [ht]
      refine ⟨hl, ?_⟩
      simp only [Bool.and_eq_true, beq_iff_eq] at hf
      have key : ∀ (j : Nat), j ≤ n → ∃ vs, Typed (List.replicate j (leaves P d e)).flatten vs ∧ ∀ ρ, VRL ρ vs (cs.drop ((n - j) * esOf P e)) := by
        intro j
        induction j with
        | zero =>
          intro _
          refine ⟨[], trivial, fun ρ => ?_⟩
          rw [List.drop_eq_nil_of_le (by rw [hl, cellsOf_es, ← hf.2]; simp)]
          exact .nil
        | succ j ihj =>
          intro hj
          obtain ⟨vs2, k4, k5⟩ := ihj (by omega)
          obtain ⟨y, hy⟩ := hel (n - (j + 1)) (by omega)
          obtain ⟨k1, vs1, k2, k3⟩ := ih hf.1 hy
          rw [cellsOf_es] at k3
          refine ⟨vs1 ++ vs2, by rw [List.replicate_succ, List.flatten_cons]; exact k2.append k4, fun ρ => ?_⟩
          rw [split_at cs ((n - (j + 1)) * esOf P e) (esOf P e)]
          have e1 : (n - (j + 1)) * esOf P e + esOf P e = (n - j) * esOf P e := by
            rw [← Nat.succ_mul]; congr 1; omega
          rw [e1]
          exact (k3 ρ).append (k5 ρ)
      obtain ⟨vs, k1, k2⟩ := key n (Nat.le_refl _)
      exact ⟨vs, k1, by simpa using k2⟩
    · cases hf

/-- A slice of a flat type: nothing, or rows of cells. -/
def ArgSl (ls : List Leaf) (es : Nat) (w : World) (u : Value) (rows : List (List V)) : Prop :=
  (u = .slice none 0 0 ∧ rows = []) ∨
  ∃ (x : Addr) (cap : Nat), es < 8589934592 ∧ u = .slice (some x) rows.length cap ∧ rows.length ≤ cap ∧ (cap ≤ maxLen ∧ rows.length ≤ 140737488355328) ∧ (∀ r ∈ rows, r.length = es ∧ Typed ls r) ∧
    (cap = 0 ∨ ∃ C ty fz, x.spot = none ∧ w.heap[x.block]? = some (.cells C ty fz) ∧ ∀ i v, rows.flatten[i]? = some v → ∃ c, C[x.off + i]? = some c ∧ ∀ ρ, VR ρ v c)

theorem cell_add {w : World} {x : Addr} {i : Nat} {C : Array Value} {ty : TypeId} {fz : Nat × Nat} (hs : x.spot = none) (hC : w.heap[x.block]? = some (.cells C ty fz)) : w.cell? (x.add i) = C[x.off + i]? := by
  unfold World.cell? Addr.add
  by_cases hi : i = 0
  · subst hi; simp [hC, hs]
  · simp [hi, hC]

theorem flatten_get {es : Nat} : ∀ {rows : List (List V)}, (∀ r ∈ rows, r.length = es) → ∀ {k : Nat} {v : V}, rows.flatten[k]? = some v → ∃ i j r, k = i * es + j ∧ j < es ∧ rows[i]? = some r ∧ r[j]? = some v
  | [], _, k, v, h => by simp at h
  | r :: rows, hr, k, v, h => by
    have hl := hr r (by simp)
    rw [List.flatten_cons] at h
    by_cases hk : k < r.length
    · rw [List.getElem?_append_left hk] at h
      exact ⟨0, k, r, by simp, by omega, rfl, h⟩
    · rw [List.getElem?_append_right (by omega)] at h
      obtain ⟨i, j, r', h1, h2, h3, h4⟩ := flatten_get (fun r' hr' => hr r' (by simp [hr'])) h
      refine ⟨i + 1, j, r', ?_, h2, by simpa using h3, h4⟩
      rw [Nat.succ_mul]
      omega

theorem wt_len {t e : TypeId} (ht : P.underlying t = some (.slice e)) {es rs : List (DataW Hd)} (hw : ∀ m ∈ (DataW.slice es rs).weights P t, m ≤ reachBytes) (hb : 0 < P.bytesOf e) : es.length ≤ 140737488355328 := by
  have h1 := hw ((es.length + rs.length) * P.bytesOf e) (by simp [DataW.weights, ht])
  have h2 : es.length + rs.length ≤ (es.length + rs.length) * P.bytesOf e := Nat.le_mul_of_pos_right _ hb
  have h3 : reachBytes ≤ 140737488355328 := by decide
  omega

theorem wt_each {ts : List TypeId} {ds : List (DataW Hd)} {i : Nat} {t : TypeId} {d : DataW Hd} (h1 : ts[i]? = some t) (h2 : ds[i]? = some d) {m : Nat} (hm : m ∈ d.weights P t) : m ∈ DataW.weightsEach P ts ds := by
  induction ts generalizing ds i with
  | nil => simp at h1
  | cons t0 ts ih =>
    cases ds with
    | nil => simp at h2
    | cons d0 ds =>
      simp only [DataW.weightsEach]
      cases i with
      | zero =>
        simp at h1 h2
        subst h1 h2
        exact List.mem_append_left _ hm
      | succ i => exact List.mem_append_right _ (ih (by simpa using h1) (by simpa using h2))

theorem wt_all {e : TypeId} {ds : List (DataW Hd)} {i : Nat} {d : DataW Hd} (h2 : ds[i]? = some d) {m : Nat} (hm : m ∈ d.weights P e) : m ∈ DataW.weightsAll P e ds := by
  induction ds generalizing i with
  | nil => simp at h2
  | cons d0 ds ih =>
    simp only [DataW.weightsAll]
    cases i with
    | zero =>
      simp at h2
      subst h2
      exact List.mem_append_left _ hm
    | succ i => exact List.mem_append_right _ (ih (by simpa using h2))

theorem wE_head {t : TypeId} {ts : List TypeId} {d : DataW Hd} {r : List (DataW Hd)} (h : (DataW.weightsEach P (t :: ts) (d :: r)).all (· ≤ reachBytes) = true) : (∀ m ∈ d.weights P t, m ≤ reachBytes) ∧ (DataW.weightsEach P ts r).all (· ≤ reachBytes) = true := by
  simp only [DataW.weightsEach, List.all_append, Bool.and_eq_true, List.all_eq_true, decide_eq_true_eq] at h
  exact ⟨h.1, by simpa using h.2⟩

theorem argSl_of {t e : TypeId} {d : Nat} (ht : P.underlying t = some (.slice e)) (hf : flatB P d e = true) (hps : 0 < esOf P e ∧ esOf P e < 8589934592) {fuel : Nat} {u : Value} {x : DataW Hd × List MemPlace} (hw : ∀ m ∈ x.1.weights P t, m ≤ reachBytes) (hbo : 0 < P.bytesOf e) (h : DataW.trod enc P w base (fun _ => true) held fuel t [u] = some x) :
    ∃ rows, ArgSl (leaves P d e) (esOf P e) w u rows := by
  have hpos := hps.1
  rcases DataW.trod_slice ht h with ⟨h0, _⟩ | ⟨a, len, cap, elems, rest, n, _, h0, rfl, hb, hl, hm, hlen, hel, hsp, _⟩
  · cases h0
    exact ⟨[], .inl ⟨rfl, rfl⟩⟩
  · cases h0
    obtain ⟨hrl, hr⟩ := hsp rfl
    -- each element up to the capacity
    have each : ∀ i, i < cap → ∃ cs vs, w.cells? base (a.add (i * P.cellsOf e)) (P.cellsOf e) = some cs ∧ cs.length = esOf P e ∧ Typed (leaves P d e) vs ∧ ∀ ρ, VRL ρ vs cs := by
      intro i hi
      have hex : ∃ y, (w.cells? base (a.add (i * P.cellsOf e)) (P.cellsOf e)).bind (DataW.trod enc P w base (fun _ => true) held n e) = some y := by
        by_cases hil : i < len
        · rw [hel i hil, List.getElem?_eq_getElem (by omega)]; exact ⟨_, rfl⟩
        · have := hr (i - len) (by omega)
          rw [show len + (i - len) = i by omega] at this
          rw [this, List.getElem?_eq_getElem (by omega)]; exact ⟨_, rfl⟩
      obtain ⟨y, hy⟩ := hex
      obtain ⟨cs, h1, h2⟩ := Option.bind_eq_some_iff.1 hy
      obtain ⟨h3, vs, h4, h5⟩ := trod_flat d hf h2
      exact ⟨cs, vs, h1, h3, h4, h5⟩
    by_cases hc0 : cap = 0
    · subst hc0
      obtain rfl : len = 0 := by omega
      exact ⟨[], .inr ⟨a, 0, hps.2, rfl, Nat.le_refl _, ⟨hm, Nat.zero_le _⟩, by simp, .inl rfl⟩⟩
    -- the block
    obtain ⟨cs0, vs0, g1, g2, g3, g4⟩ := each 0 (by omega)
    obtain ⟨_, hl0, hc⟩ := World.cells?_some g1
    have hcell := hc 0 hpos
    have ha0 : (a.add (0 * P.cellsOf e)).add 0 = a := by simp [Addr.add]
    rw [ha0, List.getElem?_eq_getElem (by omega)] at hcell
    have hblk : ∃ C ty fz, a.spot = none ∧ w.heap[a.block]? = some (.cells C ty fz) := by
      unfold World.cell? at hcell
      split at hcell
      · rename_i C ty fz hC
        split at hcell
        · cases hcell
        · rename_i hs; exact ⟨C, ty, fz, by simpa using hs, hC⟩
      · cases hcell
    obtain ⟨C, ty, fz, hs, hC⟩ := hblk
    -- the rows
    have hrows : ∃ rows : List (List V), rows.length = len ∧ (∀ r ∈ rows, r.length = esOf P e ∧ Typed (leaves P d e) r) ∧ ∀ i r, rows[i]? = some r → ∀ j v, r[j]? = some v → ∃ c, C[a.off + (i * esOf P e + j)]? = some c ∧ ∀ ρ, VR ρ v c := by
      have : ∀ m, m ≤ len → ∃ rows : List (List V), rows.length = m ∧ (∀ r ∈ rows, r.length = esOf P e ∧ Typed (leaves P d e) r) ∧ ∀ i r, rows[i]? = some r → ∀ j v, r[j]? = some v → ∃ c, C[a.off + (i * esOf P e + j)]? = some c ∧ ∀ ρ, VR ρ v c := by
        intro m
        induction m with
        | zero => intro _; exact ⟨[], rfl, by simp, by simp⟩
        | succ m ihm =>
          intro hm'
          obtain ⟨rows, r1, r2, r3⟩ := ihm (by omega)
          obtain ⟨cs, vs, q1, q2, q3, q4⟩ := each m (by omega)
          have hvl : vs.length = esOf P e := by have := (q4 fun _ => none).length; omega
          refine ⟨rows ++ [vs], by simp [r1], ?_, ?_⟩
          · intro r hr
            rcases List.mem_append.1 hr with hr | hr
            · exact r2 r hr
            · rw [List.mem_singleton.1 hr]; exact ⟨hvl, q3⟩
          · intro i r hi j v hj
            by_cases him : i < rows.length
            · rw [List.getElem?_append_left him] at hi
              exact r3 i r hi j v hj
            · rw [List.getElem?_append_right (by omega)] at hi
              have : i - rows.length = 0 := by
                have := (List.getElem?_eq_some_iff.1 hi).1
                simp at this; omega
              rw [this] at hi
              simp at hi
              subst hi
              have hie : i = m := by omega
              subst hie
              have hjl : j < esOf P e := by have := (List.getElem?_eq_some_iff.1 hj).1; omega
              obtain ⟨c, hc1, _⟩ := (q4 fun _ => none).get hj
              have := (World.cells?_some q1).2.2 j hjl
              rw [hc1] at this
              have e1 : (a.add (i * P.cellsOf e)).add j = a.add (i * esOf P e + j) := by
                unfold Addr.add
                rw [cellsOf_es]
                by_cases h1 : i * esOf P e = 0
                · simp [h1]
                · by_cases h2 : j = 0
                  · simp [h1, h2]
                  · simp [h1, h2, Nat.add_assoc]
              rw [e1, cell_add hs hC] at this
              refine ⟨c, this, fun ρ => ?_⟩
              obtain ⟨c', hc', hv'⟩ := (q4 ρ).get hj
              rw [hc1] at hc'
              cases hc'
              exact hv'
      exact this len (Nat.le_refl _)
    obtain ⟨rows, r1, r2, r3⟩ := hrows
    have hbd := wt_len ht hw hbo
    rw [List.length_map] at hbd
    refine ⟨rows, .inr ⟨a, cap, hps.2, by rw [r1], by omega, ⟨hm, by omega⟩, r2, .inr ⟨C, ty, fz, hs, hC, fun k v hk => ?_⟩⟩⟩
    obtain ⟨i, j, r, e1, e2, e3, e4⟩ := flatten_get (fun r hr => (r2 r hr).1) hk
    rw [e1]
    exact r3 i r e3 j v e4

end

def NoOwn (H : Heap) : Prop := ∀ i, ¬ Owned H i

theorem NoOwn.snoc {H : Heap} (h : NoOwn H) {k : Blk} (hk : ∀ cs, k ≠ .cells true cs) (hl : ∀ r, k ≠ .loop r) : NoOwn (H ++ [k]) := by
  rintro i (⟨cs, hi⟩ | ⟨r, hi⟩)
  · rcases snoc_get hi with hi | ⟨_, hi⟩
    · exact h i (.inl ⟨_, hi⟩)
    · exact hk _ hi.symm
  · rcases snoc_get hi with hi | ⟨_, hi⟩
    · exact h i (.inr ⟨_, hi⟩)
    · exact hl _ hi.symm

/-- One more argument. -/
theorem rel_arg {ρ : Map} {H : Heap} {w : World} {ls : List Leaf} {es : Nat} {u : Value} {rows : List (List V)} (h : ArgSl ls es w u rows) (hr : Rel ρ H w) (hn : NoOwn H) :
    (rows = [] ∧ VR ρ (.sl es none 0) u) ∨
    (rows = [] ∧ ∃ ρ', Map.le ρ ρ' ∧ Rel ρ' (H ++ [.void]) w ∧ NoOwn (H ++ [.void]) ∧ VR ρ' (.sl es (some (H.length, 0)) 0) u) ∨
    ((∀ r ∈ rows, Typed ls r) ∧ ∃ ρ', Map.le ρ ρ' ∧ Rel ρ' (H ++ [.cells false rows.flatten]) w ∧ NoOwn (H ++ [.cells false rows.flatten]) ∧ VR ρ' (.sl es (some (H.length, 0)) rows.length) u) := by
  have noinj : ∀ (k : Blk), NoOwn (H ++ [k]) → ∀ (L : Loc), BlkR (ρ.put H.length L) w H.length k → Rel (ρ.put H.length L) (H ++ [k]) w := by
    intro k hno L hx
    have hle := Map.put_le hr.dom L
    refine ⟨?_, ?_, fun b _ _ _ ho => absurd ho (hno b)⟩
    · intro b L' hb
      unfold Map.put at hb
      split at hb
      · simp; omega
      · have := hr.dom b L' hb; simp; omega
    · intro b q hb
      rcases snoc_get hb with hb | ⟨rfl, rfl⟩
      · exact (hr.blk b q hb).mono hle
      · exact hx
  rcases h with ⟨rfl, rfl⟩ | ⟨x, cap, hsm, rfl, hl, hm, hrow, hc⟩
  · exact .inl ⟨rfl, .slN es⟩
  · right
    by_cases h0 : cap = 0
    · subst h0
      obtain rfl : rows = [] := List.eq_nil_of_length_eq_zero (by omega)
      have hno : NoOwn (H ++ [.void]) := hn.snoc (by simp) (by simp)
      refine .inl ⟨rfl, ρ.put H.length ⟨0, 0, 0, .void⟩, Map.put_le hr.dom _, noinj _ hno _ ⟨_, Map.put_at _ _ _, rfl⟩, hno, ?_⟩
      exact .sl es H.length 0 0 0 x ⟨0, 0, 0, .void⟩ (Map.put_at _ _ _) (Nat.le_refl _) (.inl rfl) (fun h => by cases h) (fun _ => rfl) (by simp) (fun hb => absurd hb (by omega))
    · obtain ⟨C, ty, fz, hs, hC, hcell⟩ := hc.resolve_left h0
      have hno : NoOwn (H ++ [.cells false rows.flatten]) := hn.snoc (by simp) (by simp)
      refine .inr ⟨fun r hr => (hrow r hr).2, ρ.put H.length ⟨x.block, x.off, 0, .ro⟩, Map.put_le hr.dom _, noinj _ hno _ ?_, hno, ?_⟩
      · refine ⟨_, C, ty, fz, Map.put_at _ _ _, rfl, hC, fun i v hi => ?_, fun h => by cases h⟩
        obtain ⟨c, h1, h2⟩ := hcell i v hi
        exact ⟨c, h1, h2 _⟩
      · refine .sl es H.length 0 rows.length cap x ⟨x.block, x.off, 0, .ro⟩ (Map.put_at _ _ _) hl (.inr ?_) (fun h => by cases h) (fun h => by cases h) (by simp) (fun hb => absurd hb (by omega))
        cases x
        simp at hs
        subst hs
        rfl

end Go.Vm
