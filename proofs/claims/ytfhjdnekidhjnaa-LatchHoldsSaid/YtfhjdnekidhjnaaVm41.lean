/-
  Arguments that are slices of values which hold slices of flat types.
-/
import Derived.Test.YtfhjdnekidhjnaaVm40
set_option linter.unusedVariables false
set_option linter.unusedSimpArgs false
namespace Go.Vm

/-- What stands in a cell: something flat, or a slice of something flat. -/
inductive NL where
  | fl (l : Leaf)
  | sl (ls : List Leaf) (es : Nat)

def leavesN (P : Program) : Nat → TypeId → List NL
  | 0, _ => []
  | d + 1, t => match P.underlying t with
    | some (.slice e) => [.sl (leaves P d e) (esOf P e)]
    | some (.struct fs) => fs.toList.flatMap fun f => leavesN P d f.type
    | some (.array n e) => (List.replicate n (leavesN P d e)).flatten
    | _ => (leaves P 1 t).map .fl

def deepB (P : Program) : Nat → TypeId → Bool
  | 0, _ => false
  | d + 1, t => match P.underlying t with
    | some (.int _) => esOf P t == 1
    | some .bool => esOf P t == 1
    | some .string => esOf P t == 1
    | some (.slice e) => flatB P d e && decide (0 < esOf P e) && decide (esOf P e < 8589934592) && esOf P t == 1 && decide (0 < P.bytesOf e)
    | some (.struct fs) => contigB P (deepB P d) 0 fs.toList (esOf P t)
    | some (.array n e) => deepB P d e && n * esOf P e == esOf P t
    | _ => false

/-- Cells of the model, as they are told. -/
def CellsN (w : World) : List NL → List Value → Prop
  | [], [] => True
  | .fl l :: ls, u :: us => (∃ v, LeafOK l v ∧ ∀ ρ, VR ρ v u) ∧ CellsN w ls us
  | .sl l es :: ls, u :: us => (∃ rows, ArgSl l es w u rows) ∧ CellsN w ls us
  | _, _ => False

theorem CellsN.append {w : World} : ∀ {ls ls' : List NL} {us us' : List Value}, CellsN w ls us → CellsN w ls' us' → CellsN w (ls ++ ls') (us ++ us')
  | [], _, [], _, _, h => h
  | .fl _ :: _, _, _ :: _, _, h, h' => ⟨h.1, h.2.append h'⟩
  | .sl _ _ :: _, _, _ :: _, _, h, h' => ⟨h.1, h.2.append h'⟩
  | [], _, _ :: _, _, h, _ => h.elim
  | .fl _ :: _, _, [], _, h, _ => h.elim
  | .sl _ _ :: _, _, [], _, h, _ => h.elim

/-- Cells of the small machine, over a heap. -/
def TypedN (G : Heap) : List NL → List V → Prop
  | [], [] => True
  | .fl l :: ls, v :: vs => LeafOK l v ∧ TypedN G ls vs
  | .sl l es :: ls, v :: vs => (v = .sl es none 0 ∨ (∃ b, v = .sl es (some (b, 0)) 0 ∧ G[b]? = some .void) ∨
      ∃ (b : Nat) (rows : List (List V)), v = .sl es (some (b, 0)) rows.length ∧ G[b]? = some (.cells false rows.flatten) ∧ ∀ r ∈ rows, Typed l r) ∧ TypedN G ls vs
  | _, _ => False

theorem TypedN.mono {G : Heap} (bs : List Blk) : ∀ {ls : List NL} {vs : List V}, TypedN G ls vs → TypedN (G ++ bs) ls vs
  | [], [], _ => trivial
  | .fl _ :: _, _ :: _, h => ⟨h.1, TypedN.mono bs h.2⟩
  | .sl _ _ :: _, _ :: _, h => by
    refine ⟨?_, TypedN.mono bs h.2⟩
    have old : ∀ {b : Nat} {k : Blk}, G[b]? = some k → (G ++ bs)[b]? = some k := fun hb => by
      rw [List.getElem?_append_left (List.getElem?_eq_some_iff.1 hb).1]; exact hb
    rcases h.1 with h1 | ⟨b, h1, h2⟩ | ⟨b, rows, h1, h2, h3⟩
    · exact .inl h1
    · exact .inr (.inl ⟨b, h1, old h2⟩)
    · exact .inr (.inr ⟨b, rows, h1, old h2, h3⟩)
  | [], _ :: _, h => h.elim
  | .fl _ :: _, [], h => h.elim
  | .sl _ _ :: _, [], h => h.elim

section
variable {Hd : Type} {enc : TypeId × Value → Hd} {P : Program} {w : World} {base : Nat} {held : Bool}

theorem cellsN_flat {d : Nat} {t : TypeId} {fuel : Nat} {cs : List Value} {x : DataW Hd × List MemPlace} (hf : flatB P 1 t = true) (h : DataW.trod enc P w base (fun _ => true) held fuel t cs = some x) :
    cs.length = esOf P t ∧ CellsN w ((leaves P 1 t).map .fl) cs := by
  obtain ⟨h1, vs, h2, h3⟩ := trod_flat 1 hf h
  refine ⟨h1, ?_⟩
  have key : ∀ (ls : List Leaf) (vs : List V) (cs : List Value), Typed ls vs → (∀ ρ, VRL ρ vs cs) → CellsN w (ls.map .fl) cs := by
    intro ls
    induction ls with
    | nil => intro vs cs ht hv; cases vs with
      | nil => have := hv (fun _ => none); cases this; exact trivial
      | cons v vs => exact ht.elim
    | cons l ls ih => intro vs cs ht hv; cases vs with
      | nil => exact ht.elim
      | cons v vs =>
        have h0 := hv (fun _ => none)
        cases h0 with
        | cons _ u _ us hu hus =>
          refine ⟨⟨v, ht.1, fun ρ => ?_⟩, ih vs us ht.2 fun ρ => ?_⟩
          · have := hv ρ; cases this; assumption
          · have := hv ρ; cases this; assumption
  exact key _ _ _ h2 h3

theorem trod_arrayW {n : Nat} {e t : TypeId} {fuel : Nat} {cs : List Value} {x : DataW Hd × List MemPlace} (ht : P.underlying t = some (.array n e)) (h : DataW.trod enc P w base (fun _ => true) held fuel t cs = some x) :
    ∃ (m : Nat) (xs : List (DataW Hd × List MemPlace)), fuel = m + 1 ∧ x = (.agg (xs.map (·.1)), xs.flatMap (·.2)) ∧ cs.length = P.cellsOf t ∧ ∀ i, i < n → ∃ y, DataW.trod enc P w base (fun _ => true) held m e ((cs.drop (i * P.cellsOf e)).take (P.cellsOf e)) = some y ∧ (xs.map (·.1))[i]? = some y.1 := by
  cases fuel with
  | zero => simp [DataW.trod] at h
  | succ m =>
    unfold DataW.trod at h
    rw [ht] at h
    split at h <;> simp_all
    obtain ⟨hl, xs, hp, hd⟩ := h
    refine ⟨xs, hd.symm, fun i hi => ?_⟩
    have hlen := mapM_some_length hp
    simp at hlen
    have := mapM_some_get hp i i (by simp [hi])
    have hx : xs[i]? = some (xs[i]'(by omega)) := List.getElem?_eq_getElem (by omega)
    rw [hx] at this
    exact ⟨_, ⟨_, this⟩, _, hx⟩

/-- What is read of a type that holds slices of flat types. -/
theorem trod_deep : ∀ (d : Nat) {t : TypeId} {fuel : Nat} {cs : List Value} {x : DataW Hd × List MemPlace}, (∀ m ∈ x.1.weights P t, m ≤ reachBytes) → deepB P d t = true → DataW.trod enc P w base (fun _ => true) held fuel t cs = some x →
    cs.length = esOf P t ∧ CellsN w (leavesN P d t) cs := by
  intro d
  induction d with
  | zero => intro t fuel cs x hw hf; simp [deepB] at hf
  | succ d ih =>
    intro t fuel cs x hw hf h
    unfold deepB at hf
    unfold leavesN
    split at hf
    · rename_i k ht
      simp only [ht]
      exact cellsN_flat (d := d) (by unfold flatB; simp only [ht]; exact hf) h
    · rename_i ht
      simp only [ht]
      exact cellsN_flat (d := d) (by unfold flatB; simp only [ht]; exact hf) h
    · rename_i ht
      simp only [ht]
      exact cellsN_flat (d := d) (by unfold flatB; simp only [ht]; exact hf) h
    · rename_i e ht
      simp only [Bool.and_eq_true, decide_eq_true_eq, beq_iff_eq] at hf
      obtain ⟨⟨⟨⟨f1, f2⟩, f3⟩, f4⟩, f5⟩ := hf
      simp only [ht]
      have hcs : ∃ u, cs = [u] := by
        rcases DataW.trod_slice ht h with ⟨h0, _⟩ | ⟨a, len, cap, elems, rest, n, _, h0, _⟩
        · exact ⟨_, h0⟩
        · exact ⟨_, h0⟩
      obtain ⟨u, rfl⟩ := hcs
      refine ⟨by simp [f4], ?_, trivial⟩
      exact argSl_of ht f1 ⟨f2, f3⟩ hw f5 h
    · rename_i fs ht
      obtain ⟨xs, n, rfl, rfl, hl, hlen, hel⟩ := DataW.trod_struct ht h
      simp only [ht]
      refine ⟨hl, ?_⟩
      have key : ∀ (fl : List Field) (off : Nat) (i : Nat), (∀ j f, fl[j]? = some f → fs[i + j]? = some f) → off ≤ cs.length → contigB P (deepB P d) off fl (esOf P t) = true →
          CellsN w (fl.flatMap fun f => leavesN P d f.type) (cs.drop off) := by
        intro fl
        induction fl with
        | nil =>
          intro off i _ _ hc
          simp only [contigB, beq_iff_eq] at hc
          rw [List.drop_eq_nil_of_le (by rw [hl]; exact Nat.le_of_eq hc.symm)]
          exact trivial
        | cons f fl ihf =>
          intro off i hget hoff hc
          simp only [contigB, Bool.and_eq_true, beq_iff_eq] at hc
          obtain ⟨⟨h1, h2⟩, h3⟩ := hc
          have hf0 := hget 0 f rfl
          have hi : i < xs.length := by rw [hlen]; exact (Array.getElem?_eq_some_iff.1 hf0).1
          have hr := hel i f hf0
          rw [List.getElem?_eq_getElem hi, h1] at hr
          obtain ⟨k1, k2⟩ := ih (fun m hm => hw m (by
            simp only [DataW.weights, ht]
            exact wt_each (i := i) (t := f.type) (by rw [List.getElem?_map, Array.getElem?_toList, show fs[i]? = some f from hf0]; rfl) (by rw [List.getElem?_map, List.getElem?_eq_getElem hi]; rfl) hm)) h2 hr
          rw [cellsOf_es] at k1
          have hsz : off + esOf P f.type ≤ cs.length := by
            simp only [List.length_take, List.length_drop] at k1
            omega
          have k4 := ihf (off + esOf P f.type) (i + 1) (fun j g hj => by have := hget (j + 1) g hj; rw [show i + 1 + j = i + (j + 1) by omega]; exact this) hsz h3
          rw [List.flatMap_cons, split_at cs off (esOf P f.type)]
          exact CellsN.append k2 k4
      simpa using key fs.toList 0 0 (fun j f hj => by simpa using hj) (Nat.zero_le _) hf
    · rename_i n e ht
      obtain ⟨m, xs, rfl, rfl, hl, hel⟩ := trod_arrayW ht h
      simp only [ht]
      refine ⟨hl, ?_⟩
      simp only [Bool.and_eq_true, beq_iff_eq] at hf
      have key : ∀ (j : Nat), j ≤ n → CellsN w (List.replicate j (leavesN P d e)).flatten (cs.drop ((n - j) * esOf P e)) := by
        intro j
        induction j with
        | zero =>
          intro _
          rw [List.drop_eq_nil_of_le (by rw [hl, cellsOf_es, ← hf.2]; simp)]
          exact trivial
        | succ j ihj =>
          intro hj
          have k4 := ihj (by omega)
          obtain ⟨y, hy, hx⟩ := hel (n - (j + 1)) (by omega)
          obtain ⟨k1, k2⟩ := ih (fun m hm => hw m (by
            simp only [DataW.weights, ht]
            exact wt_all hx hm)) hf.1 hy
          rw [cellsOf_es] at k2
          rw [List.replicate_succ, List.flatten_cons, split_at cs ((n - (j + 1)) * esOf P e) (esOf P e)]
          have e1 : (n - (j + 1)) * esOf P e + esOf P e = (n - j) * esOf P e := by
            rw [← Nat.succ_mul]; congr 1; omega
          rw [e1]
          exact CellsN.append k2 k4
      simpa using key n (Nat.le_refl _)
    · cases hf

/-- A slice of such things. -/
def ArgSlN (nls : List NL) (es : Nat) (w : World) (u : Value) : Prop :=
  u = .slice none 0 0 ∨
  ∃ (x : Addr) (cap : Nat) (rows : List (List Value)), es < 8589934592 ∧ u = .slice (some x) rows.length cap ∧ rows.length ≤ cap ∧ (cap ≤ maxLen ∧ rows.length ≤ 140737488355328) ∧ (∀ r ∈ rows, r.length = es ∧ CellsN w nls r) ∧
    (cap = 0 ∨ ∃ C ty fz, x.spot = none ∧ w.heap[x.block]? = some (.cells C ty fz) ∧ ∀ i v, rows.flatten[i]? = some v → C[x.off + i]? = some v)

theorem flatten_get' {α : Type} {es : Nat} : ∀ {rows : List (List α)}, (∀ r ∈ rows, r.length = es) → ∀ {k : Nat} {v : α}, rows.flatten[k]? = some v → ∃ i j r, k = i * es + j ∧ j < es ∧ rows[i]? = some r ∧ r[j]? = some v
  | [], _, k, v, h => by simp at h
  | r :: rows, hr, k, v, h => by
    have hl := hr r (by simp)
    rw [List.flatten_cons] at h
    by_cases hk : k < r.length
    · rw [List.getElem?_append_left hk] at h
      exact ⟨0, k, r, by simp, by omega, rfl, h⟩
    · rw [List.getElem?_append_right (by omega)] at h
      obtain ⟨i, j, r', h1, h2, h3, h4⟩ := flatten_get' (fun r' hr' => hr r' (by simp [hr'])) h
      refine ⟨i + 1, j, r', ?_, h2, by simpa using h3, h4⟩
      rw [Nat.succ_mul]
      omega

theorem argSlN_of {t e : TypeId} {d : Nat} (ht : P.underlying t = some (.slice e)) (hf : deepB P d e = true) (hps : 0 < esOf P e ∧ esOf P e < 8589934592) {fuel : Nat} {u : Value} {x : DataW Hd × List MemPlace} (hw : ∀ m ∈ x.1.weights P t, m ≤ reachBytes) (hbo : 0 < P.bytesOf e) (h : DataW.trod enc P w base (fun _ => true) held fuel t [u] = some x) :
    ArgSlN (leavesN P d e) (esOf P e) w u := by
  have hpos := hps.1
  rcases DataW.trod_slice ht h with ⟨h0, _⟩ | ⟨a, len, cap, elems, rest, n, _, h0, rfl, hb, hl, hm, hlen, hel, hsp, _⟩
  · cases h0
    exact .inl rfl
  · cases h0
    obtain ⟨hrl, hr⟩ := hsp rfl
    have each : ∀ i, i < cap → ∃ cs, w.cells? base (a.add (i * P.cellsOf e)) (P.cellsOf e) = some cs ∧ cs.length = esOf P e ∧ CellsN w (leavesN P d e) cs := by
      intro i hi
      have hex : ∃ y, (w.cells? base (a.add (i * P.cellsOf e)) (P.cellsOf e)).bind (DataW.trod enc P w base (fun _ => true) held n e) = some y ∧ ∀ m ∈ y.1.weights P e, m ≤ reachBytes := by
        by_cases hil : i < len
        · rw [hel i hil, List.getElem?_eq_getElem (by omega)]
          refine ⟨_, rfl, fun m hm' => hw m ?_⟩
          simp only [DataW.weights, ht]
          refine List.mem_cons_of_mem _ (List.mem_append_left _ (wt_all (i := i) (by rw [List.getElem?_map, List.getElem?_eq_getElem (by omega)]; rfl) hm'))
        · have := hr (i - len) (by omega)
          rw [show len + (i - len) = i by omega] at this
          rw [this, List.getElem?_eq_getElem (by omega)]
          refine ⟨_, rfl, fun m hm' => hw m ?_⟩
          simp only [DataW.weights, ht]
          refine List.mem_cons_of_mem _ (List.mem_append_right _ (wt_all (i := i - len) (by rw [List.getElem?_map, List.getElem?_eq_getElem (by omega)]; rfl) hm'))
      obtain ⟨y, hy, hyw⟩ := hex
      obtain ⟨cs, h1, h2⟩ := Option.bind_eq_some_iff.1 hy
      obtain ⟨h3, h4⟩ := trod_deep d hyw hf h2
      exact ⟨cs, h1, h3, h4⟩
    by_cases hc0 : cap = 0
    · subst hc0
      obtain rfl : len = 0 := by omega
      exact .inr ⟨a, 0, [], hps.2, rfl, Nat.le_refl _, ⟨hm, Nat.zero_le _⟩, by simp, .inl rfl⟩
    obtain ⟨cs0, g1, g2, g3⟩ := each 0 (by omega)
    obtain ⟨_, hl0, hc⟩ := World.cells?_some g1
    have hcell := hc 0 hpos
    have ha0 : (a.add (0 * P.cellsOf e)).add 0 = a := by simp [Addr.add]
    rw [ha0, List.getElem?_eq_getElem (by omega)] at hcell
    have hblk : ∃ C ty fz, a.spot = none ∧ w.heap[a.block]? = some (.cells C ty fz) := by
      unfold World.cell? at hcell
      split at hcell
      · rename_i C ty fz hC
        split at hcell
        · cases hcell
        · rename_i hs; exact ⟨C, ty, fz, by simpa using hs, hC⟩
      · cases hcell
    obtain ⟨C, ty, fz, hs, hC⟩ := hblk
    have hrows : ∀ m, m ≤ len → ∃ rows : List (List Value), rows.length = m ∧ (∀ r ∈ rows, r.length = esOf P e ∧ CellsN w (leavesN P d e) r) ∧ ∀ i r, rows[i]? = some r → ∀ j v, r[j]? = some v → C[a.off + (i * esOf P e + j)]? = some v := by
      intro m
      induction m with
      | zero => intro _; exact ⟨[], rfl, by simp, by simp⟩
      | succ m ihm =>
        intro hm'
        obtain ⟨rows, r1, r2, r3⟩ := ihm (by omega)
        obtain ⟨cs, q1, q2, q3⟩ := each m (by omega)
        refine ⟨rows ++ [cs], by simp [r1], ?_, ?_⟩
        · intro r hr
          rcases List.mem_append.1 hr with hr | hr
          · exact r2 r hr
          · rw [List.mem_singleton.1 hr]; exact ⟨q2, q3⟩
        · intro i r hi j v hj
          by_cases him : i < rows.length
          · rw [List.getElem?_append_left him] at hi
            exact r3 i r hi j v hj
          · rw [List.getElem?_append_right (by omega)] at hi
            have : i - rows.length = 0 := by
              have := (List.getElem?_eq_some_iff.1 hi).1
              simp at this; omega
            rw [this] at hi
            simp at hi
            subst hi
            have hie : i = m := by omega
            subst hie
            have hjl : j < esOf P e := by have := (List.getElem?_eq_some_iff.1 hj).1; omega
            have := (World.cells?_some q1).2.2 j hjl
            rw [hj] at this
            have e1 : (a.add (i * P.cellsOf e)).add j = a.add (i * esOf P e + j) := by
              unfold Addr.add
              rw [cellsOf_es]
              by_cases h1 : i * esOf P e = 0
              · simp [h1]
              · by_cases h2 : j = 0
                · simp [h1, h2]
                · simp [h1, h2, Nat.add_assoc]
            rw [e1, cell_add hs hC] at this
            exact this
    obtain ⟨rows, r1, r2, r3⟩ := hrows len (Nat.le_refl _)
    have hbd := wt_len ht hw hbo
    rw [List.length_map] at hbd
    refine .inr ⟨a, cap, rows, hps.2, by rw [r1], by omega, ⟨hm, by omega⟩, r2, .inr ⟨C, ty, fz, hs, hC, fun k v hk => ?_⟩⟩
    obtain ⟨i, j, r, e1, e2, e3, e4⟩ := flatten_get' (fun r hr => (r2 r hr).1) hk
    rw [e1]
    exact r3 i r e3 j v e4

end

/-- Cells, told over a heap with more blocks. -/
theorem cells_rel {w : World} : ∀ {nls : List NL} {us : List Value} {ρ : Map} {H : Heap}, CellsN w nls us → Rel ρ H w → NoOwn H →
    ∃ (bs : List Blk) (ρ' : Map) (vs : List V), Map.le ρ ρ' ∧ Rel ρ' (H ++ bs) w ∧ NoOwn (H ++ bs) ∧ VRL ρ' vs us ∧ TypedN (H ++ bs) nls vs
  | [], [], ρ, H, _, hr, hn => ⟨[], ρ, [], Map.le_refl _, by simpa using hr, by simpa using hn, .nil, trivial⟩
  | .fl l :: ls, u :: us, ρ, H, h, hr, hn => by
    obtain ⟨⟨v, h1, h2⟩, h3⟩ := h
    obtain ⟨bs, ρ', vs, k1, k2, k3, k4, k5⟩ := cells_rel h3 hr hn
    exact ⟨bs, ρ', v :: vs, k1, k2, k3, .cons _ _ _ _ (h2 _) k4, h1, k5⟩
  | .sl l es :: ls, u :: us, ρ, H, h, hr, hn => by
    obtain ⟨⟨rows, h1⟩, h3⟩ := h
    rcases rel_arg h1 hr hn with ⟨_, hv⟩ | ⟨_, ρ1, le1, rel1, no1, hv⟩ | ⟨ht, ρ1, le1, rel1, no1, hv⟩
    · obtain ⟨bs, ρ', vs, k1, k2, k3, k4, k5⟩ := cells_rel h3 hr hn
      exact ⟨bs, ρ', _ :: vs, k1, k2, k3, .cons _ _ _ _ (hv.mono k1) k4, .inl rfl, k5⟩
    · obtain ⟨bs, ρ', vs, k1, k2, k3, k4, k5⟩ := cells_rel h3 rel1 no1
      rw [List.append_assoc] at k2 k3 k5
      exact ⟨[.void] ++ bs, ρ', _ :: vs, Map.le_trans le1 k1, k2, k3, .cons _ _ _ _ (hv.mono k1) k4, .inr (.inl ⟨H.length, rfl, by simp⟩), k5⟩
    · obtain ⟨bs, ρ', vs, k1, k2, k3, k4, k5⟩ := cells_rel h3 rel1 no1
      rw [List.append_assoc] at k2 k3 k5
      exact ⟨[.cells false rows.flatten] ++ bs, ρ', _ :: vs, Map.le_trans le1 k1, k2, k3, .cons _ _ _ _ (hv.mono k1) k4, .inr (.inr ⟨H.length, rows, rfl, by simp, ht⟩), k5⟩
  | [], _ :: _, _, _, h, _, _ => h.elim
  | .fl _ :: _, [], _, _, h, _, _ => h.elim
  | .sl _ _ :: _, [], _, _, h, _, _ => h.elim

theorem rows_rel {w : World} {nls : List NL} : ∀ {us : List (List Value)} {ρ : Map} {H : Heap}, (∀ r ∈ us, CellsN w nls r) → Rel ρ H w → NoOwn H →
    ∃ (bs : List Blk) (ρ' : Map) (rows : List (List V)), Map.le ρ ρ' ∧ Rel ρ' (H ++ bs) w ∧ NoOwn (H ++ bs) ∧ VRL ρ' rows.flatten us.flatten ∧ rows.length = us.length ∧ ∀ r ∈ rows, TypedN (H ++ bs) nls r
  | [], ρ, H, _, hr, hn => ⟨[], ρ, [], Map.le_refl _, by simpa using hr, by simpa using hn, .nil, rfl, by simp⟩
  | r :: us, ρ, H, h, hr, hn => by
    obtain ⟨bs, ρ1, vs, k1, k2, k3, k4, k5⟩ := cells_rel (h r (by simp)) hr hn
    obtain ⟨bs2, ρ2, rows, m1, m2, m3, m4, m5, m6⟩ := rows_rel (us := us) (fun r' hr' => h r' (by simp [hr'])) k2 k3
    rw [List.append_assoc] at m2 m3
    refine ⟨bs ++ bs2, ρ2, vs :: rows, Map.le_trans k1 m1, m2, m3, ?_, by simp [m5], ?_⟩
    · rw [List.flatten_cons, List.flatten_cons]; exact (k4.mono m1).append m4
    · intro r' hr'
      rw [← List.append_assoc]
      rcases List.mem_cons.1 hr' with rfl | hr'
      · exact k5.mono bs2
      · exact m6 r' hr'

/-- One more argument: a slice of things that hold slices. -/
theorem rel_argN {ρ : Map} {H : Heap} {w : World} {nls : List NL} {es : Nat} {u : Value} (h : ArgSlN nls es w u) (hr : Rel ρ H w) (hn : NoOwn H) :
    VR ρ (.sl es none 0) u ∨
    (∃ ρ', Map.le ρ ρ' ∧ Rel ρ' (H ++ [.void]) w ∧ NoOwn (H ++ [.void]) ∧ VR ρ' (.sl es (some (H.length, 0)) 0) u) ∨
    ∃ (bs : List Blk) (rows : List (List V)) (ρ' : Map), Map.le ρ ρ' ∧ Rel ρ' (H ++ bs ++ [.cells false rows.flatten]) w ∧ NoOwn (H ++ bs ++ [.cells false rows.flatten]) ∧ (∀ r ∈ rows, TypedN (H ++ bs) nls r) ∧
      VR ρ' (.sl es (some ((H ++ bs).length, 0)) rows.length) u := by
  have noinj : ∀ (H : Heap) (ρ : Map) (_ : Rel ρ H w) (k : Blk), NoOwn (H ++ [k]) → ∀ (L : Loc), BlkR (ρ.put H.length L) w H.length k → Rel (ρ.put H.length L) (H ++ [k]) w := by
    intro H ρ hr k hno L hx
    have hle := Map.put_le hr.dom L
    refine ⟨?_, ?_, fun b _ _ _ ho => absurd ho (hno b)⟩
    · intro b L' hb
      unfold Map.put at hb
      split at hb
      · simp; omega
      · have := hr.dom b L' hb; simp; omega
    · intro b q hb
      rcases snoc_get hb with hb | ⟨rfl, rfl⟩
      · exact (hr.blk b q hb).mono hle
      · exact hx
  rcases h with rfl | ⟨x, cap, rows, hsm, rfl, hl, hm, hrow, hc⟩
  · exact .inl (.slN es)
  · right
    by_cases h0 : cap = 0
    · subst h0
      obtain rfl : rows = [] := List.eq_nil_of_length_eq_zero (by omega)
      have hno : NoOwn (H ++ [.void]) := hn.snoc (by simp) (by simp)
      refine .inl ⟨ρ.put H.length ⟨0, 0, 0, .void⟩, Map.put_le hr.dom _, noinj H ρ hr _ hno _ ⟨_, Map.put_at _ _ _, rfl⟩, hno, ?_⟩
      exact .sl es H.length 0 0 0 x ⟨0, 0, 0, .void⟩ (Map.put_at _ _ _) (Nat.le_refl _) (.inl rfl) (fun h => by cases h) (fun _ => rfl) (by simp) (fun hb => absurd hb (by omega))
    · obtain ⟨C, ty, fz, hs, hC, hcell⟩ := hc.resolve_left h0
      obtain ⟨bs, ρ1, rs, k1, k2, k3, k4, k5, k6⟩ := rows_rel (fun r hr => (hrow r hr).2) hr hn
      have hno : NoOwn (H ++ bs ++ [.cells false rs.flatten]) := k3.snoc (by simp) (by simp)
      refine .inr ⟨bs, rs, ρ1.put (H ++ bs).length ⟨x.block, x.off, 0, .ro⟩, Map.le_trans k1 (Map.put_le k2.dom _), noinj _ ρ1 k2 _ hno _ ?_, hno, k6, ?_⟩
      · refine ⟨_, C, ty, fz, Map.put_at _ _ _, rfl, hC, fun i v hi => ?_, fun h => by cases h⟩
        obtain ⟨c, h1, h2⟩ := k4.get hi
        exact ⟨c, hcell i c h1, h2.mono (Map.put_le k2.dom _)⟩
      · rw [← k5]
        refine .sl es (H ++ bs).length 0 rs.length cap x ⟨x.block, x.off, 0, .ro⟩ (Map.put_at _ _ _) (by omega) (.inr ?_) (fun h => by cases h) (fun h => by cases h) (by simp) (fun hb => absurd hb (by omega))
        cases x
        simp at hs
        subst hs
        rfl

theorem arg_slN {Hd : Type} {enc : TypeId × Value → Hd} {P : Program} {w : World} {base : Nat} {held : Bool} {t e : TypeId} {d : Nat} {v : Value} {dd : DataW Hd} {ps : List MemPlace} {w' : World} {base' : Nat} {r : Reach}
    (ht : P.underlying t = some (.slice e)) (hf : deepB P d e = true) (hpos : 0 < esOf P e ∧ esOf P e < 8589934592) (hw : ∀ m ∈ dd.weights P t, m ≤ reachBytes) (hbo : 0 < P.bytesOf e) (hv : Value.okWide P w' r base' t v) (h : DataW.Trod enc P w base (fun _ => true) held t v dd ps) : ArgSlN (leavesN P d e) (esOf P e) w v := by
  obtain ⟨a, len, cap, rfl⟩ := WideShapes.okWide_slice ht hv
  obtain ⟨fuel, h⟩ := h
  exact argSlN_of ht hf hpos hw hbo (by simpa [Value.cells] using h)

end Go.Vm
