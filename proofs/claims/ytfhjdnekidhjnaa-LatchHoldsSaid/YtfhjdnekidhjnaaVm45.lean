/-
  Arguments that are slices of values which hold slices of flat types: so many first rows have blocks of their own, whose places are told; a slice without room stands in such a block as well.
-/
import Derived.Test.YtfhjdnekidhjnaaVm44
set_option linter.unusedVariables false
set_option linter.unusedSimpArgs false
namespace Go.Vm

def nsl : List NL → Nat
  | [] => 0
  | .fl _ :: ls => nsl ls
  | .sl _ _ :: ls => nsl ls + 1

/-- Cells of a row, whose slices stand in the blocks from one on. -/
def TypedF (G : Heap) : Nat → List NL → List V → Prop
  | _, [], [] => True
  | b, .fl l :: ls, v :: vs => LeafOK l v ∧ TypedF G b ls vs
  | b, .sl l es :: ls, v :: vs => (v = .sl es none 0 ∨ ∃ rows : List (List V), v = .sl es (some (b, 0)) rows.length ∧ G[b]? = some (.cells false rows.flatten) ∧ rows.length ≤ 140737488355328 ∧ ∀ r ∈ rows, Typed l r) ∧ TypedF G (b + 1) ls vs
  | _, _, _ => False

theorem TypedF.mono {G : Heap} (bs : List Blk) : ∀ {b : Nat} {ls : List NL} {vs : List V}, TypedF G b ls vs → TypedF (G ++ bs) b ls vs
  | _, [], [], _ => trivial
  | _, .fl _ :: _, _ :: _, h => ⟨h.1, TypedF.mono bs h.2⟩
  | _, .sl _ _ :: _, _ :: _, h => by
    refine ⟨?_, TypedF.mono bs h.2⟩
    rcases h.1 with h1 | ⟨rows, h1, h2, h3⟩
    · exact .inl h1
    · exact .inr ⟨rows, h1, by rw [List.getElem?_append_left (List.getElem?_eq_some_iff.1 h2).1]; exact h2, h3⟩
  | _, [], _ :: _, h => h.elim
  | _, .fl _ :: _, [], h => h.elim
  | _, .sl _ _ :: _, [], h => h.elim

theorem TypedF.length {G : Heap} : ∀ {b : Nat} {ls : List NL} {vs : List V}, TypedF G b ls vs → vs.length = ls.length
  | _, [], [], _ => rfl
  | _, .fl _ :: _, _ :: _, h => by simp [TypedF.length h.2]
  | _, .sl _ _ :: _, _ :: _, h => by simp [TypedF.length h.2]
  | _, [], _ :: _, h => h.elim
  | _, .fl _ :: _, [], h => h.elim
  | _, .sl _ _ :: _, [], h => h.elim

theorem LeafOK.plain : ∀ {l : Leaf} {v : V}, LeafOK l v → v.plain = true
  | .int _, .int _ _, _ => rfl
  | .bool, .bool _, _ => rfl
  | .str, .str _, _ => rfl
theorem Typed.plains : ∀ {ls : List Leaf} {vs : List V}, Typed ls vs → plains vs = true
  | [], [], _ => rfl
  | _ :: _, _ :: _, h => by simp [Vm.plains, h.1.plain, Typed.plains h.2]
  | [], _ :: _, h => h.elim
  | _ :: _, [], h => h.elim
theorem Typed.plains_rows {ls : List Leaf} : ∀ {rows : List (List V)}, (∀ r ∈ rows, Typed ls r) → Vm.plains rows.flatten = true
  | [], _ => rfl
  | r :: rows, h => by rw [List.flatten_cons]; exact plains_append (h r (by simp)).plains (Typed.plains_rows fun r' hr' => h r' (by simp [hr']))

theorem rel_snoc {ρ : Map} {H : Heap} {w : World} (hr : Rel ρ H w) {k : Blk} (hno : NoOwn (H ++ [k])) {L : Loc} (hx : BlkR (ρ.put H.length L) w H.length k) : Rel (ρ.put H.length L) (H ++ [k]) w := by
  have hle := Map.put_le hr.dom L
  refine ⟨?_, ?_, fun b _ _ _ ho => absurd ho (hno b)⟩
  · intro b L' hb
    unfold Map.put at hb
    split at hb
    · simp; omega
    · have := hr.dom b L' hb; simp; omega
  · intro b q hb
    rcases snoc_get hb with hb | ⟨rfl, rfl⟩
    · exact (hr.blk b q hb).mono hle
    · exact hx

/-- Some block of cells. -/
def Some1 (w : World) (x : Addr) : Prop := ∃ C ty fz, w.heap[x.block]? = some (.cells C ty fz)

def RoB (k : Blk) : Prop := ∃ c, k = .cells false c ∧ plains c = true

theorem add_none {ρ : Map} {H : Heap} {w : World} {x : Addr} (hx : Some1 w x) (hr : Rel ρ H w) (hn : NoOwn H) :
    ∃ ρ', Map.le ρ ρ' ∧ Rel ρ' (H ++ [.cells false []]) w ∧ NoOwn (H ++ [.cells false []]) ∧ ∃ L, ρ' H.length = some L ∧ L.kind = .ro := by
  obtain ⟨C, ty, fz, hC⟩ := hx
  have hno : NoOwn (H ++ [.cells false []]) := hn.snoc (by simp) (by simp)
  exact ⟨ρ.put H.length ⟨x.block, x.off, 0, .ro⟩, Map.put_le hr.dom _, rel_snoc hr hno ⟨_, C, ty, fz, Map.put_at _ _ _, rfl, hC, fun i v hi => by simp at hi, fun h => by cases h⟩, hno, _, Map.put_at _ _ _, rfl⟩

theorem add_nones {w : World} {x : Addr} (hx : Some1 w x) : ∀ (n : Nat) {ρ : Map} {H : Heap}, Rel ρ H w → NoOwn H →
    ∃ (bs : List Blk) (ρ' : Map), Map.le ρ ρ' ∧ Rel ρ' (H ++ bs) w ∧ NoOwn (H ++ bs) ∧ bs.length = n ∧ ∀ k ∈ bs, RoB k
  | 0, ρ, H, hr, hn => ⟨[], ρ, Map.le_refl _, by simpa using hr, by simpa using hn, rfl, by simp⟩
  | n + 1, ρ, H, hr, hn => by
    obtain ⟨ρ1, l1, r1, n1, _⟩ := add_none hx hr hn
    obtain ⟨bs, ρ2, l2, r2, n2, e2, p2⟩ := add_nones hx n r1 n1
    rw [List.append_assoc] at r2 n2
    refine ⟨[.cells false []] ++ bs, ρ2, Map.le_trans l1 l2, r2, n2, by simp [e2], ?_⟩
    intro k hk
    rcases List.mem_append.1 hk with hk | hk
    · exact ⟨[], List.mem_singleton.1 hk, rfl⟩
    · exact p2 k hk

/-- One slice, in a block of its own. -/
theorem add_slice {ρ : Map} {H : Heap} {w : World} {x : Addr} (hx : Some1 w x) {ls : List Leaf} {es : Nat} {u : Value} {rows : List (List V)} (h : ArgSl ls es w u rows) (hr : Rel ρ H w) (hn : NoOwn H) :
    ∃ (k : Blk) (ρ' : Map) (v : V), Map.le ρ ρ' ∧ Rel ρ' (H ++ [k]) w ∧ NoOwn (H ++ [k]) ∧ RoB k ∧ VR ρ' v u ∧
      (v = .sl es none 0 ∨ ∃ rows : List (List V), v = .sl es (some (H.length, 0)) rows.length ∧ k = .cells false rows.flatten ∧ rows.length ≤ 140737488355328 ∧ ∀ r ∈ rows, Typed ls r) := by
  rcases h with ⟨rfl, rfl⟩ | ⟨y, cap, hes, rfl, hl, hm, hrow, hc⟩
  · obtain ⟨ρ1, l1, r1, n1, _⟩ := add_none hx hr hn
    exact ⟨_, ρ1, _, l1, r1, n1, ⟨[], rfl, rfl⟩, .slN es, .inl rfl⟩
  · by_cases h0 : cap = 0
    · subst h0
      obtain rfl : rows = [] := List.eq_nil_of_length_eq_zero (by omega)
      obtain ⟨ρ1, l1, r1, n1, L, hL, hk⟩ := add_none hx hr hn
      refine ⟨_, ρ1, .sl es (some (H.length, 0)) 0, l1, r1, n1, ⟨[], rfl, rfl⟩, ?_, .inr ⟨[], rfl, rfl, Nat.zero_le _, by simp⟩⟩
      exact .sl es H.length 0 0 0 y L hL (Nat.le_refl _) (.inl rfl) (fun h => by rw [hk] at h; cases h) (fun _ => rfl) (by rw [hk]; simp) (fun hb => absurd hb (by omega))
    · obtain ⟨C, ty, fz, hs, hC, hcell⟩ := hc.resolve_left h0
      have hno : NoOwn (H ++ [.cells false rows.flatten]) := hn.snoc (by simp) (by simp)
      have hty : ∀ r ∈ rows, Typed ls r := fun r hr => (hrow r hr).2
      refine ⟨.cells false rows.flatten, ρ.put H.length ⟨y.block, y.off, 0, .ro⟩, .sl es (some (H.length, 0)) rows.length, Map.put_le hr.dom _, rel_snoc hr hno ⟨_, C, ty, fz, Map.put_at _ _ _, rfl, hC, fun i v hi => ?_, fun h => by cases h⟩, hno, ⟨_, rfl, Typed.plains_rows hty⟩, ?_, .inr ⟨rows, rfl, rfl, hm.2, hty⟩⟩
      · obtain ⟨c, h1, h2⟩ := hcell i v hi
        exact ⟨c, h1, h2 _⟩
      · refine .sl es H.length 0 rows.length cap y ⟨y.block, y.off, 0, .ro⟩ (Map.put_at _ _ _) hl (.inr ?_) (fun h => by cases h) (fun h => by cases h) (by simp) (fun hb => absurd hb (by omega))
        cases y
        simp at hs
        subst hs
        rfl

theorem cells_relF {w : World} {x : Addr} (hx : Some1 w x) : ∀ {nls : List NL} {us : List Value} {ρ : Map} {H : Heap}, CellsN w nls us → Rel ρ H w → NoOwn H →
    ∃ (bs : List Blk) (ρ' : Map) (vs : List V), Map.le ρ ρ' ∧ Rel ρ' (H ++ bs) w ∧ NoOwn (H ++ bs) ∧ VRL ρ' vs us ∧ bs.length = nsl nls ∧ (∀ k ∈ bs, RoB k) ∧ TypedF (H ++ bs) H.length nls vs
  | [], [], ρ, H, _, hr, hn => ⟨[], ρ, [], Map.le_refl _, by simpa using hr, by simpa using hn, .nil, rfl, by simp, trivial⟩
  | .fl l :: ls, u :: us, ρ, H, h, hr, hn => by
    obtain ⟨⟨v, h1, h2⟩, h3⟩ := h
    obtain ⟨bs, ρ', vs, k1, k2, k3, k4, k5, k6, k7⟩ := cells_relF hx h3 hr hn
    exact ⟨bs, ρ', v :: vs, k1, k2, k3, .cons _ _ _ _ (h2 _) k4, k5, k6, h1, k7⟩
  | .sl l es :: ls, u :: us, ρ, H, h, hr, hn => by
    obtain ⟨⟨rows, h1⟩, h3⟩ := h
    obtain ⟨k, ρ1, v, l1, r1, n1, q1, v1, t1⟩ := add_slice hx h1 hr hn
    obtain ⟨bs, ρ', vs, k1, k2, k3, k4, k5, k6, k7⟩ := cells_relF hx h3 r1 n1
    rw [List.append_assoc] at k2 k3 k7
    have e : (H ++ [k]).length = H.length + 1 := by simp
    rw [e] at k7
    refine ⟨[k] ++ bs, ρ', v :: vs, Map.le_trans l1 k1, k2, k3, .cons _ _ _ _ (v1.mono k1) k4, by simp [k5, nsl], ?_, ?_, k7⟩
    · intro q hq
      rcases List.mem_append.1 hq with hq | hq
      · rw [List.mem_singleton.1 hq]; exact q1
      · exact k6 q hq
    · rcases t1 with t1 | ⟨rows', t1, t2, t3⟩
      · exact .inl t1
      · exact .inr ⟨rows', t1, by rw [← t2]; simp, t3⟩
  | [], _ :: _, _, _, h, _, _ => h.elim
  | .fl _ :: _, [], _, _, h, _, _ => h.elim
  | .sl _ _ :: _, [], _, _, h, _, _ => h.elim

theorem undefs_rel {ρ : Map} : ∀ (us : List Value), VRL ρ (List.replicate us.length .undef) us
  | [] => .nil
  | u :: us => .cons _ _ _ _ (.undef u) (undefs_rel us)

theorem undef_rows {ρ : Map} {es : Nat} : ∀ {us : List (List Value)}, (∀ r ∈ us, r.length = es) → VRL ρ (us.map fun _ => List.replicate es V.undef).flatten us.flatten
  | [], _ => .nil
  | r :: us, h => by
    rw [List.map_cons, List.flatten_cons, List.flatten_cons]
    have := undefs_rel (ρ := ρ) r
    rw [h r (by simp)] at this
    exact this.append (undef_rows fun r' hr' => h r' (by simp [hr']))

theorem rows_relF {w : World} {x : Addr} (hx : Some1 w x) {nls : List NL} {es : Nat} : ∀ (M : Nat) {us : List (List Value)} {ρ : Map} {H : Heap}, (∀ r ∈ us, r.length = es ∧ CellsN w nls r) → Rel ρ H w → NoOwn H →
    ∃ (bs : List Blk) (ρ' : Map) (rows : List (List V)), Map.le ρ ρ' ∧ Rel ρ' (H ++ bs) w ∧ NoOwn (H ++ bs) ∧ VRL ρ' rows.flatten us.flatten ∧ rows.length = us.length ∧ bs.length = M * nsl nls ∧ (∀ k ∈ bs, RoB k) ∧
      (∀ r ∈ rows, r.length = es) ∧ (∀ i r, M ≤ i → rows[i]? = some r → r = List.replicate es V.undef) ∧ ∀ i r, i < M → rows[i]? = some r → TypedF (H ++ bs) (H.length + i * nsl nls) nls r
  | 0, us, ρ, H, h, hr, hn => ⟨[], ρ, us.map fun _ => List.replicate es V.undef, Map.le_refl _, by simpa using hr, by simpa using hn, undef_rows fun r hr => (h r hr).1, by simp, by simp, by simp, by simp, fun i r _ hi => by simp at hi; exact hi.2.symm, fun i r hi => by omega⟩
  | M + 1, [], ρ, H, h, hr, hn => by
    obtain ⟨bs, ρ', k1, k2, k3, k4, k5⟩ := add_nones hx ((M + 1) * nsl nls) hr hn
    exact ⟨bs, ρ', [], k1, k2, k3, .nil, rfl, k4, k5, by simp, fun i r _ hi => by simp at hi, fun i r _ hi => by simp at hi⟩
  | M + 1, r :: us, ρ, H, h, hr, hn => by
    obtain ⟨bs, ρ1, vs, k1, k2, k3, k4, k5, k6, k7⟩ := cells_relF hx (h r (by simp)).2 hr hn
    obtain ⟨bs2, ρ2, rows, m1, m2, m3, m4, m5, m6, m7, m8, m10, m9⟩ := rows_relF hx M (us := us) (fun r' hr' => h r' (by simp [hr'])) k2 k3
    have hlen : (H ++ bs).length = H.length + nsl nls := by simp [k5]
    rw [List.append_assoc] at m2 m3
    refine ⟨bs ++ bs2, ρ2, vs :: rows, Map.le_trans k1 m1, m2, m3, ?_, by simp [m5], ?_, ?_, ?_, ?_, ?_⟩
    · rw [List.flatten_cons, List.flatten_cons]; exact (k4.mono m1).append m4
    · rw [List.length_append, k5, m6, Nat.succ_mul]; omega
    · intro k hk
      rcases List.mem_append.1 hk with hk | hk
      · exact k6 k hk
      · exact m7 k hk
    · intro r' hr'
      rcases List.mem_cons.1 hr' with rfl | hr'
      · have := k4.length; rw [← (h r (by simp)).1]; exact this.symm
      · exact m8 r' hr'
    · intro i r' hi hr'
      cases i with
      | zero => omega
      | succ i => exact m10 i r' (by omega) (by simpa using hr')
    · intro i r' hi hr'
      rw [← List.append_assoc]
      cases i with
      | zero =>
        simp at hr'
        subst hr'
        rw [Nat.zero_mul, Nat.add_zero]
        exact k7.mono bs2
      | succ i =>
        have := m9 i r' (by omega) (by simpa using hr')
        rw [hlen] at this
        rw [Nat.succ_mul, show H.length + (i * nsl nls + nsl nls) = H.length + nsl nls + i * nsl nls by omega]
        exact this

/-- The blocks that stand for such an argument: those of the first rows' slices, and the rows. -/
def AA (C : Nat → List V) (n : Nat) (R : List V) : Heap := (List.range n).map (fun k => Blk.cells false (C k)) ++ [.cells false R]

/-- One more argument: a slice of things that hold slices. -/
theorem rel_argF (M : Nat) {ρ : Map} {H : Heap} {w : World} {nls : List NL} {es : Nat} {u : Value} (h : ArgSlN nls es w u) (hr : Rel ρ H w) (hn : NoOwn H) :
    VR ρ (.sl es none 0) u ∨
    (∃ ρ', Map.le ρ ρ' ∧ Rel ρ' (H ++ [.void]) w ∧ NoOwn (H ++ [.void]) ∧ VR ρ' (.sl es (some (H.length, 0)) 0) u) ∨
    ∃ (C : Nat → List V) (rows : List (List V)) (ρ' : Map), Map.le ρ ρ' ∧ Rel ρ' (H ++ AA C (M * nsl nls) rows.flatten) w ∧ NoOwn (H ++ AA C (M * nsl nls) rows.flatten) ∧ (∀ k, plains (C k) = true) ∧ (∀ r ∈ rows, r.length = es) ∧ (∀ i r, M ≤ i → rows[i]? = some r → r = List.replicate es V.undef) ∧
      (∀ i r, i < M → rows[i]? = some r → TypedF (H ++ AA C (M * nsl nls) rows.flatten) (H.length + i * nsl nls) nls r) ∧
      VR ρ' (.sl es (some (H.length + M * nsl nls, 0)) rows.length) u := by
  rcases h with rfl | ⟨x, cap, rows, hsm, rfl, hl, hm, hrow, hc⟩
  · exact .inl (.slN es)
  · right
    by_cases h0 : cap = 0
    · subst h0
      obtain rfl : rows = [] := List.eq_nil_of_length_eq_zero (by omega)
      have hno : NoOwn (H ++ [.void]) := hn.snoc (by simp) (by simp)
      refine .inl ⟨ρ.put H.length ⟨0, 0, 0, .void⟩, Map.put_le hr.dom _, rel_snoc hr hno ⟨_, Map.put_at _ _ _, rfl⟩, hno, ?_⟩
      exact .sl es H.length 0 0 0 x ⟨0, 0, 0, .void⟩ (Map.put_at _ _ _) (Nat.le_refl _) (.inl rfl) (fun h => by cases h) (fun _ => rfl) (by simp) (fun hb => absurd hb (by omega))
    · obtain ⟨C, ty, fz, hs, hC, hcell⟩ := hc.resolve_left h0
      obtain ⟨bs, ρ1, rs, k1, k2, k3, k4, k5, k6, k7, k8, k10, k9⟩ := rows_relF (x := x) ⟨C, ty, fz, hC⟩ M hrow hr hn
      have hno : NoOwn (H ++ bs ++ [.cells false rs.flatten]) := k3.snoc (by simp) (by simp)
      have hrel : Rel (ρ1.put (H ++ bs).length ⟨x.block, x.off, 0, .ro⟩) (H ++ bs ++ [.cells false rs.flatten]) w := by
        refine rel_snoc k2 hno ⟨_, C, ty, fz, Map.put_at _ _ _, rfl, hC, fun i v hi => ?_, fun h => by cases h⟩
        obtain ⟨c, h1, h2⟩ := k4.get hi
        exact ⟨c, hcell i c h1, h2.mono (Map.put_le k2.dom _)⟩
      obtain ⟨D, hD⟩ : ∃ D : Nat → List V, D = fun k => match bs[k]? with | some (.cells _ c) => c | _ => [] := ⟨_, rfl⟩
      have hbs : (List.range (M * nsl nls)).map (fun k => Blk.cells false (D k)) = bs := by
        apply List.ext_getElem?
        intro i
        by_cases hi : i < M * nsl nls
        · have hb : bs[i]? = some bs[i] := List.getElem?_eq_getElem (by omega)
          obtain ⟨c, hc, _⟩ := k7 bs[i] (List.getElem_mem _)
          rw [List.getElem?_map, List.getElem?_range hi, Option.map_some, hD]
          simp only
          rw [hb, hc]
        · rw [List.getElem?_eq_none (by simp; omega), List.getElem?_eq_none (by omega)]
      have hpl : ∀ k, plains (D k) = true := by
        intro k
        rw [hD]
        simp only
        cases hb : bs[k]? with
        | none => rfl
        | some q =>
          obtain ⟨c, rfl, hc⟩ := k7 q (List.mem_of_getElem? hb)
          exact hc
      have hA : H ++ AA D (M * nsl nls) rs.flatten = H ++ bs ++ [.cells false rs.flatten] := by rw [AA, hbs, List.append_assoc]
      refine .inr ⟨D, rs, ρ1.put (H ++ bs).length ⟨x.block, x.off, 0, .ro⟩, Map.le_trans k1 (Map.put_le k2.dom _), by rw [hA]; exact hrel, by rw [hA]; exact hno, hpl, k8, k10, fun i r hi hr' => by rw [hA]; exact (k9 i r hi hr').mono _, ?_⟩
      rw [← k5, show H.length + M * nsl nls = (H ++ bs).length by rw [List.length_append, k6]]
      refine .sl es (H ++ bs).length 0 rs.length cap x ⟨x.block, x.off, 0, .ro⟩ (Map.put_at _ _ _) (by omega) (.inr ?_) (fun h => by cases h) (fun h => by cases h) (by simp) (fun hb => absurd hb (by omega))
      cases x
      simp at hs
      subst hs
      rfl

end Go.Vm
