/-
  The small machine's operations are the model's.
-/
import Derived.Test.YtfhjdnekidhjnaaVm3
set_option linter.unusedVariables false
set_option linter.unusedSimpArgs false
namespace Go.Vm

/-! ### Views -/

theorem asI_some {k : IntKind} {v : V} {n : Int} (h : asI k v = some n) : v = .int k n := by
  cases v with
  | int k' m =>
    have h' : (if k' = k then some m else none) = some n := h
    by_cases e : k' = k
    · rw [if_pos e] at h'; cases h'; rw [e]
    · rw [if_neg e] at h'; cases h'
  | _ => cases h
theorem asB_some {v : V} {b : Bool} (h : asB v = some b) : v = .bool b := by
  cases v with
  | bool c => cases h; rfl
  | _ => cases h
theorem asStr_some {v : V} {b : ByteArray} (h : asStr v = some b) : v = .str b := by
  cases v with
  | str c => cases h; rfl
  | _ => cases h
theorem asP_some {v : V} {p : Option (Nat × Nat)} (h : asP v = some p) : v = .ptr p := by
  cases v with
  | ptr c => cases h; rfl
  | _ => cases h
theorem asS_some {es : Nat} {v : V} {s : Option (Nat × Nat) × Nat} (h : asS es v = some s) : (∃ es', s.1 = none ∧ v = .sl es' none s.2) ∨ v = .sl es s.1 s.2 := by
  cases v with
  | sl es' p n =>
    have h' : (if (p.isNone || es' == es) = true then some (p, n) else none) = some s := h
    by_cases e : (p.isNone || es' == es) = true
    · rw [if_pos e] at h'
      cases h'
      cases p with
      | none => exact .inl ⟨es', rfl, rfl⟩
      | some a => simp at e; subst e; exact .inr rfl
    · rw [if_neg e] at h'; cases h'
  | _ => cases h

theorem view_rel {R : Type} {v : V} {l : Leaf} {K : V → Option R} {r : R} (h : view v l K = some r) : ∃ v', K v' = some r ∧ ∀ (ρ : Map) (u : Value), VR ρ v u → VR ρ v' u := by
  cases l <;> simp only [view] at h
  case int k =>
    obtain ⟨n, hn, hK⟩ := Option.bind_eq_some_iff.1 h
    exact ⟨_, hK, fun _ _ hu => asI_some hn ▸ hu⟩
  case bool =>
    obtain ⟨n, hn, hK⟩ := Option.bind_eq_some_iff.1 h
    exact ⟨_, hK, fun _ _ hu => asB_some hn ▸ hu⟩
  case str =>
    obtain ⟨n, hn, hK⟩ := Option.bind_eq_some_iff.1 h
    exact ⟨_, hK, fun _ _ hu => asStr_some hn ▸ hu⟩
  case ptr =>
    obtain ⟨n, hn, hK⟩ := Option.bind_eq_some_iff.1 h
    exact ⟨_, hK, fun _ _ hu => asP_some hn ▸ hu⟩
  case sl es =>
    obtain ⟨s, hn, hK⟩ := Option.bind_eq_some_iff.1 h
    rcases asS_some hn with ⟨es', h1, h2⟩ | h2
    · refine ⟨_, hK, fun ρ u hu => ?_⟩
      obtain ⟨p, n⟩ := s
      simp only at h1 h2
      subst h1 h2
      cases hu
      exact .slN es
    · exact ⟨_, hK, fun _ _ hu => h2 ▸ hu⟩
  case raw => exact ⟨v, h, fun _ _ hu => hu⟩
  case bad => cases h

theorem views_rel {R : Type} : ∀ {vs : List V} {ls : List Leaf} {K : List V → Option R} {r : R}, views vs ls K = some r →
    ∃ vs', K vs' = some r ∧ ∀ (ρ : Map) (us : List Value), VRL ρ vs us → VRL ρ vs' us
  | [], [], K, r, h => ⟨[], h, fun _ _ hu => hu⟩
  | v :: vs, l :: ls, K, r, h => by
    unfold views at h
    obtain ⟨v', h', hv⟩ := view_rel h
    obtain ⟨vs', h'', hvs⟩ := views_rel h'
    refine ⟨v' :: vs', h'', fun ρ us hu => ?_⟩
    cases hu with
    | cons _ u _ us h1 h2 => exact .cons _ _ _ _ (hv _ _ h1) (hvs _ _ h2)
  | [], _ :: _, _, _, h => by simp [views] at h
  | _ :: _, [], _, _, h => by simp [views] at h

theorem rdLeaf_view {R : Type} {H : Heap} {b o : Nat} {l : Leaf} {K : V → Option R} {r : R} (h : rdLeaf H b o l K = some r) : ∃ v, cellV H b o = some v ∧ view v l K = some r := by
  cases l <;> simp only [rdLeaf, cellI, cellB, cellStr, cellP, cellS, view] at h ⊢
  case bad => cases h
  all_goals
    cases hc : cellV H b o with
    | none => rw [hc] at h; cases h
    | some v => rw [hc] at h; exact ⟨v, rfl, h⟩

theorem rdLeaf_rel {R : Type} {H : Heap} {b o : Nat} {l : Leaf} {K : V → Option R} {r : R} (h : rdLeaf H b o l K = some r) :
    ∃ v v', cellV H b o = some v ∧ K v' = some r ∧ ∀ (ρ : Map) (u : Value), VR ρ v u → VR ρ v' u := by
  obtain ⟨v, hv, h'⟩ := rdLeaf_view h
  obtain ⟨v', h1, h2⟩ := view_rel h'
  exact ⟨v, v', hv, h1, h2⟩

theorem rdLeaves_rel {R : Type} {H : Heap} {b : Nat} : ∀ {ls : List Leaf} {o : Nat} {K : List V → Option R} {r : R}, rdLeaves H b o ls K = some r →
    ∃ vs vs' : List V, K vs' = some r ∧ vs.length = ls.length ∧ (∀ (i : Nat) (v : V), vs[i]? = some v → cellV H b (o + i) = some v) ∧ ∀ (ρ : Map) (us : List Value), VRL ρ vs us → VRL ρ vs' us
  | [], o, K, r, h => ⟨[], [], h, rfl, fun i v hi => by simp at hi, fun _ _ hu => hu⟩
  | l :: ls, o, K, r, h => by
    unfold rdLeaves at h
    obtain ⟨v, v', hc, h', hv⟩ := rdLeaf_rel h
    obtain ⟨vs, vs', h'', hl, hcs, hvs⟩ := rdLeaves_rel h'
    refine ⟨v :: vs, v' :: vs', h'', by simp [hl], ?_, ?_⟩
    · intro i x hi
      cases i with
      | zero => simp at hi; subst hi; exact hc
      | succ i => have := hcs i x (by simpa using hi); rw [show o + (i + 1) = o + 1 + i by omega]; exact this
    · intro ρ us hu
      cases hu with
      | cons _ u _ us h1 h2 => exact .cons _ _ _ _ (hv _ _ h1) (hvs _ _ h2)

/-! ### Cells -/

theorem Rel.cell {ρ : Map} {H : Heap} {w : World} (h : Rel ρ H w) {b o : Nat} {v : V} (hc : cellV H b o = some v) :
    ∃ L u, ρ b = some L ∧ (L.kind = .rw ∨ L.kind = .ro) ∧ w.cell? ⟨L.blk, L.base + o, none⟩ = some u ∧ VR ρ v u := by
  unfold cellV at hc
  split at hc
  · rename_i rw cs hb
    obtain ⟨L, C, ty, fz, h1, h2, h3, h4, _⟩ := h.blk _ _ hb
    obtain ⟨u, hu, hv⟩ := h4 _ _ hc
    refine ⟨L, u, h1, ?_, ?_, hv⟩
    · cases rw <;> simp_all
    · simp [World.cell?, h3, hu]
  · cases hc

theorem run_loadCellsFrom {P : Program} {w : World} (a : Addr) : ∀ (n i : Nat) (us : List Value) (acc : Array Value), us.length = n →
    (∀ (j : Nat) (u : Value), us[j]? = some u → w.cell? (a.add (i + j)) = some u) → (loadCellsFrom a i n acc).run P w = .ok (acc ++ us.toArray) w := by
  intro n
  induction n with
  | zero => intro i us acc hl _; simp at hl; subst hl; simp [loadCellsFrom]
  | succ n ih =>
    intro i us acc hl hc
    cases us with
    | nil => simp at hl
    | cons u us =>
      have h0 := hc 0 u rfl
      simp only [Nat.add_zero] at h0
      have := ih (i + 1) us (acc.push u) (by simpa using hl) (fun j x hj => by
        have := hc (j + 1) x (by simpa using hj)
        rw [show i + (j + 1) = i + 1 + j by omega] at this; exact this)
      simp [loadCellsFrom, load, Sem.run, h0, this, Result.andThen]

theorem run_loadCells {P : Program} {w : World} (b o : Nat) (us : List Value) (hc : ∀ (j : Nat) (u : Value), us[j]? = some u → w.cell? ⟨b, o + j, none⟩ = some u) :
    (loadCells ⟨b, o, none⟩ us.length).run P w = .ok us.toArray w := by
  have := run_loadCellsFrom (P := P) (w := w) ⟨b, o, none⟩ us.length 0 us #[] rfl (fun j u hj => by simpa [Addr.add_lit] using hc j u hj)
  simpa [loadCells] using this

theorem esOf_run {P : Program} {t : TypeId} {i : TypeInfo} (h : P.info? t = some i) (w : World) : (sizeOf t).run P w = .ok (esOf P t) w := by
  simp [sizeOf, typeInfo, h, esOf]

theorem run_sizeOf {P : Program} {t : TypeId} (h : (P.info? t).isSome = true) (w : World) : (sizeOf t).run P w = .ok (esOf P t) w := by
  obtain ⟨i, hi⟩ := Option.isSome_iff_exists.1 h
  exact esOf_run hi w

theorem info_of_es {P : Program} {t : TypeId} (h : 0 < esOf P t) : (P.info? t).isSome = true := by
  unfold esOf at h
  cases hi : P.info? t with
  | none => rw [hi] at h; simp at h
  | some i => rfl

theorem leaf_not_agg {P : Program} {t : TypeId} {l : Leaf} (h : leaves P 1 t = [l]) (hl : l ≠ .bad) (ha : isAggT P t = false) : ∃ d, P.underlying t = some d ∧ (∀ fs, d ≠ .struct fs) ∧ ∀ n e, d ≠ .array n e := by
  unfold leaves at h
  unfold isAggT at ha
  cases hd : P.underlying t with
  | none => rw [hd] at h; simp at h; exact absurd h.symm hl
  | some d =>
    refine ⟨d, rfl, ?_, ?_⟩
    · rintro fs rfl; rw [hd] at ha; simp at ha
    · rintro n e rfl; rw [hd] at ha; simp at ha

theorem run_isAgg {P : Program} {t : TypeId} {d : TypeDesc} (h : P.underlying t = some d) (w : World) : (isAgg t).run P w = .ok (isAggT P t) w := by
  simp only [isAgg, Sem.run_bind, run_underlying h, Result.andThen, isAggT, h]
  cases d <;> rfl

theorem loadT_rel {R : Type} {P : Program} {t : TypeId} {H : Heap} {b o : Nat} {K : V → Option R} {r : R} (h : loadT P t H b o K = some r) {ρ : Map} {w : World} (hr : Rel ρ H w)
    {L : Loc} (hL : ρ b = some L) : ∃ v u, K v = some r ∧ VR ρ v u ∧ (loadVar t ⟨L.blk, L.base + o, none⟩).run P w = .ok u w := by
  unfold loadT at h
  by_cases ha : isAggT P t = true
  · rw [if_pos ha] at h
    obtain ⟨vs, vs', h', hl, hcs, hvs⟩ := rdLeaves_rel h
    by_cases hlen : vs'.length = esOf P t
    · rw [if_pos hlen] at h'
      -- the model's cells
      have key : ∀ (vs : List V) (o' : Nat), (∀ (i : Nat) (v : V), vs[i]? = some v → cellV H b (o' + i) = some v) → ∃ us : List Value, VRL ρ vs us ∧ ∀ (j : Nat) (u : Value), us[j]? = some u → w.cell? ⟨L.blk, L.base + (o' + j), none⟩ = some u := by
        intro vs
        induction vs with
        | nil => intro o' _; exact ⟨[], .nil, fun j u hj => by simp at hj⟩
        | cons v vs ih =>
          intro o' hc
          obtain ⟨L', u, h1, _, h3, h4⟩ := hr.cell (hc 0 v rfl)
          rw [hL] at h1; cases h1
          obtain ⟨us, hus, hcu⟩ := ih (o' + 1) (fun i x hi => by
            have := hc (i + 1) x (by simpa using hi)
            rw [show o' + (i + 1) = o' + 1 + i by omega] at this; exact this)
          refine ⟨u :: us, .cons _ _ _ _ h4 hus, fun j x hj => ?_⟩
          cases j with
          | zero => simp at hj; subst hj; exact h3
          | succ j => have := hcu j x (by simpa using hj); rw [show o' + (j + 1) = o' + 1 + j by omega]; exact this
      obtain ⟨us, hus, hcu⟩ := key vs o hcs
      have hus' := hvs ρ us hus
      have hul : us.length = esOf P t := by rw [hus'.length, hlen]
      obtain ⟨d, hd⟩ : ∃ d, P.underlying t = some d := by
        unfold isAggT at ha
        cases hd : P.underlying t with
        | none => rw [hd] at ha; simp at ha
        | some d => exact ⟨d, rfl⟩
      have hinfo : (P.info? t).isSome = true := by
        simp only [Program.underlying] at hd
        cases hi : P.info? t with
        | none => rw [hi] at hd; simp at hd
        | some i => rfl
      refine ⟨.agg vs', .agg us.toArray, h', .agg _ _ hus', ?_⟩
      have := run_loadCells (P := P) (w := w) L.blk (L.base + o) us (fun j u hj => by have := hcu j u hj; rw [show L.base + o + j = L.base + (o + j) by omega]; exact this)
      rw [hul] at this
      simp [loadVar, run_isAgg hd, ha, run_sizeOf hinfo, this, Result.andThen]
    · rw [if_neg hlen] at h'; cases h'
  · rw [if_neg ha] at h
    have ha' : isAggT P t = false := by simpa using ha
    split at h
    · rename_i l hl
      have hbad : l ≠ .bad := by rintro rfl; simp [rdLeaf] at h
      obtain ⟨d, hd, _, _⟩ := leaf_not_agg hl hbad ha'
      obtain ⟨v, v', hc, h', hv⟩ := rdLeaf_rel h
      obtain ⟨L', u, h1, _, h3, h4⟩ := hr.cell hc
      rw [hL] at h1; cases h1
      refine ⟨v', u, h', hv _ _ h4, ?_⟩
      simp [loadVar, run_isAgg hd, ha', load, Sem.run, h3, Result.andThen]
    · cases h

end Go.Vm
