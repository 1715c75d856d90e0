/-
  One more argument behind a heap that has cells: a slice of a flat type, whose block always is there.
-/
import Derived.Test.YtfhjdnekidhjnaaVm46
set_option linter.unusedVariables false
set_option linter.unusedSimpArgs false
namespace Go.Vm

theorem rel_arg2 {ρ : Map} {H : Heap} {w : World} {ls : List Leaf} {es : Nat} {u : Value} {rows : List (List V)} (h : ArgSl ls es w u rows) (hr : Rel ρ H w) (hn : NoOwn H) {b : Nat} {c : List V} (hb : H[b]? = some (.cells false c)) :
    ∃ (rs : List (List V)) (ρ' : Map) (v : V), Map.le ρ ρ' ∧ Rel ρ' (H ++ [.cells false rs.flatten]) w ∧ NoOwn (H ++ [.cells false rs.flatten]) ∧ VR ρ' v u ∧ (∀ r ∈ rs, Typed ls r) ∧ rs.length ≤ 140737488355328 ∧
      ((v = .sl es none 0 ∧ rs = []) ∨ v = .sl es (some (H.length, 0)) rs.length) := by
  obtain ⟨L0, C0, ty0, fz0, _, _, hC0, _, _⟩ := hr.blk b _ hb
  have hx : Some1 w { block := L0.blk, off := 0 } := ⟨C0, ty0, fz0, hC0⟩
  rcases h with ⟨rfl, rfl⟩ | ⟨y, cap, hes, rfl, hl, hm, hrow, hc⟩
  · obtain ⟨ρ1, l1, r1, n1, _⟩ := add_none hx hr hn
    exact ⟨[], ρ1, _, l1, r1, n1, .slN es, by simp, Nat.zero_le _, .inl ⟨rfl, rfl⟩⟩
  · by_cases h0 : cap = 0
    · subst h0
      obtain rfl : rows = [] := List.eq_nil_of_length_eq_zero (by omega)
      obtain ⟨ρ1, l1, r1, n1, L, hL, hk⟩ := add_none hx hr hn
      refine ⟨[], ρ1, .sl es (some (H.length, 0)) 0, l1, r1, n1, ?_, by simp, Nat.zero_le _, .inr rfl⟩
      exact .sl es H.length 0 0 0 y L hL (Nat.le_refl _) (.inl rfl) (fun h => by rw [hk] at h; cases h) (fun _ => rfl) (by rw [hk]; simp) (fun hb => absurd hb (by omega))
    · obtain ⟨C, ty, fz, hs, hC, hcell⟩ := hc.resolve_left h0
      have hno : NoOwn (H ++ [.cells false rows.flatten]) := hn.snoc (by simp) (by simp)
      have hty : ∀ r ∈ rows, Typed ls r := fun r hr => (hrow r hr).2
      refine ⟨rows, ρ.put H.length ⟨y.block, y.off, 0, .ro⟩, .sl es (some (H.length, 0)) rows.length, Map.put_le hr.dom _, rel_snoc hr hno ⟨_, C, ty, fz, Map.put_at _ _ _, rfl, hC, fun i v hi => ?_, fun h => by cases h⟩, hno, ?_, hty, hm.2, .inr rfl⟩
      · obtain ⟨c, h1, h2⟩ := hcell i v hi
        exact ⟨c, h1, h2 _⟩
      · refine .sl es H.length 0 rows.length cap y ⟨y.block, y.off, 0, .ro⟩ (Map.put_at _ _ _) hl (.inr ?_) (fun h => by cases h) (fun h => by cases h) (by simp) (fun hb => absurd hb (by omega))
        cases y
        simp at hs
        subst hs
        rfl
theorem aa_rows (H : Heap) (C : Nat → List V) (n : Nat) (R : List V) : (H ++ AA C n R)[H.length + n]? = some (.cells false R) := by
  rw [AA, ← List.append_assoc, List.getElem?_append_right (by simp)]
  simp
end Go.Vm
