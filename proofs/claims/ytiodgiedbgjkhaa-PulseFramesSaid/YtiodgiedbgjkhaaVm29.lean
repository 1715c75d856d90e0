/-
  Arguments: a slice of numbers.
-/
import Derived.Test.YtiodgiedbgjkhaaVm28
set_option linter.unusedVariables false
set_option linter.unusedSimpArgs false
namespace Go.Vm

def IsRow (k : IntKind) (w : World) (a : Option Addr) (len cap : Nat) (zs : List Int) : Prop :=
  (a = none ∧ len = 0 ∧ cap = 0 ∧ zs = []) ∨
  ∃ x, a = some x ∧ len ≤ cap ∧ cap ≤ maxLen ∧ zs.length = cap ∧ (∀ i, i < zs.length → w.cell? (x.add i) = some (.int k (zs.getD i 0))) ∧ ∀ n ∈ zs, (Lit.int k n).wf = true

theorem list_one {α : Type} : ∀ {l : List α}, l.length = 1 → ∃ a, l = [a]
  | [a], _ => ⟨a, rfl⟩
  | [], h => by simp at h
  | _ :: _ :: _, h => by simp at h
theorem list_two {α : Type} : ∀ {l : List α}, l.length = 2 → ∃ a b, l = [a, b]
  | [a, b], _ => ⟨a, b, rfl⟩
  | [], h => by simp at h
  | [_], h => by simp at h
  | _ :: _ :: _ :: _, h => by simp at h
theorem list_four {α : Type} {l : List α} (h : l.length = 4) : ∃ a b c d, l = [a, b, c, d] := by
  cases l with
  | nil => simp at h
  | cons a l => cases l with
    | nil => simp at h
    | cons b l =>
      obtain ⟨c, d, rfl⟩ := list_two (l := l) (by simpa using h)
      exact ⟨a, b, c, d, rfl⟩

def roMap (L : Loc) : Map := fun b => if b = 0 then some L else none

theorem own_ro {bs : List Blk} (h : ∀ b ∈ bs, b = .void ∨ ∃ cs, b = .cells false cs) (i : Nat) : ¬ Owned bs i := by
  rintro (⟨cs, hi⟩ | ⟨r, hi⟩)
  · rcases h _ (List.mem_of_getElem? hi) with h | ⟨_, h⟩ <;> cases h
  · rcases h _ (List.mem_of_getElem? hi) with h | ⟨_, h⟩ <;> cases h

/-- A slice of numbers as an argument, in the small machine: nothing, an empty one, or its numbers. -/
theorem row_rel {k : IntKind} {w : World} {a : Option Addr} {len cap : Nat} {zs : List Int} (h : IsRow k w a len cap zs) :
    (a = none ∧ len = 0 ∧ cap = 0 ∧ zs = [] ∧ Rel (fun _ => none) [] w ∧ VR (fun _ => none) (.sl 1 none 0) (.slice a len cap)) ∨
    (∃ ρ, len = 0 ∧ cap = 0 ∧ zs = [] ∧ Rel ρ [.void] w ∧ VR ρ (.sl 1 (some (0, 0)) 0) (.slice a len cap)) ∨
    (∃ ρ, len ≤ cap ∧ zs.length = cap ∧ Rel ρ [.cells false ((zs.take len).map (.int k))] w ∧ VR ρ (.sl 1 (some (0, 0)) len) (.slice a len cap)) := by
  rcases h with ⟨rfl, rfl, rfl, rfl⟩ | ⟨x, rfl, hl, hm, hz, hc, _⟩
  · exact .inl ⟨rfl, rfl, rfl, rfl, rel_nil w, .slN _⟩
  · right
    by_cases h0 : cap = 0
    · subst h0
      have hl0 : len = 0 := by omega
      subst hl0
      refine .inl ⟨roMap ⟨0, 0, 0, .void⟩, rfl, rfl, List.eq_nil_of_length_eq_zero hz, ⟨?_, ?_, fun b _ _ _ h => absurd h (own_ro (by simp) b)⟩, ?_⟩
      · intro b L hb
        unfold roMap at hb
        split at hb
        · simp; omega
        · cases hb
      · intro b q hb
        cases b with
        | zero =>
          simp at hb
          subst hb
          exact ⟨_, rfl, rfl⟩
        | succ b => simp at hb
      · exact .sl 1 0 0 0 0 x ⟨0, 0, 0, .void⟩ rfl (Nat.le_refl _) (.inl rfl) (fun h => by cases h) (fun _ => rfl) (by simp) (fun hb => absurd hb (by decide))
    · have hcell := hc 0 (by omega)
      have hx0 : x.add 0 = x := by simp [Addr.add]
      rw [hx0] at hcell
      unfold World.cell? at hcell
      split at hcell
      · rename_i C ty fz hC
        split at hcell
        · cases hcell
        · rename_i hsp
          have hspot : x.spot = none := by simpa using hsp
          refine .inr ⟨roMap ⟨x.block, x.off, 0, .ro⟩, hl, hz, ⟨?_, ?_, fun b _ _ _ h => absurd h (own_ro (by simp) b)⟩, ?_⟩
          · intro b L hb
            unfold roMap at hb
            split at hb
            · simp; omega
            · cases hb
          · intro b q hb
            cases b with
            | zero =>
              simp at hb
              subst hb
              refine ⟨_, C, ty, fz, rfl, rfl, hC, fun i v hi => ?_, fun h => by cases h⟩
              rw [List.getElem?_take] at hi
              split at hi
              · rename_i hil
                have hiz : i < zs.length := by omega
                rw [List.getElem?_map, List.getElem?_eq_getElem hiz] at hi
                simp at hi
                subst hi
                have hci := hc i hiz
                have hget : zs.getD i 0 = zs[i] := by simp [List.getD_eq_getElem?_getD, hiz]
                rw [hget] at hci
                refine ⟨_, ?_, .int _ _⟩
                unfold World.cell? at hci
                by_cases hi0 : i = 0
                · subst hi0
                  rw [hx0] at hci
                  rw [hC] at hci
                  simpa [hspot] using hci
                · have hb : (x.add i).block = x.block := by simp [Addr.add, hi0]
                  have hsp' : (x.add i).spot = none := by simp [Addr.add, hi0]
                  have hoff : (x.add i).off = x.off + i := by simp [Addr.add, hi0]
                  rw [hb, hC] at hci
                  simpa [hsp', hoff] using hci
              · simp at hi
            | succ b => simp at hb
          · refine .sl 1 0 0 len cap x ⟨x.block, x.off, 0, .ro⟩ rfl hl (.inr ?_) (fun h => by cases h) (fun h => by cases h) (by simp) (fun hb => absurd hb (by decide))
            cases x
            simp at hspot
            subst hspot
            rfl
      · cases hcell

end Go.Vm
