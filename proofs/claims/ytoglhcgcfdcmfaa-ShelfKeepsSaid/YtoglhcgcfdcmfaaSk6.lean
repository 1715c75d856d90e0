/-
  What becomes of a table while it is ranged over plays no part: the law.
-/
import Derived.Test.YtoglhcgcfdcmfaaSk5
set_option linter.unusedVariables false
set_option linter.unusedSimpArgs false
set_option maxRecDepth 100000
namespace Go.Proofs.Ytoglhcgcfdcmfaa.shelf
open Go Go.Vm Go.Shelf

theorem typed_k {r : List V} (h : Typed [.int .i64, .int .i64, .int .i64] r) : ∃ x, r = encD x ∧ rng x.2.1 := by
  match r, h with
  | [.int k0 n0, .int k1 n1, .int k2 n2], h =>
    obtain ⟨⟨rfl, _⟩, ⟨rfl, w1⟩, ⟨rfl, _⟩, _⟩ := h
    exact ⟨(n0, n1, n2), rfl, wf_i64 w1⟩

theorem betw_nil (a b : Int) : betw [] a b = [] := rfl
theorem kz (stp : Int) (h : 0 ≤ stp ∧ stp < 256) : ((0 : Int) == (if (IntKind.wrap .i64 stp) < ((([] : List R2).length : Nat) : Int) then (IntKind.wrap .i64 stp) else ((([] : List R2).length : Nat) : Int))) = true := by
  rw [wrap_i64 (n := stp) (by omega), if_neg (by simp; omega)]
  rfl
theorem law_kr (rows : List (List V)) (hr : ∀ r ∈ rows, Typed (leaves Try.prog 2 93) r) (stp : Int) (wx : (Lit.int .u8 stp).wf = true) : ∃ H', OK cfg (.fn 6 []) [.sl 3 (some (0, 0)) rows.length, .int .u8 stp] [.cells false rows.flatten] (.bool true) H' := by
  have e : leaves Try.prog 2 93 = [.int .i64, .int .i64, .int .i64] := by kernel_rfl
  rw [e] at hr
  obtain ⟨S, rfl, hS⟩ := rows_of (f := encD) (p := fun x => rng x.2.1) (fun r hr => typed_k hr) hr
  rw [List.length_map]
  have hx := wf_u8 wx
  have hg : ∀ i, i < S.length → rng (gD S i).2.1 := fun i h => hS _ (getD_mem h)
  have ew : IntKind.wrap .i64 stp = stp := wrap_i64 (by omega)
  rcases play_okB S hg with ⟨Z, Y, hI, hl, hp⟩ | ⟨ez, Y, hI, hp⟩
  · have hy : Y.length = Z.length := hI.1.2.length_eq.symm
    have hM : betw Y (-9223372036854775808) 9223372036854775807 = Z := (betw_mid hI.1 _ _).trans (mid_all hI.2)
    obtain ⟨k1, k2⟩ := sk_all Z stp hx hl Z.length 0 Z (by omega) hI.1.1 (by omega) (by omega)
    by_cases h : (Z.length : Int) ≤ stp
    · exact ⟨_, kf_x S 0 Z.length Z Z Y stp hp (k1 h) (by omega) (by omega) (congrArg (fun X : List R2 => (X.map encR).flatten) hM) (congrArg List.length hM) (by rw [ew]; split <;> simp <;> omega)⟩
    · exact ⟨_, kf_r S 0 stp.toNat Z Z Y stp hp (k2 (by omega)) (by omega) (by omega) (congrArg (fun X : List R2 => (X.map encR).flatten) hM) (congrArg List.length hM) (by rw [ew]; split <;> simp <;> omega)⟩
  · have hy : Y = [] := List.nil_perm.1 hI.1.2
    subst hy
    exact ⟨_, kn S ez 0 [] [] [] stp hp (by simp) (kz stp hx)⟩
theorem law_kn (stp : Int) (wx : (Lit.int .u8 stp).wf = true) : ∃ H', OK cfg (.fn 6 []) [.sl 3 none 0, .int .u8 stp] [] (.bool true) H' :=
  ⟨_, k0 stp (by simp) rfl rfl (kz stp (wf_u8 wx))⟩
theorem law_kv (stp : Int) (wx : (Lit.int .u8 stp).wf = true) : ∃ H', OK cfg (.fn 6 []) [.sl 3 (some (0, 0)) 0, .int .u8 stp] [.void] (.bool true) H' :=
  ⟨_, kv stp (by simp) rfl rfl (kz stp (wf_u8 wx))⟩
end Go.Proofs.Ytoglhcgcfdcmfaa.shelf
namespace Go.Proofs.Ytoglhcgcfdcmfaa.shelfKeeps
open Go Go.Vm
noncomputable abbrev cfg : Cfg := shelf.cfg
theorem law_n (a1 : Int) (w1 : (Lit.int .u8 a1).wf = true) : ∃ H', OK cfg (.fn 6 []) [.sl 3 none 0, .int .u8 a1] [] (.bool true) H' := shelf.law_kn a1 w1
theorem law_v (a1 : Int) (w1 : (Lit.int .u8 a1).wf = true) : ∃ H', OK cfg (.fn 6 []) [.sl 3 (some (0, 0)) 0, .int .u8 a1] [.void] (.bool true) H' := shelf.law_kv a1 w1
theorem law_r (rows : List (List V)) (hr : ∀ r ∈ rows, Typed (leaves Try.prog 2 93) r) (a1 : Int) (w1 : (Lit.int .u8 a1).wf = true) : ∃ H', OK cfg (.fn 6 []) [.sl 3 (some (0, 0)) rows.length, .int .u8 a1] [.cells false rows.flatten] (.bool true) H' := shelf.law_kr rows hr a1 w1

end Go.Proofs.Ytoglhcgcfdcmfaa.shelfKeeps
