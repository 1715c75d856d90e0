/-
  Numbers put and got: ways printed by ps.py, checked by the kernel.
-/
import Derived.Test.YteljlgjofmbniaaVm45
import Derived.Test.YteljlgjofmbniaaProg
set_option linter.unusedVariables false
set_option linter.unusedSimpArgs false
set_option maxRecDepth 100000
namespace Go.Proofs.Yteljlgjofmbniaa.words
open Go Go.Vm
noncomputable def cfg : Cfg := { P := Try.prog, iso := [], masks := fun _ _ => none }
theorem hmix : cfg.P.follows .mixedOrders = true := by kernel_rfl
noncomputable def lb (f k : Nat) : Code := loopAt Try.prog f k

def sz (k : Int) : Int := if k = 1 ∨ k = 2 ∨ k = 5 then 1 else if k = 3 ∨ k = 6 then 2 else if k = 4 ∨ k = 7 then 4 else 0
def lo (k : Int) : Int := if k = 5 then -128 else if k = 6 then -32768 else if k = 7 then -2147483648 else 0
def hi (k : Int) : Int := if k = 1 then 1 else if k = 2 then 255 else if k = 3 then 65535 else if k = 4 then 4294967295 else if k = 5 then 127 else if k = 6 then 32767 else if k = 7 then 2147483647 else 0


def fits (k n : Int) : Bool := decide (sz k > 0) && (decide (n ≥ lo k) && decide (n ≤ hi k))

def bytes (k n : Int) : List Int := if sz k = 1 then [n % 256] else if sz k = 2 then [n % 256, n / 256 % 256] else [n % 256, n / 256 % 256, n / 65536 % 256, n / 16777216 % 256]
theorem sz_cases (k : Int) : sz k = 0 ∨ sz k = 1 ∨ sz k = 2 ∨ sz k = 4 := by
  unfold sz
  by_cases h1 : k = 1 ∨ k = 2 ∨ k = 5
  · simp [h1]
  by_cases h2 : k = 3 ∨ k = 6
  · simp [h1, h2]
  by_cases h3 : k = 4 ∨ k = 7
  · simp [h1, h2, h3]
  · simp [h1, h2, h3]

def pw (k : Int) : Int := if sz k = 1 then 256 else if sz k = 2 then 65536 else 4294967296

theorem or_comm64 (x y : Int) : Go.bits .or .i64 x y = Go.bits .or .i64 y x := by
  simp only [bits]
  rw [BitVec.or_comm]
theorem i64_small (n : Int) (h₀ : 0 ≤ n) (h₁ : n < 2 ^ 40) : IntKind.i64.wrap n = n := by
  rw [IntKind.wrap_i64]
  have : (2 : Int) ^ 40 = 1099511627776 := rfl
  omega

def num : List Int → Int
  | [] => 0
  | b :: l => b + 256 * num l
def sg (k : Int) : Bool := k == 5 || k == 6 || k == 7

def adj (k m : Int) : Int := if sg k = true ∧ m > hi k then m - pw k else m
def got (k : Int) (l : List Int) : Int × Int := if fits k (adj k (num l)) then (adj k (num l), 0) else (0, 4)


def okb (l : List Int) : Prop := ∀ x ∈ l, 0 ≤ x ∧ x < 256

def gets (k : Int) (l : List Int) : Int × Int := if sz k = 0 then (0, 2) else if (l.length : Int) = sz k then got k l else (0, 11)

theorem bytes_ok (k n : Int) : okb (bytes k n) := by
  intro x hx
  unfold bytes at hx
  split at hx
  · simp at hx; omega
  · split at hx
    · simp at hx; omega
    · simp at hx; omega

theorem back1 (k n : Int) (h : fits k n = true) : gets k (bytes k n) = (n, 0) := by
  have hf := h
  simp only [fits, Bool.and_eq_true, decide_eq_true_eq] at h
  obtain ⟨hp, h1, h2⟩ := h
  unfold gets
  rw [if_neg (by omega)]
  have hlen : ((bytes k n).length : Int) = sz k := by
    unfold bytes
    rcases sz_cases k with e | e | e | e
    · omega
    · rw [e]; rfl
    · rw [e]; rfl
    · rw [e]; rfl
  rw [if_pos hlen]
  have key : adj k (num (bytes k n)) = n := by
    by_cases k1 : k = 1
    · subst k1; simp [lo, hi] at h1 h2; simp [bytes, sz, num, adj, sg]; omega
    by_cases k2 : k = 2
    · subst k2; simp [lo, hi] at h1 h2; simp [bytes, sz, num, adj, sg]; omega
    by_cases k3 : k = 3
    · subst k3; simp [lo, hi] at h1 h2; simp [bytes, sz, num, adj, sg]; omega
    by_cases k4 : k = 4
    · subst k4; simp [lo, hi] at h1 h2; simp [bytes, sz, num, adj, sg]; omega
    by_cases k5 : k = 5
    · subst k5; simp [lo, hi] at h1 h2; simp [bytes, sz, num, adj, sg, hi, pw]; omega
    by_cases k6 : k = 6
    · subst k6; simp [lo, hi] at h1 h2; simp [bytes, sz, num, adj, sg, hi, pw]; omega
    by_cases k7 : k = 7
    · subst k7; simp [lo, hi] at h1 h2; simp [bytes, sz, num, adj, sg, hi, pw]; omega
    simp [sz, k1, k2, k3, k4, k5, k6, k7] at hp
  unfold got
  rw [key, if_pos hf]

theorem back2 (k : Int) (l : List Int) (hb : okb l) (m : Int) (h : gets k l = (m, 0)) : fits k m = true ∧ bytes k m = l := by
  unfold gets at h
  by_cases h0 : sz k = 0
  · rw [if_pos h0] at h; simp at h
  rw [if_neg h0] at h
  by_cases h1 : (l.length : Int) = sz k
  · rw [if_pos h1] at h
    unfold got at h
    by_cases hf : fits k (adj k (num l)) = true
    · rw [if_pos hf] at h
      obtain rfl : adj k (num l) = m := by simpa using h
      refine ⟨hf, ?_⟩
      have hadj : adj k (num l) = num l ∨ adj k (num l) = num l - pw k := by unfold adj; split <;> simp
      generalize adj k (num l) = m at *
      rcases sz_cases k with e | e | e | e
      · omega
      · obtain ⟨a, rfl⟩ : ∃ a, l = [a] := by
          rcases l with _ | ⟨a, _ | ⟨b, l⟩⟩
          · simp at h1; omega
          · exact ⟨a, rfl⟩
          · simp at h1; omega
        have ha := hb a (by simp)
        simp [pw, e, num] at hadj
        simp [bytes, e]; omega
      · obtain ⟨a, b, rfl⟩ : ∃ a b, l = [a, b] := by
          rcases l with _ | ⟨a, _ | ⟨b, _ | ⟨c, l⟩⟩⟩
          · simp at h1; omega
          · simp at h1; omega
          · exact ⟨a, b, rfl⟩
          · simp at h1; omega
        have ha := hb a (by simp)
        have hb' := hb b (by simp)
        simp [pw, e, num] at hadj
        simp [bytes, e]; omega
      · obtain ⟨a, b, c, d, rfl⟩ : ∃ a b c d, l = [a, b, c, d] := by
          rcases l with _ | ⟨a, _ | ⟨b, _ | ⟨c, _ | ⟨d, _ | ⟨f, l⟩⟩⟩⟩⟩
          · simp at h1; omega
          · simp at h1; omega
          · simp at h1; omega
          · simp at h1; omega
          · exact ⟨a, b, c, d, rfl⟩
          · simp at h1; omega
        have ha := hb a (by simp)
        have hb' := hb b (by simp)
        have hc := hb c (by simp)
        have hd := hb d (by simp)
        simp [pw, e, num] at hadj
        simp [bytes, e]; omega
    · rw [if_neg hf] at h; simp at h
  · rw [if_neg h1] at h; simp at h

theorem gets_err (k : Int) (l : List Int) (h : (gets k l).2 ≠ 0) : (gets k l).1 = 0 := by
  by_cases h0 : sz k = 0
  · have e : gets k l = (0, 2) := by unfold gets; rw [if_pos h0]
    rw [e]
  · by_cases h1 : (l.length : Int) = sz k
    · have e : gets k l = got k l := by unfold gets; rw [if_neg h0, if_pos h1]
      rw [e] at h ⊢
      unfold got at *
      by_cases h2 : fits k (adj k (num l)) = true
      · rw [if_pos h2] at h; exact absurd rfl h
      · rw [if_neg h2]
    · have e : gets k l = (0, 11) := by unfold gets; rw [if_neg h0, if_neg h1]
      rw [e]



theorem size_o (k : Int) (h0 : ((k : Int) == 1) = false) (h1 : ((k : Int) == 2) = false) (h2 : ((k : Int) == 5) = false) (h3 : ((k : Int) == 3) = false) (h4 : ((k : Int) == 6) = false) (h5 : ((k : Int) == 4) = false) (h6 : ((k : Int) == 7) = false) : OK cfg (.fn 40 []) [(.int .i64 k)] [] (.int .i64 0) [] :=
  ok_fn' hmix (n := 40) (os := [.c, .c, .c, .c, .f, .c, .c, .f, .c, .c, .f, .c, .c, .f, .c, .c, .f, .c, .c, .f, .c, .c, .f, .c]) (by kernel_rfl) (And.intro (Eq.refl true) (And.intro (Eq.refl true) (And.intro (Eq.refl true) (And.intro h0 (And.intro (Eq.refl true) (And.intro h1 (And.intro (Eq.refl true) (And.intro h2 (And.intro (Eq.refl true) (And.intro h3 (And.intro (Eq.refl true) (And.intro h4 (And.intro (Eq.refl true) (And.intro h5 (And.intro (Eq.refl true) (And.intro h6 (And.intro (Eq.refl true) (Eq.refl (((.int .i64 0) : V), ([] : Heap))))))))))))))))))))

theorem size_ok (k : Int) (H : Heap) : OK cfg (.fn 40 []) [.int .i64 k] H (.int .i64 (sz k)) H := by
  by_cases h1 : k = 1
  · subst h1; obtain ⟨H', h⟩ : ∃ H', OK cfg (.fn 40 []) [.int .i64 1] [] (.int .i64 (sz 1)) H' := ok_run hmix 40 (by kernel_rfl)
    exact OK.anyH h rfl (.inl rfl) H
  by_cases h2 : k = 2
  · subst h2; obtain ⟨H', h⟩ : ∃ H', OK cfg (.fn 40 []) [.int .i64 2] [] (.int .i64 (sz 2)) H' := ok_run hmix 40 (by kernel_rfl)
    exact OK.anyH h rfl (.inl rfl) H
  by_cases h3 : k = 3
  · subst h3; obtain ⟨H', h⟩ : ∃ H', OK cfg (.fn 40 []) [.int .i64 3] [] (.int .i64 (sz 3)) H' := ok_run hmix 40 (by kernel_rfl)
    exact OK.anyH h rfl (.inl rfl) H
  by_cases h4 : k = 4
  · subst h4; obtain ⟨H', h⟩ : ∃ H', OK cfg (.fn 40 []) [.int .i64 4] [] (.int .i64 (sz 4)) H' := ok_run hmix 40 (by kernel_rfl)
    exact OK.anyH h rfl (.inl rfl) H
  by_cases h5 : k = 5
  · subst h5; obtain ⟨H', h⟩ : ∃ H', OK cfg (.fn 40 []) [.int .i64 5] [] (.int .i64 (sz 5)) H' := ok_run hmix 40 (by kernel_rfl)
    exact OK.anyH h rfl (.inl rfl) H
  by_cases h6 : k = 6
  · subst h6; obtain ⟨H', h⟩ : ∃ H', OK cfg (.fn 40 []) [.int .i64 6] [] (.int .i64 (sz 6)) H' := ok_run hmix 40 (by kernel_rfl)
    exact OK.anyH h rfl (.inl rfl) H
  by_cases h7 : k = 7
  · subst h7; obtain ⟨H', h⟩ : ∃ H', OK cfg (.fn 40 []) [.int .i64 7] [] (.int .i64 (sz 7)) H' := ok_run hmix 40 (by kernel_rfl)
    exact OK.anyH h rfl (.inl rfl) H
  exact OK.anyH (OK.eqv (size_o k (by simp [*]) (by simp [*]) (by simp [*]) (by simp [*]) (by simp [*]) (by simp [*]) (by simp [*])) (by simp [sz, sz, *])) rfl (.inl rfl) H

theorem low_q_1 (k : Int) (h0 : ((k : Int) == 5) = false) (h1 : ((k : Int) == 6) = false) : OK cfg (.fn 53 []) [(.int .i64 k)] [] (.bool ((k : Int) == 7)) [] :=
  ok_fn' hmix (n := 40) (os := [.c, .c, .c, .c, .t, .c, .c, .c, .c, .c, .t, .c, .c, .c, .c, .c]) (by kernel_rfl) (And.intro (Eq.refl true) (And.intro h0 (And.intro h1 (And.intro (Eq.refl true) (Eq.refl (((.bool ((k : Int) == 7)) : V), ([] : Heap)))))))

theorem low_o (k : Int) (h0 : ((k : Int) == 5) = false) (h1 : ((k : Int) == 6) = false) (h2 : (!((k : Int) == 7)) = true) : OK cfg (.fn 61 []) [(.int .i64 k)] [] (.int .i64 0) [.dead] :=
  ok_fn' hmix (n := 40) (os := [.c, .c, .r (.bool ((k : Int) == 7)) [.dead], .c, .t, .c]) (by kernel_rfl) (And.intro (Eq.refl true) (And.intro (OK.pad (low_q_1 k h0 h1)) (And.intro (Eq.refl true) (And.intro h2 (And.intro (Eq.refl true) (Eq.refl (((.int .i64 0) : V), ([.dead] : Heap))))))))

theorem low_ok (k : Int) (H : Heap) : OK cfg (.fn 61 []) [.int .i64 k] H (.int .i64 (lo k)) H := by
  by_cases h1 : k = 1
  · subst h1; obtain ⟨H', h⟩ : ∃ H', OK cfg (.fn 61 []) [.int .i64 1] [] (.int .i64 (lo 1)) H' := ok_run hmix 40 (by kernel_rfl)
    exact OK.anyH h rfl (.inl rfl) H
  by_cases h2 : k = 2
  · subst h2; obtain ⟨H', h⟩ : ∃ H', OK cfg (.fn 61 []) [.int .i64 2] [] (.int .i64 (lo 2)) H' := ok_run hmix 40 (by kernel_rfl)
    exact OK.anyH h rfl (.inl rfl) H
  by_cases h3 : k = 3
  · subst h3; obtain ⟨H', h⟩ : ∃ H', OK cfg (.fn 61 []) [.int .i64 3] [] (.int .i64 (lo 3)) H' := ok_run hmix 40 (by kernel_rfl)
    exact OK.anyH h rfl (.inl rfl) H
  by_cases h4 : k = 4
  · subst h4; obtain ⟨H', h⟩ : ∃ H', OK cfg (.fn 61 []) [.int .i64 4] [] (.int .i64 (lo 4)) H' := ok_run hmix 40 (by kernel_rfl)
    exact OK.anyH h rfl (.inl rfl) H
  by_cases h5 : k = 5
  · subst h5; obtain ⟨H', h⟩ : ∃ H', OK cfg (.fn 61 []) [.int .i64 5] [] (.int .i64 (lo 5)) H' := ok_run hmix 40 (by kernel_rfl)
    exact OK.anyH h rfl (.inl rfl) H
  by_cases h6 : k = 6
  · subst h6; obtain ⟨H', h⟩ : ∃ H', OK cfg (.fn 61 []) [.int .i64 6] [] (.int .i64 (lo 6)) H' := ok_run hmix 40 (by kernel_rfl)
    exact OK.anyH h rfl (.inl rfl) H
  by_cases h7 : k = 7
  · subst h7; obtain ⟨H', h⟩ : ∃ H', OK cfg (.fn 61 []) [.int .i64 7] [] (.int .i64 (lo 7)) H' := ok_run hmix 40 (by kernel_rfl)
    exact OK.anyH h rfl (.inl rfl) H
  exact OK.anyH (OK.eqv (low_o k (by simp [*]) (by simp [*]) (by simp [*])) (by simp [lo, sz, *])) rfl (.inl rfl) H

theorem high_q_1 (k : Int) (h0 : ((k : Int) == 5) = false) (h1 : ((k : Int) == 6) = false) : OK cfg (.fn 53 []) [(.int .i64 k)] [] (.bool ((k : Int) == 7)) [] :=
  ok_fn' hmix (n := 40) (os := [.c, .c, .c, .c, .t, .c, .c, .c, .c, .c, .t, .c, .c, .c, .c, .c]) (by kernel_rfl) (And.intro (Eq.refl true) (And.intro h0 (And.intro h1 (And.intro (Eq.refl true) (Eq.refl (((.bool ((k : Int) == 7)) : V), ([] : Heap)))))))

theorem high_q_2 (k : Int) (h0 : ((k : Int) == 1) = false) (h1 : ((k : Int) == 2) = false) (h2 : ((k : Int) == 5) = false) (h3 : ((k : Int) == 3) = false) (h4 : ((k : Int) == 6) = false) (h5 : ((k : Int) == 4) = false) (h6 : ((k : Int) == 7) = false) : OK cfg (.fn 40 []) [(.int .i64 k)] [.dead] (.int .i64 0) [.dead] :=
  ok_fn' hmix (n := 40) (os := [.c, .c, .c, .c, .f, .c, .c, .f, .c, .c, .f, .c, .c, .f, .c, .c, .f, .c, .c, .f, .c, .c, .f, .c]) (by kernel_rfl) (And.intro (Eq.refl true) (And.intro (Eq.refl true) (And.intro (Eq.refl true) (And.intro h0 (And.intro (Eq.refl true) (And.intro h1 (And.intro (Eq.refl true) (And.intro h2 (And.intro (Eq.refl true) (And.intro h3 (And.intro (Eq.refl true) (And.intro h4 (And.intro (Eq.refl true) (And.intro h5 (And.intro (Eq.refl true) (And.intro h6 (And.intro (Eq.refl true) (Eq.refl (((.int .i64 0) : V), ([.dead] : Heap))))))))))))))))))))

theorem high_o (k : Int) (h0 : ((k : Int) == 1) = false) (h1 : ((k : Int) == 5) = false) (h2 : ((k : Int) == 6) = false) (h3 : ((k : Int) == 7) = false) (h4 : ((k : Int) == 2) = false) (h5 : ((k : Int) == 3) = false) (h6 : ((k : Int) == 4) = false) : OK cfg (.fn 54 []) [(.int .i64 k)] [] (.int .i64 0) [.dead, .dead] :=
  ok_fn' hmix (n := 40) (os := [.c, .c, .c, .c, .f, .c, .r (.bool ((k : Int) == 7)) [.dead], .c, .f, .c, .r (.int .i64 0) [.dead, .dead], .c, .c, .c, .c]) (by kernel_rfl) (And.intro (Eq.refl true) (And.intro (Eq.refl true) (And.intro h0 (And.intro (OK.pad (high_q_1 k h1 h2)) (And.intro (Eq.refl true) (And.intro h3 (And.intro (OK.pad (high_q_2 k h0 h4 h1 h5 h2 h6 h3)) (And.intro (Eq.refl true) (Eq.refl (((.int .i64 0) : V), ([.dead, .dead] : Heap)))))))))))

theorem high_ok (k : Int) (H : Heap) : OK cfg (.fn 54 []) [.int .i64 k] H (.int .i64 (hi k)) H := by
  by_cases h1 : k = 1
  · subst h1; obtain ⟨H', h⟩ : ∃ H', OK cfg (.fn 54 []) [.int .i64 1] [] (.int .i64 (hi 1)) H' := ok_run hmix 40 (by kernel_rfl)
    exact OK.anyH h rfl (.inl rfl) H
  by_cases h2 : k = 2
  · subst h2; obtain ⟨H', h⟩ : ∃ H', OK cfg (.fn 54 []) [.int .i64 2] [] (.int .i64 (hi 2)) H' := ok_run hmix 40 (by kernel_rfl)
    exact OK.anyH h rfl (.inl rfl) H
  by_cases h3 : k = 3
  · subst h3; obtain ⟨H', h⟩ : ∃ H', OK cfg (.fn 54 []) [.int .i64 3] [] (.int .i64 (hi 3)) H' := ok_run hmix 40 (by kernel_rfl)
    exact OK.anyH h rfl (.inl rfl) H
  by_cases h4 : k = 4
  · subst h4; obtain ⟨H', h⟩ : ∃ H', OK cfg (.fn 54 []) [.int .i64 4] [] (.int .i64 (hi 4)) H' := ok_run hmix 40 (by kernel_rfl)
    exact OK.anyH h rfl (.inl rfl) H
  by_cases h5 : k = 5
  · subst h5; obtain ⟨H', h⟩ : ∃ H', OK cfg (.fn 54 []) [.int .i64 5] [] (.int .i64 (hi 5)) H' := ok_run hmix 40 (by kernel_rfl)
    exact OK.anyH h rfl (.inl rfl) H
  by_cases h6 : k = 6
  · subst h6; obtain ⟨H', h⟩ : ∃ H', OK cfg (.fn 54 []) [.int .i64 6] [] (.int .i64 (hi 6)) H' := ok_run hmix 40 (by kernel_rfl)
    exact OK.anyH h rfl (.inl rfl) H
  by_cases h7 : k = 7
  · subst h7; obtain ⟨H', h⟩ : ∃ H', OK cfg (.fn 54 []) [.int .i64 7] [] (.int .i64 (hi 7)) H' := ok_run hmix 40 (by kernel_rfl)
    exact OK.anyH h rfl (.inl rfl) H
  exact OK.anyH (OK.eqv (high_o k (by simp [*]) (by simp [*]) (by simp [*]) (by simp [*]) (by simp [*]) (by simp [*]) (by simp [*])) (by simp [hi, sz, *])) rfl (.inl rfl) H


theorem sign_o (k : Int) (h0 : ((k : Int) == 5) = false) (h1 : ((k : Int) == 6) = false) : OK cfg (.fn 53 []) [(.int .i64 k)] [] (.bool ((k : Int) == 7)) [] :=
  ok_fn' hmix (n := 40) (os := [.c, .c, .c, .c, .t, .c, .c, .c, .c, .c, .t, .c, .c, .c, .c, .c]) (by kernel_rfl) (And.intro (Eq.refl true) (And.intro h0 (And.intro h1 (And.intro (Eq.refl true) (Eq.refl (((.bool ((k : Int) == 7)) : V), ([] : Heap)))))))

theorem sign_ok (k : Int) (H : Heap) : OK cfg (.fn 53 []) [.int .i64 k] H (.bool (sg k)) H := by
  by_cases h1 : k = 1
  · subst h1; obtain ⟨H', h⟩ : ∃ H', OK cfg (.fn 53 []) [.int .i64 1] [] (.bool (sg 1)) H' := ok_run hmix 40 (by kernel_rfl)
    exact OK.anyH h rfl (.inl rfl) H
  by_cases h2 : k = 2
  · subst h2; obtain ⟨H', h⟩ : ∃ H', OK cfg (.fn 53 []) [.int .i64 2] [] (.bool (sg 2)) H' := ok_run hmix 40 (by kernel_rfl)
    exact OK.anyH h rfl (.inl rfl) H
  by_cases h3 : k = 3
  · subst h3; obtain ⟨H', h⟩ : ∃ H', OK cfg (.fn 53 []) [.int .i64 3] [] (.bool (sg 3)) H' := ok_run hmix 40 (by kernel_rfl)
    exact OK.anyH h rfl (.inl rfl) H
  by_cases h4 : k = 4
  · subst h4; obtain ⟨H', h⟩ : ∃ H', OK cfg (.fn 53 []) [.int .i64 4] [] (.bool (sg 4)) H' := ok_run hmix 40 (by kernel_rfl)
    exact OK.anyH h rfl (.inl rfl) H
  by_cases h5 : k = 5
  · subst h5; obtain ⟨H', h⟩ : ∃ H', OK cfg (.fn 53 []) [.int .i64 5] [] (.bool (sg 5)) H' := ok_run hmix 40 (by kernel_rfl)
    exact OK.anyH h rfl (.inl rfl) H
  by_cases h6 : k = 6
  · subst h6; obtain ⟨H', h⟩ : ∃ H', OK cfg (.fn 53 []) [.int .i64 6] [] (.bool (sg 6)) H' := ok_run hmix 40 (by kernel_rfl)
    exact OK.anyH h rfl (.inl rfl) H
  by_cases h7 : k = 7
  · subst h7; obtain ⟨H', h⟩ : ∃ H', OK cfg (.fn 53 []) [.int .i64 7] [] (.bool (sg 7)) H' := ok_run hmix 40 (by kernel_rfl)
    exact OK.anyH h rfl (.inl rfl) H
  exact OK.anyH (OK.eqv (sign_o k (by simp [*]) (by simp [*])) (by simp [sg, sz, *])) rfl (.inl rfl) H

theorem fits_tree_w0 (k v : Int) (h0 : (decide (((sz k) : Int) > 0)) = false) : OK cfg (.fn 52 []) [(.int .i64 k), (.int .i64 v)] [] (.bool false) [.dead] :=
  ok_fn' hmix (n := 40) (os := [.c, .c, .r (.int .i64 (sz k)) [.dead], .c, .c, .f, .c, .c, .c, .c, .c, .c, .c, .c, .c, .c, .c]) (by kernel_rfl) (And.intro (Eq.refl true) (And.intro (OK.pad (size_ok k [])) (And.intro h0 (And.intro (Eq.refl true) (Eq.refl (((.bool false) : V), ([.dead] : Heap)))))))

theorem fits_tree_w1 (k v : Int) (h0 : (decide (((sz k) : Int) > 0)) = true) (h1 : (decide ((v : Int) ≥ (lo k))) = false) : OK cfg (.fn 52 []) [(.int .i64 k), (.int .i64 v)] [] (.bool false) [.dead, .dead] :=
  ok_fn' hmix (n := 40) (os := [.c, .c, .r (.int .i64 (sz k)) [.dead], .c, .c, .t, .c, .c, .c, .c, .r (.int .i64 (lo k)) [.dead, .dead], .c, .c, .c, .c, .f, .c, .c, .c, .c, .c]) (by kernel_rfl) (And.intro (Eq.refl true) (And.intro (OK.pad (size_ok k [])) (And.intro h0 (And.intro (OK.pad (low_ok k [.dead])) (And.intro h1 (And.intro (Eq.refl true) (Eq.refl (((.bool false) : V), ([.dead, .dead] : Heap)))))))))

theorem fits_tree_w2 (k v : Int) (h0 : (decide (((sz k) : Int) > 0)) = true) (h1 : (decide ((v : Int) ≥ (lo k))) = true) : OK cfg (.fn 52 []) [(.int .i64 k), (.int .i64 v)] [] (.bool (decide ((v : Int) ≤ (hi k)))) [.dead, .dead, .dead] :=
  ok_fn' hmix (n := 40) (os := [.c, .c, .r (.int .i64 (sz k)) [.dead], .c, .c, .t, .c, .c, .c, .c, .r (.int .i64 (lo k)) [.dead, .dead], .c, .c, .c, .c, .t, .c, .c, .c, .c, .r (.int .i64 (hi k)) [.dead, .dead, .dead], .c, .c, .c, .c]) (by kernel_rfl) (And.intro (Eq.refl true) (And.intro (OK.pad (size_ok k [])) (And.intro h0 (And.intro (OK.pad (low_ok k [.dead])) (And.intro h1 (And.intro (OK.pad (high_ok k [.dead, .dead])) (And.intro (Eq.refl true) (Eq.refl (((.bool (decide ((v : Int) ≤ (hi k)))) : V), ([.dead, .dead, .dead] : Heap))))))))))

theorem fits_tree (k v : Int) : ∃ H', OK cfg (.fn 52 []) [.int .i64 k, .int .i64 v] [] (.bool (fits k v)) H' := by
  rcases Bool.eq_false_or_eq_true (decide (((sz k) : Int) > 0)) with h0 | h0
  · skip
    rcases Bool.eq_false_or_eq_true (decide ((v : Int) ≥ (lo k))) with h1 | h1
    · skip
      exact ⟨_, OK.eqv (fits_tree_w2 k v h0 h1) (congrArg V.bool (by first | (simp_all [fits]; done) | (simp_all [fits]; intros; omega)))⟩
    · skip
      exact ⟨_, OK.eqv (fits_tree_w1 k v h0 h1) (congrArg V.bool (by first | (simp_all [fits]; done) | (simp_all [fits]; intros; omega)))⟩
  · skip
    exact ⟨_, OK.eqv (fits_tree_w0 k v h0) (congrArg V.bool (by first | (simp_all [fits]; done) | (simp_all [fits]; intros; omega)))⟩

theorem fits_ok (k v : Int) (H : Heap) : OK cfg (.fn 52 []) [.int .i64 k, .int .i64 v] H (.bool (fits k v)) H := by
  obtain ⟨H', h⟩ := fits_tree k v
  exact OK.anyH h rfl (.inl rfl) H
theorem size_is (k n : Int) (H : Heap) (h : sz k = n) : OK cfg (.fn 40 []) [.int .i64 k] H (.int .i64 n) H := h ▸ size_ok k H

theorem put_no (k v : Int) (h0 : (!(fits k v)) = true) : OK cfg (.fn 37 []) [(.int .i64 k), (.int .i64 v)] [] (.tup [(.sl 0 none 0), (.int .i64 2)]) [.dead] :=
  ok_fn' hmix (n := 40) (os := [.c, .c, .c, .c, .r (.bool (fits k v)) [.dead], .c, .t, .c, .c]) (by kernel_rfl) (And.intro (Eq.refl true) (And.intro (OK.pad (fits_ok k v [])) (And.intro (Eq.refl true) (And.intro h0 (And.intro (Eq.refl true) (Eq.refl (((.tup [(.sl 0 none 0), (.int .i64 2)]) : V), ([.dead] : Heap))))))))

theorem put_1 (k v : Int) (hz : sz k = 1) (h0 : (!(fits k v)) = false) : OK cfg (.fn 37 []) [(.int .i64 k), (.int .i64 v)] [] (.tup [(.sl 1 (some (2, 0)) 1), (.int .i64 0)]) [.dead, .dead, .cells true [(.int .u8 (IntKind.wrap .u8 (Int.fdiv v 1)))]] :=
  ok_fn' hmix (n := 40) (os := [.c, .c, .c, .c, .r (.bool (fits k v)) [.dead], .c, .f, .c, .r (.int .i64 1) [.dead, .dead], .c, .c, .c, .c, .c, .a, .c, .c, .c, .c, .c, .c, .c, .c, .c, .c, .c, .c, .c, .c, .c, .c, .c, .c, .c, .c]) (by kernel_rfl) (And.intro (Eq.refl true) (And.intro (OK.pad (fits_ok k v [])) (And.intro (Eq.refl true) (And.intro h0 (And.intro (OK.pad (size_is k 1 [.dead] hz)) (And.intro (Eq.refl true) (And.intro (Eq.refl true) (And.intro (Eq.refl true) (And.intro (Eq.refl true) (And.intro (Eq.refl true) (And.intro (Eq.refl true) (And.intro (Eq.refl true) (And.intro (Eq.refl true) (Eq.refl (((.tup [(.sl 1 (some (2, 0)) 1), (.int .i64 0)]) : V), ([.dead, .dead, .cells true [(.int .u8 (IntKind.wrap .u8 (Int.fdiv v 1)))]] : Heap))))))))))))))))

theorem putc_1 (k v : Int) (hz : sz k = 1) (q0 : (!(fits k v)) = false) : OK cfg (.fn 37 []) [.int .i64 k, .int .i64 v] [] (.tup [(.sl 1 (some (0, 0)) 1), (.int .i64 0)]) [.cells true [(.int .u8 (IntKind.wrap .u8 (Int.fdiv v 1)))]] :=
  (OK.at (fv1 := (.fn 37 [])) (args1 := [(.int .i64 k), (.int .i64 v)]) (v1 := (.tup [(.sl 1 (some (0, 0)) 1), (.int .i64 0)])) (put_1 k v hz q0) [] [none, none, some (0, 0)] [2] [] [.cells true [(.int .u8 (IntKind.wrap .u8 (Int.fdiv v 1)))]] (by kernel_rfl) (by kernel_rfl) trivial ⟨.inr (.inr ⟨2, .cells true [(.int .u8 (IntKind.wrap .u8 (Int.fdiv v 1)))], rfl, rfl, (VEL.plain (by kernel_rfl))⟩), trivial⟩ (VE.ren (by kernel_rfl)) (VEL.plain (by kernel_rfl)) (VE.ren (by kernel_rfl)))

theorem put_2 (k v : Int) (hz : sz k = 2) (h0 : (!(fits k v)) = false) : OK cfg (.fn 37 []) [(.int .i64 k), (.int .i64 v)] [] (.tup [(.sl 1 (some (2, 0)) 2), (.int .i64 0)]) [.dead, .dead, .cells true [(.int .u8 (IntKind.wrap .u8 (Int.fdiv v 1))), (.int .u8 (IntKind.wrap .u8 (Int.fdiv v 256)))]] :=
  ok_fn' hmix (n := 40) (os := [.c, .c, .c, .c, .r (.bool (fits k v)) [.dead], .c, .f, .c, .r (.int .i64 2) [.dead, .dead], .c, .c, .c, .c, .c, .a, .c, .c, .c, .c, .c, .c, .c, .c, .c, .c, .c, .c, .c, .c, .c, .c, .c, .c, .c, .c, .c, .c, .c, .c, .c, .c, .c, .c, .c, .c, .c, .c, .c, .c, .c]) (by kernel_rfl) (And.intro (Eq.refl true) (And.intro (OK.pad (fits_ok k v [])) (And.intro (Eq.refl true) (And.intro h0 (And.intro (OK.pad (size_is k 2 [.dead] hz)) (And.intro (Eq.refl true) (And.intro (Eq.refl true) (And.intro (Eq.refl true) (And.intro (Eq.refl true) (And.intro (Eq.refl true) (And.intro (Eq.refl true) (And.intro (Eq.refl true) (And.intro (Eq.refl true) (And.intro (Eq.refl true) (And.intro (Eq.refl true) (And.intro (Eq.refl true) (And.intro (Eq.refl true) (Eq.refl (((.tup [(.sl 1 (some (2, 0)) 2), (.int .i64 0)]) : V), ([.dead, .dead, .cells true [(.int .u8 (IntKind.wrap .u8 (Int.fdiv v 1))), (.int .u8 (IntKind.wrap .u8 (Int.fdiv v 256)))]] : Heap))))))))))))))))))))

theorem putc_2 (k v : Int) (hz : sz k = 2) (q0 : (!(fits k v)) = false) : OK cfg (.fn 37 []) [.int .i64 k, .int .i64 v] [] (.tup [(.sl 1 (some (0, 0)) 2), (.int .i64 0)]) [.cells true [(.int .u8 (IntKind.wrap .u8 (Int.fdiv v 1))), (.int .u8 (IntKind.wrap .u8 (Int.fdiv v 256)))]] :=
  (OK.at (fv1 := (.fn 37 [])) (args1 := [(.int .i64 k), (.int .i64 v)]) (v1 := (.tup [(.sl 1 (some (0, 0)) 2), (.int .i64 0)])) (put_2 k v hz q0) [] [none, none, some (0, 0)] [2] [] [.cells true [(.int .u8 (IntKind.wrap .u8 (Int.fdiv v 1))), (.int .u8 (IntKind.wrap .u8 (Int.fdiv v 256)))]] (by kernel_rfl) (by kernel_rfl) trivial ⟨.inr (.inr ⟨2, .cells true [(.int .u8 (IntKind.wrap .u8 (Int.fdiv v 1))), (.int .u8 (IntKind.wrap .u8 (Int.fdiv v 256)))], rfl, rfl, (VEL.plain (by kernel_rfl))⟩), trivial⟩ (VE.ren (by kernel_rfl)) (VEL.plain (by kernel_rfl)) (VE.ren (by kernel_rfl)))

theorem put_4 (k v : Int) (hz : sz k = 4) (h0 : (!(fits k v)) = false) : OK cfg (.fn 37 []) [(.int .i64 k), (.int .i64 v)] [] (.tup [(.sl 1 (some (2, 0)) 4), (.int .i64 0)]) [.dead, .dead, .cells true [(.int .u8 (IntKind.wrap .u8 (Int.fdiv v 1))), (.int .u8 (IntKind.wrap .u8 (Int.fdiv v 256))), (.int .u8 (IntKind.wrap .u8 (Int.fdiv v 65536))), (.int .u8 (IntKind.wrap .u8 (Int.fdiv v 16777216)))]] :=
  ok_fn' hmix (n := 40) (os := [.c, .c, .c, .c, .r (.bool (fits k v)) [.dead], .c, .f, .c, .r (.int .i64 4) [.dead, .dead], .c, .c, .c, .c, .c, .a, .c, .c, .c, .c, .c, .c, .c, .c, .c, .c, .c, .c, .c, .c, .c, .c, .c, .c, .c, .c, .c, .c, .c, .c, .c, .c, .c, .c, .c, .c, .c, .c, .c, .c, .c, .c, .c, .c, .c, .c, .c, .c, .c, .c, .c, .c, .c, .c, .c, .c, .c, .c, .c, .c, .c, .c, .c, .c, .c, .c, .c, .c, .c, .c, .c]) (by kernel_rfl) (And.intro (Eq.refl true) (And.intro (OK.pad (fits_ok k v [])) (And.intro (Eq.refl true) (And.intro h0 (And.intro (OK.pad (size_is k 4 [.dead] hz)) (And.intro (Eq.refl true) (And.intro (Eq.refl true) (And.intro (Eq.refl true) (And.intro (Eq.refl true) (And.intro (Eq.refl true) (And.intro (Eq.refl true) (And.intro (Eq.refl true) (And.intro (Eq.refl true) (And.intro (Eq.refl true) (And.intro (Eq.refl true) (And.intro (Eq.refl true) (And.intro (Eq.refl true) (And.intro (Eq.refl true) (And.intro (Eq.refl true) (And.intro (Eq.refl true) (And.intro (Eq.refl true) (And.intro (Eq.refl true) (And.intro (Eq.refl true) (And.intro (Eq.refl true) (And.intro (Eq.refl true) (Eq.refl (((.tup [(.sl 1 (some (2, 0)) 4), (.int .i64 0)]) : V), ([.dead, .dead, .cells true [(.int .u8 (IntKind.wrap .u8 (Int.fdiv v 1))), (.int .u8 (IntKind.wrap .u8 (Int.fdiv v 256))), (.int .u8 (IntKind.wrap .u8 (Int.fdiv v 65536))), (.int .u8 (IntKind.wrap .u8 (Int.fdiv v 16777216)))]] : Heap))))))))))))))))))))))))))))

theorem putc_4 (k v : Int) (hz : sz k = 4) (q0 : (!(fits k v)) = false) : OK cfg (.fn 37 []) [.int .i64 k, .int .i64 v] [] (.tup [(.sl 1 (some (0, 0)) 4), (.int .i64 0)]) [.cells true [(.int .u8 (IntKind.wrap .u8 (Int.fdiv v 1))), (.int .u8 (IntKind.wrap .u8 (Int.fdiv v 256))), (.int .u8 (IntKind.wrap .u8 (Int.fdiv v 65536))), (.int .u8 (IntKind.wrap .u8 (Int.fdiv v 16777216)))]] :=
  (OK.at (fv1 := (.fn 37 [])) (args1 := [(.int .i64 k), (.int .i64 v)]) (v1 := (.tup [(.sl 1 (some (0, 0)) 4), (.int .i64 0)])) (put_4 k v hz q0) [] [none, none, some (0, 0)] [2] [] [.cells true [(.int .u8 (IntKind.wrap .u8 (Int.fdiv v 1))), (.int .u8 (IntKind.wrap .u8 (Int.fdiv v 256))), (.int .u8 (IntKind.wrap .u8 (Int.fdiv v 65536))), (.int .u8 (IntKind.wrap .u8 (Int.fdiv v 16777216)))]] (by kernel_rfl) (by kernel_rfl) trivial ⟨.inr (.inr ⟨2, .cells true [(.int .u8 (IntKind.wrap .u8 (Int.fdiv v 1))), (.int .u8 (IntKind.wrap .u8 (Int.fdiv v 256))), (.int .u8 (IntKind.wrap .u8 (Int.fdiv v 65536))), (.int .u8 (IntKind.wrap .u8 (Int.fdiv v 16777216)))], rfl, rfl, (VEL.plain (by kernel_rfl))⟩), trivial⟩ (VE.ren (by kernel_rfl)) (VEL.plain (by kernel_rfl)) (VE.ren (by kernel_rfl)))

theorem get_z (k : Int) (l : List Int) (hz : sz k = 0)  : OK cfg (.fn 38 []) [(.int .i64 k), (.sl 1 (some (0, 0)) l.length)] [.cells false ((l).map (V.int .u8))] (.tup [(.int .i64 0), (.int .i64 2)]) [.cells false ((l).map (V.int .u8)), .dead] :=
  ok_fn' hmix (n := 40) (os := [.c, .c, .c, .r (.int .i64 0) [.cells false ((l).map (V.int .u8)), .dead], .c, .c, .c, .c, .c, .c, .c]) (by kernel_rfl) (And.intro (Eq.refl true) (And.intro (OK.pad (size_is k 0 [.cells false ((l).map (V.int .u8))] hz)) (And.intro (Eq.refl true) (And.intro (Eq.refl true) (And.intro (Eq.refl true) (Eq.refl (((.tup [(.int .i64 0), (.int .i64 2)]) : V), ([.cells false ((l).map (V.int .u8)), .dead] : Heap))))))))

theorem get_l (k : Int) (l : List Int) (h0 : (((sz k) : Int) == 0) = false) (h1 : ((((l.length : Nat) : Int) : Int) != (sz k)) = true) : OK cfg (.fn 38 []) [(.int .i64 k), (.sl 1 (some (0, 0)) l.length)] [.cells false ((l).map (V.int .u8))] (.tup [(.int .i64 0), (.int .i64 11)]) [.cells false ((l).map (V.int .u8)), .dead] :=
  ok_fn' hmix (n := 40) (os := [.c, .c, .c, .r (.int .i64 (sz k)) [.cells false ((l).map (V.int .u8)), .dead], .c, .c, .c, .c, .f, .c, .c, .c, .c, .c, .t, .c, .c]) (by kernel_rfl) (And.intro (Eq.refl true) (And.intro (OK.pad (size_ok k [.cells false ((l).map (V.int .u8))])) (And.intro (Eq.refl true) (And.intro (Eq.refl true) (And.intro h0 (And.intro (Eq.refl true) (And.intro h1 (And.intro (Eq.refl true) (Eq.refl (((.tup [(.int .i64 0), (.int .i64 11)]) : V), ([.cells false ((l).map (V.int .u8)), .dead] : Heap)))))))))))

theorem wu (x : Int) : IntKind.wrap .u8 x = x % 256 := IntKind.wrap_u8 x
theorem fd1 (x : Int) : Int.fdiv x 1 = x := by rw [Int.fdiv_eq_ediv_of_nonneg _ (by omega)]; omega
theorem fd2 (x : Int) : Int.fdiv x 256 = x / 256 := Int.fdiv_eq_ediv_of_nonneg _ (by omega)
theorem fd3 (x : Int) : Int.fdiv x 65536 = x / 65536 := Int.fdiv_eq_ediv_of_nonneg _ (by omega)
theorem fd4 (x : Int) : Int.fdiv x 16777216 = x / 16777216 := Int.fdiv_eq_ediv_of_nonneg _ (by omega)
theorem put_ok (k v : Int) (h : fits k v = true) : OK cfg (.fn 37 []) [.int .i64 k, .int .i64 v] [] (.tup [.sl 1 (some (0, 0)) (bytes k v).length, .int .i64 0]) [.cells true ((bytes k v).map (V.int .u8))] := by
  have hp : 0 < sz k := by simp [fits] at h; omega
  have hn : (!(fits k v)) = false := by rw [h]; rfl
  rcases sz_cases k with e | e | e | e
  · omega
  · have := putc_1 k v e hn
    rw [wu, fd1] at this
    rw [show bytes k v = [v % 256] by simp [bytes, e]]
    exact this
  · have := putc_2 k v e hn
    rw [wu, wu, fd1, fd2] at this
    rw [show bytes k v = [v % 256, v / 256 % 256] by simp [bytes, e]]
    exact this
  · have := putc_4 k v e hn
    rw [wu, wu, wu, wu, fd1, fd2, fd3, fd4] at this
    rw [show bytes k v = [v % 256, v / 256 % 256, v / 65536 % 256, v / 16777216 % 256] by simp [bytes, e]]
    exact this

theorem get1_001 (k b0 : Int) (hz : sz k = 1) (h0 : (sg k) = false) (h1 : (!(fits k (bits .or .i64 0 (IntKind.wrap .i64 ((IntKind.wrap .i64 b0) * 1))))) = false) : OK cfg (.fn 38 []) [(.int .i64 k), (.sl 1 (some (0, 0)) 1)] [.cells false [(.int .u8 b0)]] (.tup [(.int .i64 (bits .or .i64 0 (IntKind.wrap .i64 ((IntKind.wrap .i64 b0) * 1)))), (.int .i64 0)]) [.cells false [(.int .u8 b0)], .dead, .dead, .dead] :=
  ok_fn' hmix (n := 40) (os := [.c, .c, .c, .r (.int .i64 1) [.cells false [(.int .u8 b0)], .dead], .c, .c, .c, .c, .c, .c, .c, .c, .c, .c, .c, .c, .c, .c, .c, .a, .c, .c, .c, .c, .c, .c, .c, .c, .c, .c, .c, .c, .c, .c, .c, .c, .c, .c, .c, .c, .r (.bool (sg k)) [.cells false [(.int .u8 b0)], .dead, .dead], .c, .f, .c, .c, .c, .c, .c, .c, .c, .r (.bool (fits k (bits .or .i64 0 (IntKind.wrap .i64 ((IntKind.wrap .i64 b0) * 1))))) [.cells false [(.int .u8 b0)], .dead, .dead, .dead], .c, .f, .c, .c, .c]) (by kernel_rfl) (And.intro (Eq.refl true) (And.intro (OK.pad (size_is k 1 [.cells false [(.int .u8 b0)]] hz)) (And.intro (Eq.refl true) (And.intro (Eq.refl true) (And.intro (Eq.refl true) (And.intro (Eq.refl true) (And.intro (Eq.refl true) (And.intro (Eq.refl true) (And.intro (Eq.refl true) (And.intro (Eq.refl true) (And.intro (Eq.refl true) (And.intro (Eq.refl true) (And.intro (OK.pad (sign_ok k [.cells false [(.int .u8 b0)], .dead])) (And.intro h0 (And.intro (Eq.refl true) (And.intro (OK.pad (fits_ok k (bits .or .i64 0 (IntKind.wrap .i64 ((IntKind.wrap .i64 b0) * 1))) [.cells false [(.int .u8 b0)], .dead, .dead])) (And.intro (Eq.refl true) (And.intro h1 (And.intro (Eq.refl true) (Eq.refl (((.tup [(.int .i64 (bits .or .i64 0 (IntKind.wrap .i64 ((IntKind.wrap .i64 b0) * 1)))), (.int .i64 0)]) : V), ([.cells false [(.int .u8 b0)], .dead, .dead, .dead] : Heap))))))))))))))))))))))

theorem get1_000 (k b0 : Int) (hz : sz k = 1) (h0 : (sg k) = false) (h1 : (!(fits k (bits .or .i64 0 (IntKind.wrap .i64 ((IntKind.wrap .i64 b0) * 1))))) = true) : OK cfg (.fn 38 []) [(.int .i64 k), (.sl 1 (some (0, 0)) 1)] [.cells false [(.int .u8 b0)]] (.tup [(.int .i64 0), (.int .i64 4)]) [.cells false [(.int .u8 b0)], .dead, .dead, .dead] :=
  ok_fn' hmix (n := 40) (os := [.c, .c, .c, .r (.int .i64 1) [.cells false [(.int .u8 b0)], .dead], .c, .c, .c, .c, .c, .c, .c, .c, .c, .c, .c, .c, .c, .c, .c, .a, .c, .c, .c, .c, .c, .c, .c, .c, .c, .c, .c, .c, .c, .c, .c, .c, .c, .c, .c, .c, .r (.bool (sg k)) [.cells false [(.int .u8 b0)], .dead, .dead], .c, .f, .c, .c, .c, .c, .c, .c, .c, .r (.bool (fits k (bits .or .i64 0 (IntKind.wrap .i64 ((IntKind.wrap .i64 b0) * 1))))) [.cells false [(.int .u8 b0)], .dead, .dead, .dead], .c, .t, .c, .c]) (by kernel_rfl) (And.intro (Eq.refl true) (And.intro (OK.pad (size_is k 1 [.cells false [(.int .u8 b0)]] hz)) (And.intro (Eq.refl true) (And.intro (Eq.refl true) (And.intro (Eq.refl true) (And.intro (Eq.refl true) (And.intro (Eq.refl true) (And.intro (Eq.refl true) (And.intro (Eq.refl true) (And.intro (Eq.refl true) (And.intro (Eq.refl true) (And.intro (Eq.refl true) (And.intro (OK.pad (sign_ok k [.cells false [(.int .u8 b0)], .dead])) (And.intro h0 (And.intro (Eq.refl true) (And.intro (OK.pad (fits_ok k (bits .or .i64 0 (IntKind.wrap .i64 ((IntKind.wrap .i64 b0) * 1))) [.cells false [(.int .u8 b0)], .dead, .dead])) (And.intro (Eq.refl true) (And.intro h1 (And.intro (Eq.refl true) (Eq.refl (((.tup [(.int .i64 0), (.int .i64 4)]) : V), ([.cells false [(.int .u8 b0)], .dead, .dead, .dead] : Heap))))))))))))))))))))))

theorem get1_101 (k b0 : Int) (hz : sz k = 1) (h0 : (sg k) = true) (h1 : (decide (((bits .or .i64 0 (IntKind.wrap .i64 ((IntKind.wrap .i64 b0) * 1))) : Int) > (hi k))) = false) (h2 : (!(fits k (bits .or .i64 0 (IntKind.wrap .i64 ((IntKind.wrap .i64 b0) * 1))))) = false) : OK cfg (.fn 38 []) [(.int .i64 k), (.sl 1 (some (0, 0)) 1)] [.cells false [(.int .u8 b0)]] (.tup [(.int .i64 (bits .or .i64 0 (IntKind.wrap .i64 ((IntKind.wrap .i64 b0) * 1)))), (.int .i64 0)]) [.cells false [(.int .u8 b0)], .dead, .dead, .dead, .dead] :=
  ok_fn' hmix (n := 40) (os := [.c, .c, .c, .r (.int .i64 1) [.cells false [(.int .u8 b0)], .dead], .c, .c, .c, .c, .c, .c, .c, .c, .c, .c, .c, .c, .c, .c, .c, .a, .c, .c, .c, .c, .c, .c, .c, .c, .c, .c, .c, .c, .c, .c, .c, .c, .c, .c, .c, .c, .r (.bool (sg k)) [.cells false [(.int .u8 b0)], .dead, .dead], .c, .t, .c, .c, .c, .c, .r (.int .i64 (hi k)) [.cells false [(.int .u8 b0)], .dead, .dead, .dead], .c, .c, .c, .f, .c, .c, .r (.bool (fits k (bits .or .i64 0 (IntKind.wrap .i64 ((IntKind.wrap .i64 b0) * 1))))) [.cells false [(.int .u8 b0)], .dead, .dead, .dead, .dead], .c, .f, .c, .c, .c]) (by kernel_rfl) (And.intro (Eq.refl true) (And.intro (OK.pad (size_is k 1 [.cells false [(.int .u8 b0)]] hz)) (And.intro (Eq.refl true) (And.intro (Eq.refl true) (And.intro (Eq.refl true) (And.intro (Eq.refl true) (And.intro (Eq.refl true) (And.intro (Eq.refl true) (And.intro (Eq.refl true) (And.intro (Eq.refl true) (And.intro (Eq.refl true) (And.intro (Eq.refl true) (And.intro (OK.pad (sign_ok k [.cells false [(.int .u8 b0)], .dead])) (And.intro h0 (And.intro (OK.pad (high_ok k [.cells false [(.int .u8 b0)], .dead, .dead])) (And.intro (Eq.refl true) (And.intro h1 (And.intro (OK.pad (fits_ok k (bits .or .i64 0 (IntKind.wrap .i64 ((IntKind.wrap .i64 b0) * 1))) [.cells false [(.int .u8 b0)], .dead, .dead, .dead])) (And.intro (Eq.refl true) (And.intro h2 (And.intro (Eq.refl true) (Eq.refl (((.tup [(.int .i64 (bits .or .i64 0 (IntKind.wrap .i64 ((IntKind.wrap .i64 b0) * 1)))), (.int .i64 0)]) : V), ([.cells false [(.int .u8 b0)], .dead, .dead, .dead, .dead] : Heap))))))))))))))))))))))))

theorem get1_100 (k b0 : Int) (hz : sz k = 1) (h0 : (sg k) = true) (h1 : (decide (((bits .or .i64 0 (IntKind.wrap .i64 ((IntKind.wrap .i64 b0) * 1))) : Int) > (hi k))) = false) (h2 : (!(fits k (bits .or .i64 0 (IntKind.wrap .i64 ((IntKind.wrap .i64 b0) * 1))))) = true) : OK cfg (.fn 38 []) [(.int .i64 k), (.sl 1 (some (0, 0)) 1)] [.cells false [(.int .u8 b0)]] (.tup [(.int .i64 0), (.int .i64 4)]) [.cells false [(.int .u8 b0)], .dead, .dead, .dead, .dead] :=
  ok_fn' hmix (n := 40) (os := [.c, .c, .c, .r (.int .i64 1) [.cells false [(.int .u8 b0)], .dead], .c, .c, .c, .c, .c, .c, .c, .c, .c, .c, .c, .c, .c, .c, .c, .a, .c, .c, .c, .c, .c, .c, .c, .c, .c, .c, .c, .c, .c, .c, .c, .c, .c, .c, .c, .c, .r (.bool (sg k)) [.cells false [(.int .u8 b0)], .dead, .dead], .c, .t, .c, .c, .c, .c, .r (.int .i64 (hi k)) [.cells false [(.int .u8 b0)], .dead, .dead, .dead], .c, .c, .c, .f, .c, .c, .r (.bool (fits k (bits .or .i64 0 (IntKind.wrap .i64 ((IntKind.wrap .i64 b0) * 1))))) [.cells false [(.int .u8 b0)], .dead, .dead, .dead, .dead], .c, .t, .c, .c]) (by kernel_rfl) (And.intro (Eq.refl true) (And.intro (OK.pad (size_is k 1 [.cells false [(.int .u8 b0)]] hz)) (And.intro (Eq.refl true) (And.intro (Eq.refl true) (And.intro (Eq.refl true) (And.intro (Eq.refl true) (And.intro (Eq.refl true) (And.intro (Eq.refl true) (And.intro (Eq.refl true) (And.intro (Eq.refl true) (And.intro (Eq.refl true) (And.intro (Eq.refl true) (And.intro (OK.pad (sign_ok k [.cells false [(.int .u8 b0)], .dead])) (And.intro h0 (And.intro (OK.pad (high_ok k [.cells false [(.int .u8 b0)], .dead, .dead])) (And.intro (Eq.refl true) (And.intro h1 (And.intro (OK.pad (fits_ok k (bits .or .i64 0 (IntKind.wrap .i64 ((IntKind.wrap .i64 b0) * 1))) [.cells false [(.int .u8 b0)], .dead, .dead, .dead])) (And.intro (Eq.refl true) (And.intro h2 (And.intro (Eq.refl true) (Eq.refl (((.tup [(.int .i64 0), (.int .i64 4)]) : V), ([.cells false [(.int .u8 b0)], .dead, .dead, .dead, .dead] : Heap))))))))))))))))))))))))

theorem get1_111 (k b0 : Int) (hz : sz k = 1) (h0 : (sg k) = true) (h1 : (decide (((bits .or .i64 0 (IntKind.wrap .i64 ((IntKind.wrap .i64 b0) * 1))) : Int) > (hi k))) = true) (h2 : (!(fits k (IntKind.wrap .i64 ((bits .or .i64 0 (IntKind.wrap .i64 ((IntKind.wrap .i64 b0) * 1))) - 256)))) = false) : OK cfg (.fn 38 []) [(.int .i64 k), (.sl 1 (some (0, 0)) 1)] [.cells false [(.int .u8 b0)]] (.tup [(.int .i64 (IntKind.wrap .i64 ((bits .or .i64 0 (IntKind.wrap .i64 ((IntKind.wrap .i64 b0) * 1))) - 256))), (.int .i64 0)]) [.cells false [(.int .u8 b0)], .dead, .dead, .dead, .dead] :=
  ok_fn' hmix (n := 40) (os := [.c, .c, .c, .r (.int .i64 1) [.cells false [(.int .u8 b0)], .dead], .c, .c, .c, .c, .c, .c, .c, .c, .c, .c, .c, .c, .c, .c, .c, .a, .c, .c, .c, .c, .c, .c, .c, .c, .c, .c, .c, .c, .c, .c, .c, .c, .c, .c, .c, .c, .r (.bool (sg k)) [.cells false [(.int .u8 b0)], .dead, .dead], .c, .t, .c, .c, .c, .c, .r (.int .i64 (hi k)) [.cells false [(.int .u8 b0)], .dead, .dead, .dead], .c, .c, .c, .t, .c, .c, .c, .c, .c, .c, .c, .c, .c, .r (.bool (fits k (IntKind.wrap .i64 ((bits .or .i64 0 (IntKind.wrap .i64 ((IntKind.wrap .i64 b0) * 1))) - 256)))) [.cells false [(.int .u8 b0)], .dead, .dead, .dead, .dead], .c, .f, .c, .c, .c]) (by kernel_rfl) (And.intro (Eq.refl true) (And.intro (OK.pad (size_is k 1 [.cells false [(.int .u8 b0)]] hz)) (And.intro (Eq.refl true) (And.intro (Eq.refl true) (And.intro (Eq.refl true) (And.intro (Eq.refl true) (And.intro (Eq.refl true) (And.intro (Eq.refl true) (And.intro (Eq.refl true) (And.intro (Eq.refl true) (And.intro (Eq.refl true) (And.intro (Eq.refl true) (And.intro (OK.pad (sign_ok k [.cells false [(.int .u8 b0)], .dead])) (And.intro h0 (And.intro (OK.pad (high_ok k [.cells false [(.int .u8 b0)], .dead, .dead])) (And.intro (Eq.refl true) (And.intro h1 (And.intro (Eq.refl true) (And.intro (OK.pad (fits_ok k (IntKind.wrap .i64 ((bits .or .i64 0 (IntKind.wrap .i64 ((IntKind.wrap .i64 b0) * 1))) - 256)) [.cells false [(.int .u8 b0)], .dead, .dead, .dead])) (And.intro (Eq.refl true) (And.intro h2 (And.intro (Eq.refl true) (Eq.refl (((.tup [(.int .i64 (IntKind.wrap .i64 ((bits .or .i64 0 (IntKind.wrap .i64 ((IntKind.wrap .i64 b0) * 1))) - 256))), (.int .i64 0)]) : V), ([.cells false [(.int .u8 b0)], .dead, .dead, .dead, .dead] : Heap)))))))))))))))))))))))))

theorem get1_110 (k b0 : Int) (hz : sz k = 1) (h0 : (sg k) = true) (h1 : (decide (((bits .or .i64 0 (IntKind.wrap .i64 ((IntKind.wrap .i64 b0) * 1))) : Int) > (hi k))) = true) (h2 : (!(fits k (IntKind.wrap .i64 ((bits .or .i64 0 (IntKind.wrap .i64 ((IntKind.wrap .i64 b0) * 1))) - 256)))) = true) : OK cfg (.fn 38 []) [(.int .i64 k), (.sl 1 (some (0, 0)) 1)] [.cells false [(.int .u8 b0)]] (.tup [(.int .i64 0), (.int .i64 4)]) [.cells false [(.int .u8 b0)], .dead, .dead, .dead, .dead] :=
  ok_fn' hmix (n := 40) (os := [.c, .c, .c, .r (.int .i64 1) [.cells false [(.int .u8 b0)], .dead], .c, .c, .c, .c, .c, .c, .c, .c, .c, .c, .c, .c, .c, .c, .c, .a, .c, .c, .c, .c, .c, .c, .c, .c, .c, .c, .c, .c, .c, .c, .c, .c, .c, .c, .c, .c, .r (.bool (sg k)) [.cells false [(.int .u8 b0)], .dead, .dead], .c, .t, .c, .c, .c, .c, .r (.int .i64 (hi k)) [.cells false [(.int .u8 b0)], .dead, .dead, .dead], .c, .c, .c, .t, .c, .c, .c, .c, .c, .c, .c, .c, .c, .r (.bool (fits k (IntKind.wrap .i64 ((bits .or .i64 0 (IntKind.wrap .i64 ((IntKind.wrap .i64 b0) * 1))) - 256)))) [.cells false [(.int .u8 b0)], .dead, .dead, .dead, .dead], .c, .t, .c, .c]) (by kernel_rfl) (And.intro (Eq.refl true) (And.intro (OK.pad (size_is k 1 [.cells false [(.int .u8 b0)]] hz)) (And.intro (Eq.refl true) (And.intro (Eq.refl true) (And.intro (Eq.refl true) (And.intro (Eq.refl true) (And.intro (Eq.refl true) (And.intro (Eq.refl true) (And.intro (Eq.refl true) (And.intro (Eq.refl true) (And.intro (Eq.refl true) (And.intro (Eq.refl true) (And.intro (OK.pad (sign_ok k [.cells false [(.int .u8 b0)], .dead])) (And.intro h0 (And.intro (OK.pad (high_ok k [.cells false [(.int .u8 b0)], .dead, .dead])) (And.intro (Eq.refl true) (And.intro h1 (And.intro (Eq.refl true) (And.intro (OK.pad (fits_ok k (IntKind.wrap .i64 ((bits .or .i64 0 (IntKind.wrap .i64 ((IntKind.wrap .i64 b0) * 1))) - 256)) [.cells false [(.int .u8 b0)], .dead, .dead, .dead])) (And.intro (Eq.refl true) (And.intro h2 (And.intro (Eq.refl true) (Eq.refl (((.tup [(.int .i64 0), (.int .i64 4)]) : V), ([.cells false [(.int .u8 b0)], .dead, .dead, .dead, .dead] : Heap)))))))))))))))))))))))))

theorem get_ok1 (k b0 : Int) (hz : sz k = 1) (hb : okb [b0]) : OK cfg (.fn 38 []) [.int .i64 k, .sl 1 (some (0, 0)) 1] [.cells false [.int .u8 b0]] (.tup [.int .i64 (gets k [b0]).1, .int .i64 (gets k [b0]).2]) [.cells false [.int .u8 b0]] := by
  have h_b0 := hb b0 (by simp)
  have w_b0 : IntKind.wrap .i64 b0 = b0 := wrap_i64 (by omega)
  have m_b0 : IntKind.wrap .i64 (b0 * 1) = b0 * 1 := wrap_i64 (by omega)
  have e : ((bits .or .i64 0 (IntKind.wrap .i64 ((IntKind.wrap .i64 b0) * 1))) : Int) = num [b0] := by
    rw [w_b0, m_b0, or0 h_b0]
    simp only [num]
    omega
  have hN : 0 ≤ num [b0] ∧ num [b0] < 256 := by simp only [num]; omega
  have hg : gets k [b0] = got k [b0] := by unfold gets; rw [if_neg (by omega), if_pos (by rw [hz]; rfl)]
  have hw : IntKind.wrap .i64 (num [b0] - 256) = num [b0] - 256 := wrap_i64 (by omega)
  have hp : pw k = 256 := by simp [pw, hz]
  rw [hg]
  unfold got
  rcases (Bool.eq_false_or_eq_true (sg k)).symm with hs | hs
  · have ha : adj k (num [b0]) = num [b0] := by unfold adj; rw [if_neg (by simp [hs])]
    by_cases hf : fits k (num [b0]) = true
    · rw [ha, if_pos hf]
      exact OK.ro1 (OK.eqv (get1_001 k b0 hz hs (by rw [e]; simp [hf])) (by rw [e])) (by rfl) rfl rfl
    · rw [ha, if_neg hf]
      exact OK.ro1 (OK.eqv (get1_000 k b0 hz hs (by rw [e]; simp [hf])) (by rfl)) (by rfl) rfl rfl
  · by_cases hh : num [b0] > hi k
    · have ha : adj k (num [b0]) = num [b0] - 256 := by unfold adj; rw [if_pos ⟨hs, hh⟩, hp]
      by_cases hf : fits k (num [b0] - 256) = true
      · rw [ha, if_pos hf]
        exact OK.ro1 (OK.eqv (get1_111 k b0 hz hs (by rw [e]; exact decide_eq_true hh) (by rw [e, hw]; simp [hf])) (by rw [e, hw])) (by rfl) rfl rfl
      · rw [ha, if_neg hf]
        exact OK.ro1 (OK.eqv (get1_110 k b0 hz hs (by rw [e]; exact decide_eq_true hh) (by rw [e, hw]; simp [hf])) (by rfl)) (by rfl) rfl rfl
    · have ha : adj k (num [b0]) = num [b0] := by unfold adj; rw [if_neg (fun h => hh h.2)]
      by_cases hf : fits k (num [b0]) = true
      · rw [ha, if_pos hf]
        exact OK.ro1 (OK.eqv (get1_101 k b0 hz hs (by rw [e]; exact decide_eq_false hh) (by rw [e]; simp [hf])) (by rw [e])) (by rfl) rfl rfl
      · rw [ha, if_neg hf]
        exact OK.ro1 (OK.eqv (get1_100 k b0 hz hs (by rw [e]; exact decide_eq_false hh) (by rw [e]; simp [hf])) (by rfl)) (by rfl) rfl rfl

theorem get2_001 (k b0 b1 : Int) (hz : sz k = 2) (h0 : (sg k) = false) (h1 : (!(fits k (bits .or .i64 (bits .or .i64 0 (IntKind.wrap .i64 ((IntKind.wrap .i64 b0) * 1))) (IntKind.wrap .i64 ((IntKind.wrap .i64 b1) * 256))))) = false) : OK cfg (.fn 38 []) [(.int .i64 k), (.sl 1 (some (0, 0)) 2)] [.cells false [(.int .u8 b0), (.int .u8 b1)]] (.tup [(.int .i64 (bits .or .i64 (bits .or .i64 0 (IntKind.wrap .i64 ((IntKind.wrap .i64 b0) * 1))) (IntKind.wrap .i64 ((IntKind.wrap .i64 b1) * 256)))), (.int .i64 0)]) [.cells false [(.int .u8 b0), (.int .u8 b1)], .dead, .dead, .dead] :=
  ok_fn' hmix (n := 40) (os := [.c, .c, .c, .r (.int .i64 2) [.cells false [(.int .u8 b0), (.int .u8 b1)], .dead], .c, .c, .c, .c, .c, .c, .c, .c, .c, .c, .c, .c, .c, .c, .c, .a, .c, .c, .c, .c, .c, .c, .c, .c, .c, .c, .c, .c, .c, .c, .c, .c, .c, .c, .c, .c, .c, .c, .c, .c, .c, .c, .c, .c, .c, .c, .c, .c, .c, .c, .c, .c, .c, .r (.bool (sg k)) [.cells false [(.int .u8 b0), (.int .u8 b1)], .dead, .dead], .c, .f, .c, .c, .c, .c, .c, .c, .c, .r (.bool (fits k (bits .or .i64 (bits .or .i64 0 (IntKind.wrap .i64 ((IntKind.wrap .i64 b0) * 1))) (IntKind.wrap .i64 ((IntKind.wrap .i64 b1) * 256))))) [.cells false [(.int .u8 b0), (.int .u8 b1)], .dead, .dead, .dead], .c, .f, .c, .c, .c]) (by kernel_rfl) (And.intro (Eq.refl true) (And.intro (OK.pad (size_is k 2 [.cells false [(.int .u8 b0), (.int .u8 b1)]] hz)) (And.intro (Eq.refl true) (And.intro (Eq.refl true) (And.intro (Eq.refl true) (And.intro (Eq.refl true) (And.intro (Eq.refl true) (And.intro (Eq.refl true) (And.intro (Eq.refl true) (And.intro (Eq.refl true) (And.intro (Eq.refl true) (And.intro (Eq.refl true) (And.intro (Eq.refl true) (And.intro (Eq.refl true) (And.intro (Eq.refl true) (And.intro (Eq.refl true) (And.intro (OK.pad (sign_ok k [.cells false [(.int .u8 b0), (.int .u8 b1)], .dead])) (And.intro h0 (And.intro (Eq.refl true) (And.intro (OK.pad (fits_ok k (bits .or .i64 (bits .or .i64 0 (IntKind.wrap .i64 ((IntKind.wrap .i64 b0) * 1))) (IntKind.wrap .i64 ((IntKind.wrap .i64 b1) * 256))) [.cells false [(.int .u8 b0), (.int .u8 b1)], .dead, .dead])) (And.intro (Eq.refl true) (And.intro h1 (And.intro (Eq.refl true) (Eq.refl (((.tup [(.int .i64 (bits .or .i64 (bits .or .i64 0 (IntKind.wrap .i64 ((IntKind.wrap .i64 b0) * 1))) (IntKind.wrap .i64 ((IntKind.wrap .i64 b1) * 256)))), (.int .i64 0)]) : V), ([.cells false [(.int .u8 b0), (.int .u8 b1)], .dead, .dead, .dead] : Heap))))))))))))))))))))))))))

theorem get2_000 (k b0 b1 : Int) (hz : sz k = 2) (h0 : (sg k) = false) (h1 : (!(fits k (bits .or .i64 (bits .or .i64 0 (IntKind.wrap .i64 ((IntKind.wrap .i64 b0) * 1))) (IntKind.wrap .i64 ((IntKind.wrap .i64 b1) * 256))))) = true) : OK cfg (.fn 38 []) [(.int .i64 k), (.sl 1 (some (0, 0)) 2)] [.cells false [(.int .u8 b0), (.int .u8 b1)]] (.tup [(.int .i64 0), (.int .i64 4)]) [.cells false [(.int .u8 b0), (.int .u8 b1)], .dead, .dead, .dead] :=
  ok_fn' hmix (n := 40) (os := [.c, .c, .c, .r (.int .i64 2) [.cells false [(.int .u8 b0), (.int .u8 b1)], .dead], .c, .c, .c, .c, .c, .c, .c, .c, .c, .c, .c, .c, .c, .c, .c, .a, .c, .c, .c, .c, .c, .c, .c, .c, .c, .c, .c, .c, .c, .c, .c, .c, .c, .c, .c, .c, .c, .c, .c, .c, .c, .c, .c, .c, .c, .c, .c, .c, .c, .c, .c, .c, .c, .r (.bool (sg k)) [.cells false [(.int .u8 b0), (.int .u8 b1)], .dead, .dead], .c, .f, .c, .c, .c, .c, .c, .c, .c, .r (.bool (fits k (bits .or .i64 (bits .or .i64 0 (IntKind.wrap .i64 ((IntKind.wrap .i64 b0) * 1))) (IntKind.wrap .i64 ((IntKind.wrap .i64 b1) * 256))))) [.cells false [(.int .u8 b0), (.int .u8 b1)], .dead, .dead, .dead], .c, .t, .c, .c]) (by kernel_rfl) (And.intro (Eq.refl true) (And.intro (OK.pad (size_is k 2 [.cells false [(.int .u8 b0), (.int .u8 b1)]] hz)) (And.intro (Eq.refl true) (And.intro (Eq.refl true) (And.intro (Eq.refl true) (And.intro (Eq.refl true) (And.intro (Eq.refl true) (And.intro (Eq.refl true) (And.intro (Eq.refl true) (And.intro (Eq.refl true) (And.intro (Eq.refl true) (And.intro (Eq.refl true) (And.intro (Eq.refl true) (And.intro (Eq.refl true) (And.intro (Eq.refl true) (And.intro (Eq.refl true) (And.intro (OK.pad (sign_ok k [.cells false [(.int .u8 b0), (.int .u8 b1)], .dead])) (And.intro h0 (And.intro (Eq.refl true) (And.intro (OK.pad (fits_ok k (bits .or .i64 (bits .or .i64 0 (IntKind.wrap .i64 ((IntKind.wrap .i64 b0) * 1))) (IntKind.wrap .i64 ((IntKind.wrap .i64 b1) * 256))) [.cells false [(.int .u8 b0), (.int .u8 b1)], .dead, .dead])) (And.intro (Eq.refl true) (And.intro h1 (And.intro (Eq.refl true) (Eq.refl (((.tup [(.int .i64 0), (.int .i64 4)]) : V), ([.cells false [(.int .u8 b0), (.int .u8 b1)], .dead, .dead, .dead] : Heap))))))))))))))))))))))))))

theorem get2_101 (k b0 b1 : Int) (hz : sz k = 2) (h0 : (sg k) = true) (h1 : (decide (((bits .or .i64 (bits .or .i64 0 (IntKind.wrap .i64 ((IntKind.wrap .i64 b0) * 1))) (IntKind.wrap .i64 ((IntKind.wrap .i64 b1) * 256))) : Int) > (hi k))) = false) (h2 : (!(fits k (bits .or .i64 (bits .or .i64 0 (IntKind.wrap .i64 ((IntKind.wrap .i64 b0) * 1))) (IntKind.wrap .i64 ((IntKind.wrap .i64 b1) * 256))))) = false) : OK cfg (.fn 38 []) [(.int .i64 k), (.sl 1 (some (0, 0)) 2)] [.cells false [(.int .u8 b0), (.int .u8 b1)]] (.tup [(.int .i64 (bits .or .i64 (bits .or .i64 0 (IntKind.wrap .i64 ((IntKind.wrap .i64 b0) * 1))) (IntKind.wrap .i64 ((IntKind.wrap .i64 b1) * 256)))), (.int .i64 0)]) [.cells false [(.int .u8 b0), (.int .u8 b1)], .dead, .dead, .dead, .dead] :=
  ok_fn' hmix (n := 40) (os := [.c, .c, .c, .r (.int .i64 2) [.cells false [(.int .u8 b0), (.int .u8 b1)], .dead], .c, .c, .c, .c, .c, .c, .c, .c, .c, .c, .c, .c, .c, .c, .c, .a, .c, .c, .c, .c, .c, .c, .c, .c, .c, .c, .c, .c, .c, .c, .c, .c, .c, .c, .c, .c, .c, .c, .c, .c, .c, .c, .c, .c, .c, .c, .c, .c, .c, .c, .c, .c, .c, .r (.bool (sg k)) [.cells false [(.int .u8 b0), (.int .u8 b1)], .dead, .dead], .c, .t, .c, .c, .c, .c, .r (.int .i64 (hi k)) [.cells false [(.int .u8 b0), (.int .u8 b1)], .dead, .dead, .dead], .c, .c, .c, .f, .c, .c, .r (.bool (fits k (bits .or .i64 (bits .or .i64 0 (IntKind.wrap .i64 ((IntKind.wrap .i64 b0) * 1))) (IntKind.wrap .i64 ((IntKind.wrap .i64 b1) * 256))))) [.cells false [(.int .u8 b0), (.int .u8 b1)], .dead, .dead, .dead, .dead], .c, .f, .c, .c, .c]) (by kernel_rfl) (And.intro (Eq.refl true) (And.intro (OK.pad (size_is k 2 [.cells false [(.int .u8 b0), (.int .u8 b1)]] hz)) (And.intro (Eq.refl true) (And.intro (Eq.refl true) (And.intro (Eq.refl true) (And.intro (Eq.refl true) (And.intro (Eq.refl true) (And.intro (Eq.refl true) (And.intro (Eq.refl true) (And.intro (Eq.refl true) (And.intro (Eq.refl true) (And.intro (Eq.refl true) (And.intro (Eq.refl true) (And.intro (Eq.refl true) (And.intro (Eq.refl true) (And.intro (Eq.refl true) (And.intro (OK.pad (sign_ok k [.cells false [(.int .u8 b0), (.int .u8 b1)], .dead])) (And.intro h0 (And.intro (OK.pad (high_ok k [.cells false [(.int .u8 b0), (.int .u8 b1)], .dead, .dead])) (And.intro (Eq.refl true) (And.intro h1 (And.intro (OK.pad (fits_ok k (bits .or .i64 (bits .or .i64 0 (IntKind.wrap .i64 ((IntKind.wrap .i64 b0) * 1))) (IntKind.wrap .i64 ((IntKind.wrap .i64 b1) * 256))) [.cells false [(.int .u8 b0), (.int .u8 b1)], .dead, .dead, .dead])) (And.intro (Eq.refl true) (And.intro h2 (And.intro (Eq.refl true) (Eq.refl (((.tup [(.int .i64 (bits .or .i64 (bits .or .i64 0 (IntKind.wrap .i64 ((IntKind.wrap .i64 b0) * 1))) (IntKind.wrap .i64 ((IntKind.wrap .i64 b1) * 256)))), (.int .i64 0)]) : V), ([.cells false [(.int .u8 b0), (.int .u8 b1)], .dead, .dead, .dead, .dead] : Heap))))))))))))))))))))))))))))

theorem get2_100 (k b0 b1 : Int) (hz : sz k = 2) (h0 : (sg k) = true) (h1 : (decide (((bits .or .i64 (bits .or .i64 0 (IntKind.wrap .i64 ((IntKind.wrap .i64 b0) * 1))) (IntKind.wrap .i64 ((IntKind.wrap .i64 b1) * 256))) : Int) > (hi k))) = false) (h2 : (!(fits k (bits .or .i64 (bits .or .i64 0 (IntKind.wrap .i64 ((IntKind.wrap .i64 b0) * 1))) (IntKind.wrap .i64 ((IntKind.wrap .i64 b1) * 256))))) = true) : OK cfg (.fn 38 []) [(.int .i64 k), (.sl 1 (some (0, 0)) 2)] [.cells false [(.int .u8 b0), (.int .u8 b1)]] (.tup [(.int .i64 0), (.int .i64 4)]) [.cells false [(.int .u8 b0), (.int .u8 b1)], .dead, .dead, .dead, .dead] :=
  ok_fn' hmix (n := 40) (os := [.c, .c, .c, .r (.int .i64 2) [.cells false [(.int .u8 b0), (.int .u8 b1)], .dead], .c, .c, .c, .c, .c, .c, .c, .c, .c, .c, .c, .c, .c, .c, .c, .a, .c, .c, .c, .c, .c, .c, .c, .c, .c, .c, .c, .c, .c, .c, .c, .c, .c, .c, .c, .c, .c, .c, .c, .c, .c, .c, .c, .c, .c, .c, .c, .c, .c, .c, .c, .c, .c, .r (.bool (sg k)) [.cells false [(.int .u8 b0), (.int .u8 b1)], .dead, .dead], .c, .t, .c, .c, .c, .c, .r (.int .i64 (hi k)) [.cells false [(.int .u8 b0), (.int .u8 b1)], .dead, .dead, .dead], .c, .c, .c, .f, .c, .c, .r (.bool (fits k (bits .or .i64 (bits .or .i64 0 (IntKind.wrap .i64 ((IntKind.wrap .i64 b0) * 1))) (IntKind.wrap .i64 ((IntKind.wrap .i64 b1) * 256))))) [.cells false [(.int .u8 b0), (.int .u8 b1)], .dead, .dead, .dead, .dead], .c, .t, .c, .c]) (by kernel_rfl) (And.intro (Eq.refl true) (And.intro (OK.pad (size_is k 2 [.cells false [(.int .u8 b0), (.int .u8 b1)]] hz)) (And.intro (Eq.refl true) (And.intro (Eq.refl true) (And.intro (Eq.refl true) (And.intro (Eq.refl true) (And.intro (Eq.refl true) (And.intro (Eq.refl true) (And.intro (Eq.refl true) (And.intro (Eq.refl true) (And.intro (Eq.refl true) (And.intro (Eq.refl true) (And.intro (Eq.refl true) (And.intro (Eq.refl true) (And.intro (Eq.refl true) (And.intro (Eq.refl true) (And.intro (OK.pad (sign_ok k [.cells false [(.int .u8 b0), (.int .u8 b1)], .dead])) (And.intro h0 (And.intro (OK.pad (high_ok k [.cells false [(.int .u8 b0), (.int .u8 b1)], .dead, .dead])) (And.intro (Eq.refl true) (And.intro h1 (And.intro (OK.pad (fits_ok k (bits .or .i64 (bits .or .i64 0 (IntKind.wrap .i64 ((IntKind.wrap .i64 b0) * 1))) (IntKind.wrap .i64 ((IntKind.wrap .i64 b1) * 256))) [.cells false [(.int .u8 b0), (.int .u8 b1)], .dead, .dead, .dead])) (And.intro (Eq.refl true) (And.intro h2 (And.intro (Eq.refl true) (Eq.refl (((.tup [(.int .i64 0), (.int .i64 4)]) : V), ([.cells false [(.int .u8 b0), (.int .u8 b1)], .dead, .dead, .dead, .dead] : Heap))))))))))))))))))))))))))))

theorem get2_111 (k b0 b1 : Int) (hz : sz k = 2) (h0 : (sg k) = true) (h1 : (decide (((bits .or .i64 (bits .or .i64 0 (IntKind.wrap .i64 ((IntKind.wrap .i64 b0) * 1))) (IntKind.wrap .i64 ((IntKind.wrap .i64 b1) * 256))) : Int) > (hi k))) = true) (h2 : (!(fits k (IntKind.wrap .i64 ((bits .or .i64 (bits .or .i64 0 (IntKind.wrap .i64 ((IntKind.wrap .i64 b0) * 1))) (IntKind.wrap .i64 ((IntKind.wrap .i64 b1) * 256))) - 65536)))) = false) : OK cfg (.fn 38 []) [(.int .i64 k), (.sl 1 (some (0, 0)) 2)] [.cells false [(.int .u8 b0), (.int .u8 b1)]] (.tup [(.int .i64 (IntKind.wrap .i64 ((bits .or .i64 (bits .or .i64 0 (IntKind.wrap .i64 ((IntKind.wrap .i64 b0) * 1))) (IntKind.wrap .i64 ((IntKind.wrap .i64 b1) * 256))) - 65536))), (.int .i64 0)]) [.cells false [(.int .u8 b0), (.int .u8 b1)], .dead, .dead, .dead, .dead] :=
  ok_fn' hmix (n := 40) (os := [.c, .c, .c, .r (.int .i64 2) [.cells false [(.int .u8 b0), (.int .u8 b1)], .dead], .c, .c, .c, .c, .c, .c, .c, .c, .c, .c, .c, .c, .c, .c, .c, .a, .c, .c, .c, .c, .c, .c, .c, .c, .c, .c, .c, .c, .c, .c, .c, .c, .c, .c, .c, .c, .c, .c, .c, .c, .c, .c, .c, .c, .c, .c, .c, .c, .c, .c, .c, .c, .c, .r (.bool (sg k)) [.cells false [(.int .u8 b0), (.int .u8 b1)], .dead, .dead], .c, .t, .c, .c, .c, .c, .r (.int .i64 (hi k)) [.cells false [(.int .u8 b0), (.int .u8 b1)], .dead, .dead, .dead], .c, .c, .c, .t, .c, .c, .c, .c, .c, .c, .c, .c, .c, .r (.bool (fits k (IntKind.wrap .i64 ((bits .or .i64 (bits .or .i64 0 (IntKind.wrap .i64 ((IntKind.wrap .i64 b0) * 1))) (IntKind.wrap .i64 ((IntKind.wrap .i64 b1) * 256))) - 65536)))) [.cells false [(.int .u8 b0), (.int .u8 b1)], .dead, .dead, .dead, .dead], .c, .f, .c, .c, .c]) (by kernel_rfl) (And.intro (Eq.refl true) (And.intro (OK.pad (size_is k 2 [.cells false [(.int .u8 b0), (.int .u8 b1)]] hz)) (And.intro (Eq.refl true) (And.intro (Eq.refl true) (And.intro (Eq.refl true) (And.intro (Eq.refl true) (And.intro (Eq.refl true) (And.intro (Eq.refl true) (And.intro (Eq.refl true) (And.intro (Eq.refl true) (And.intro (Eq.refl true) (And.intro (Eq.refl true) (And.intro (Eq.refl true) (And.intro (Eq.refl true) (And.intro (Eq.refl true) (And.intro (Eq.refl true) (And.intro (OK.pad (sign_ok k [.cells false [(.int .u8 b0), (.int .u8 b1)], .dead])) (And.intro h0 (And.intro (OK.pad (high_ok k [.cells false [(.int .u8 b0), (.int .u8 b1)], .dead, .dead])) (And.intro (Eq.refl true) (And.intro h1 (And.intro (Eq.refl true) (And.intro (OK.pad (fits_ok k (IntKind.wrap .i64 ((bits .or .i64 (bits .or .i64 0 (IntKind.wrap .i64 ((IntKind.wrap .i64 b0) * 1))) (IntKind.wrap .i64 ((IntKind.wrap .i64 b1) * 256))) - 65536)) [.cells false [(.int .u8 b0), (.int .u8 b1)], .dead, .dead, .dead])) (And.intro (Eq.refl true) (And.intro h2 (And.intro (Eq.refl true) (Eq.refl (((.tup [(.int .i64 (IntKind.wrap .i64 ((bits .or .i64 (bits .or .i64 0 (IntKind.wrap .i64 ((IntKind.wrap .i64 b0) * 1))) (IntKind.wrap .i64 ((IntKind.wrap .i64 b1) * 256))) - 65536))), (.int .i64 0)]) : V), ([.cells false [(.int .u8 b0), (.int .u8 b1)], .dead, .dead, .dead, .dead] : Heap)))))))))))))))))))))))))))))

theorem get2_110 (k b0 b1 : Int) (hz : sz k = 2) (h0 : (sg k) = true) (h1 : (decide (((bits .or .i64 (bits .or .i64 0 (IntKind.wrap .i64 ((IntKind.wrap .i64 b0) * 1))) (IntKind.wrap .i64 ((IntKind.wrap .i64 b1) * 256))) : Int) > (hi k))) = true) (h2 : (!(fits k (IntKind.wrap .i64 ((bits .or .i64 (bits .or .i64 0 (IntKind.wrap .i64 ((IntKind.wrap .i64 b0) * 1))) (IntKind.wrap .i64 ((IntKind.wrap .i64 b1) * 256))) - 65536)))) = true) : OK cfg (.fn 38 []) [(.int .i64 k), (.sl 1 (some (0, 0)) 2)] [.cells false [(.int .u8 b0), (.int .u8 b1)]] (.tup [(.int .i64 0), (.int .i64 4)]) [.cells false [(.int .u8 b0), (.int .u8 b1)], .dead, .dead, .dead, .dead] :=
  ok_fn' hmix (n := 40) (os := [.c, .c, .c, .r (.int .i64 2) [.cells false [(.int .u8 b0), (.int .u8 b1)], .dead], .c, .c, .c, .c, .c, .c, .c, .c, .c, .c, .c, .c, .c, .c, .c, .a, .c, .c, .c, .c, .c, .c, .c, .c, .c, .c, .c, .c, .c, .c, .c, .c, .c, .c, .c, .c, .c, .c, .c, .c, .c, .c, .c, .c, .c, .c, .c, .c, .c, .c, .c, .c, .c, .r (.bool (sg k)) [.cells false [(.int .u8 b0), (.int .u8 b1)], .dead, .dead], .c, .t, .c, .c, .c, .c, .r (.int .i64 (hi k)) [.cells false [(.int .u8 b0), (.int .u8 b1)], .dead, .dead, .dead], .c, .c, .c, .t, .c, .c, .c, .c, .c, .c, .c, .c, .c, .r (.bool (fits k (IntKind.wrap .i64 ((bits .or .i64 (bits .or .i64 0 (IntKind.wrap .i64 ((IntKind.wrap .i64 b0) * 1))) (IntKind.wrap .i64 ((IntKind.wrap .i64 b1) * 256))) - 65536)))) [.cells false [(.int .u8 b0), (.int .u8 b1)], .dead, .dead, .dead, .dead], .c, .t, .c, .c]) (by kernel_rfl) (And.intro (Eq.refl true) (And.intro (OK.pad (size_is k 2 [.cells false [(.int .u8 b0), (.int .u8 b1)]] hz)) (And.intro (Eq.refl true) (And.intro (Eq.refl true) (And.intro (Eq.refl true) (And.intro (Eq.refl true) (And.intro (Eq.refl true) (And.intro (Eq.refl true) (And.intro (Eq.refl true) (And.intro (Eq.refl true) (And.intro (Eq.refl true) (And.intro (Eq.refl true) (And.intro (Eq.refl true) (And.intro (Eq.refl true) (And.intro (Eq.refl true) (And.intro (Eq.refl true) (And.intro (OK.pad (sign_ok k [.cells false [(.int .u8 b0), (.int .u8 b1)], .dead])) (And.intro h0 (And.intro (OK.pad (high_ok k [.cells false [(.int .u8 b0), (.int .u8 b1)], .dead, .dead])) (And.intro (Eq.refl true) (And.intro h1 (And.intro (Eq.refl true) (And.intro (OK.pad (fits_ok k (IntKind.wrap .i64 ((bits .or .i64 (bits .or .i64 0 (IntKind.wrap .i64 ((IntKind.wrap .i64 b0) * 1))) (IntKind.wrap .i64 ((IntKind.wrap .i64 b1) * 256))) - 65536)) [.cells false [(.int .u8 b0), (.int .u8 b1)], .dead, .dead, .dead])) (And.intro (Eq.refl true) (And.intro h2 (And.intro (Eq.refl true) (Eq.refl (((.tup [(.int .i64 0), (.int .i64 4)]) : V), ([.cells false [(.int .u8 b0), (.int .u8 b1)], .dead, .dead, .dead, .dead] : Heap)))))))))))))))))))))))))))))

theorem get_ok2 (k b0 b1 : Int) (hz : sz k = 2) (hb : okb [b0, b1]) : OK cfg (.fn 38 []) [.int .i64 k, .sl 1 (some (0, 0)) 2] [.cells false [.int .u8 b0, .int .u8 b1]] (.tup [.int .i64 (gets k [b0, b1]).1, .int .i64 (gets k [b0, b1]).2]) [.cells false [.int .u8 b0, .int .u8 b1]] := by
  have h_b0 := hb b0 (by simp)
  have w_b0 : IntKind.wrap .i64 b0 = b0 := wrap_i64 (by omega)
  have h_b1 := hb b1 (by simp)
  have w_b1 : IntKind.wrap .i64 b1 = b1 := wrap_i64 (by omega)
  have m_b0 : IntKind.wrap .i64 (b0 * 1) = b0 * 1 := wrap_i64 (by omega)
  have m_b1 : IntKind.wrap .i64 (b1 * 256) = b1 * 256 := wrap_i64 (by omega)
  have e : ((bits .or .i64 (bits .or .i64 0 (IntKind.wrap .i64 ((IntKind.wrap .i64 b0) * 1))) (IntKind.wrap .i64 ((IntKind.wrap .i64 b1) * 256))) : Int) = num [b0, b1] := by
    rw [w_b0, w_b1, m_b0, m_b1, or0 h_b0, or8 ⟨by omega, h_b1⟩]
    simp only [num]
    omega
  have hN : 0 ≤ num [b0, b1] ∧ num [b0, b1] < 65536 := by simp only [num]; omega
  have hg : gets k [b0, b1] = got k [b0, b1] := by unfold gets; rw [if_neg (by omega), if_pos (by rw [hz]; rfl)]
  have hw : IntKind.wrap .i64 (num [b0, b1] - 65536) = num [b0, b1] - 65536 := wrap_i64 (by omega)
  have hp : pw k = 65536 := by simp [pw, hz]
  rw [hg]
  unfold got
  rcases (Bool.eq_false_or_eq_true (sg k)).symm with hs | hs
  · have ha : adj k (num [b0, b1]) = num [b0, b1] := by unfold adj; rw [if_neg (by simp [hs])]
    by_cases hf : fits k (num [b0, b1]) = true
    · rw [ha, if_pos hf]
      exact OK.ro1 (OK.eqv (get2_001 k b0 b1 hz hs (by rw [e]; simp [hf])) (by rw [e])) (by rfl) rfl rfl
    · rw [ha, if_neg hf]
      exact OK.ro1 (OK.eqv (get2_000 k b0 b1 hz hs (by rw [e]; simp [hf])) (by rfl)) (by rfl) rfl rfl
  · by_cases hh : num [b0, b1] > hi k
    · have ha : adj k (num [b0, b1]) = num [b0, b1] - 65536 := by unfold adj; rw [if_pos ⟨hs, hh⟩, hp]
      by_cases hf : fits k (num [b0, b1] - 65536) = true
      · rw [ha, if_pos hf]
        exact OK.ro1 (OK.eqv (get2_111 k b0 b1 hz hs (by rw [e]; exact decide_eq_true hh) (by rw [e, hw]; simp [hf])) (by rw [e, hw])) (by rfl) rfl rfl
      · rw [ha, if_neg hf]
        exact OK.ro1 (OK.eqv (get2_110 k b0 b1 hz hs (by rw [e]; exact decide_eq_true hh) (by rw [e, hw]; simp [hf])) (by rfl)) (by rfl) rfl rfl
    · have ha : adj k (num [b0, b1]) = num [b0, b1] := by unfold adj; rw [if_neg (fun h => hh h.2)]
      by_cases hf : fits k (num [b0, b1]) = true
      · rw [ha, if_pos hf]
        exact OK.ro1 (OK.eqv (get2_101 k b0 b1 hz hs (by rw [e]; exact decide_eq_false hh) (by rw [e]; simp [hf])) (by rw [e])) (by rfl) rfl rfl
      · rw [ha, if_neg hf]
        exact OK.ro1 (OK.eqv (get2_100 k b0 b1 hz hs (by rw [e]; exact decide_eq_false hh) (by rw [e]; simp [hf])) (by rfl)) (by rfl) rfl rfl

theorem get4_001 (k b0 b1 b2 b3 : Int) (hz : sz k = 4) (h0 : (sg k) = false) (h1 : (!(fits k (bits .or .i64 (bits .or .i64 (bits .or .i64 (bits .or .i64 0 (IntKind.wrap .i64 ((IntKind.wrap .i64 b0) * 1))) (IntKind.wrap .i64 ((IntKind.wrap .i64 b1) * 256))) (IntKind.wrap .i64 ((IntKind.wrap .i64 b2) * 65536))) (IntKind.wrap .i64 ((IntKind.wrap .i64 b3) * 16777216))))) = false) : OK cfg (.fn 38 []) [(.int .i64 k), (.sl 1 (some (0, 0)) 4)] [.cells false [(.int .u8 b0), (.int .u8 b1), (.int .u8 b2), (.int .u8 b3)]] (.tup [(.int .i64 (bits .or .i64 (bits .or .i64 (bits .or .i64 (bits .or .i64 0 (IntKind.wrap .i64 ((IntKind.wrap .i64 b0) * 1))) (IntKind.wrap .i64 ((IntKind.wrap .i64 b1) * 256))) (IntKind.wrap .i64 ((IntKind.wrap .i64 b2) * 65536))) (IntKind.wrap .i64 ((IntKind.wrap .i64 b3) * 16777216)))), (.int .i64 0)]) [.cells false [(.int .u8 b0), (.int .u8 b1), (.int .u8 b2), (.int .u8 b3)], .dead, .dead, .dead] :=
  ok_fn' hmix (n := 40) (os := [.c, .c, .c, .r (.int .i64 4) [.cells false [(.int .u8 b0), (.int .u8 b1), (.int .u8 b2), (.int .u8 b3)], .dead], .c, .c, .c, .c, .c, .c, .c, .c, .c, .c, .c, .c, .c, .c, .c, .a, .c, .c, .c, .c, .c, .c, .c, .c, .c, .c, .c, .c, .c, .c, .c, .c, .c, .c, .c, .c, .c, .c, .c, .c, .c, .c, .c, .c, .c, .c, .c, .c, .c, .c, .c, .c, .c, .c, .c, .c, .c, .c, .c, .c, .c, .c, .c, .c, .c, .c, .c, .c, .c, .c, .c, .c, .c, .c, .c, .c, .c, .c, .c, .c, .c, .c, .c, .c, .c, .c, .c, .r (.bool (sg k)) [.cells false [(.int .u8 b0), (.int .u8 b1), (.int .u8 b2), (.int .u8 b3)], .dead, .dead], .c, .f, .c, .c, .c, .c, .c, .c, .c, .r (.bool (fits k (bits .or .i64 (bits .or .i64 (bits .or .i64 (bits .or .i64 0 (IntKind.wrap .i64 ((IntKind.wrap .i64 b0) * 1))) (IntKind.wrap .i64 ((IntKind.wrap .i64 b1) * 256))) (IntKind.wrap .i64 ((IntKind.wrap .i64 b2) * 65536))) (IntKind.wrap .i64 ((IntKind.wrap .i64 b3) * 16777216))))) [.cells false [(.int .u8 b0), (.int .u8 b1), (.int .u8 b2), (.int .u8 b3)], .dead, .dead, .dead], .c, .f, .c, .c, .c]) (by kernel_rfl) (And.intro (Eq.refl true) (And.intro (OK.pad (size_is k 4 [.cells false [(.int .u8 b0), (.int .u8 b1), (.int .u8 b2), (.int .u8 b3)]] hz)) (And.intro (Eq.refl true) (And.intro (Eq.refl true) (And.intro (Eq.refl true) (And.intro (Eq.refl true) (And.intro (Eq.refl true) (And.intro (Eq.refl true) (And.intro (Eq.refl true) (And.intro (Eq.refl true) (And.intro (Eq.refl true) (And.intro (Eq.refl true) (And.intro (Eq.refl true) (And.intro (Eq.refl true) (And.intro (Eq.refl true) (And.intro (Eq.refl true) (And.intro (Eq.refl true) (And.intro (Eq.refl true) (And.intro (Eq.refl true) (And.intro (Eq.refl true) (And.intro (Eq.refl true) (And.intro (Eq.refl true) (And.intro (Eq.refl true) (And.intro (Eq.refl true) (And.intro (OK.pad (sign_ok k [.cells false [(.int .u8 b0), (.int .u8 b1), (.int .u8 b2), (.int .u8 b3)], .dead])) (And.intro h0 (And.intro (Eq.refl true) (And.intro (OK.pad (fits_ok k (bits .or .i64 (bits .or .i64 (bits .or .i64 (bits .or .i64 0 (IntKind.wrap .i64 ((IntKind.wrap .i64 b0) * 1))) (IntKind.wrap .i64 ((IntKind.wrap .i64 b1) * 256))) (IntKind.wrap .i64 ((IntKind.wrap .i64 b2) * 65536))) (IntKind.wrap .i64 ((IntKind.wrap .i64 b3) * 16777216))) [.cells false [(.int .u8 b0), (.int .u8 b1), (.int .u8 b2), (.int .u8 b3)], .dead, .dead])) (And.intro (Eq.refl true) (And.intro h1 (And.intro (Eq.refl true) (Eq.refl (((.tup [(.int .i64 (bits .or .i64 (bits .or .i64 (bits .or .i64 (bits .or .i64 0 (IntKind.wrap .i64 ((IntKind.wrap .i64 b0) * 1))) (IntKind.wrap .i64 ((IntKind.wrap .i64 b1) * 256))) (IntKind.wrap .i64 ((IntKind.wrap .i64 b2) * 65536))) (IntKind.wrap .i64 ((IntKind.wrap .i64 b3) * 16777216)))), (.int .i64 0)]) : V), ([.cells false [(.int .u8 b0), (.int .u8 b1), (.int .u8 b2), (.int .u8 b3)], .dead, .dead, .dead] : Heap))))))))))))))))))))))))))))))))))

theorem get4_000 (k b0 b1 b2 b3 : Int) (hz : sz k = 4) (h0 : (sg k) = false) (h1 : (!(fits k (bits .or .i64 (bits .or .i64 (bits .or .i64 (bits .or .i64 0 (IntKind.wrap .i64 ((IntKind.wrap .i64 b0) * 1))) (IntKind.wrap .i64 ((IntKind.wrap .i64 b1) * 256))) (IntKind.wrap .i64 ((IntKind.wrap .i64 b2) * 65536))) (IntKind.wrap .i64 ((IntKind.wrap .i64 b3) * 16777216))))) = true) : OK cfg (.fn 38 []) [(.int .i64 k), (.sl 1 (some (0, 0)) 4)] [.cells false [(.int .u8 b0), (.int .u8 b1), (.int .u8 b2), (.int .u8 b3)]] (.tup [(.int .i64 0), (.int .i64 4)]) [.cells false [(.int .u8 b0), (.int .u8 b1), (.int .u8 b2), (.int .u8 b3)], .dead, .dead, .dead] :=
  ok_fn' hmix (n := 40) (os := [.c, .c, .c, .r (.int .i64 4) [.cells false [(.int .u8 b0), (.int .u8 b1), (.int .u8 b2), (.int .u8 b3)], .dead], .c, .c, .c, .c, .c, .c, .c, .c, .c, .c, .c, .c, .c, .c, .c, .a, .c, .c, .c, .c, .c, .c, .c, .c, .c, .c, .c, .c, .c, .c, .c, .c, .c, .c, .c, .c, .c, .c, .c, .c, .c, .c, .c, .c, .c, .c, .c, .c, .c, .c, .c, .c, .c, .c, .c, .c, .c, .c, .c, .c, .c, .c, .c, .c, .c, .c, .c, .c, .c, .c, .c, .c, .c, .c, .c, .c, .c, .c, .c, .c, .c, .c, .c, .c, .c, .c, .c, .r (.bool (sg k)) [.cells false [(.int .u8 b0), (.int .u8 b1), (.int .u8 b2), (.int .u8 b3)], .dead, .dead], .c, .f, .c, .c, .c, .c, .c, .c, .c, .r (.bool (fits k (bits .or .i64 (bits .or .i64 (bits .or .i64 (bits .or .i64 0 (IntKind.wrap .i64 ((IntKind.wrap .i64 b0) * 1))) (IntKind.wrap .i64 ((IntKind.wrap .i64 b1) * 256))) (IntKind.wrap .i64 ((IntKind.wrap .i64 b2) * 65536))) (IntKind.wrap .i64 ((IntKind.wrap .i64 b3) * 16777216))))) [.cells false [(.int .u8 b0), (.int .u8 b1), (.int .u8 b2), (.int .u8 b3)], .dead, .dead, .dead], .c, .t, .c, .c]) (by kernel_rfl) (And.intro (Eq.refl true) (And.intro (OK.pad (size_is k 4 [.cells false [(.int .u8 b0), (.int .u8 b1), (.int .u8 b2), (.int .u8 b3)]] hz)) (And.intro (Eq.refl true) (And.intro (Eq.refl true) (And.intro (Eq.refl true) (And.intro (Eq.refl true) (And.intro (Eq.refl true) (And.intro (Eq.refl true) (And.intro (Eq.refl true) (And.intro (Eq.refl true) (And.intro (Eq.refl true) (And.intro (Eq.refl true) (And.intro (Eq.refl true) (And.intro (Eq.refl true) (And.intro (Eq.refl true) (And.intro (Eq.refl true) (And.intro (Eq.refl true) (And.intro (Eq.refl true) (And.intro (Eq.refl true) (And.intro (Eq.refl true) (And.intro (Eq.refl true) (And.intro (Eq.refl true) (And.intro (Eq.refl true) (And.intro (Eq.refl true) (And.intro (OK.pad (sign_ok k [.cells false [(.int .u8 b0), (.int .u8 b1), (.int .u8 b2), (.int .u8 b3)], .dead])) (And.intro h0 (And.intro (Eq.refl true) (And.intro (OK.pad (fits_ok k (bits .or .i64 (bits .or .i64 (bits .or .i64 (bits .or .i64 0 (IntKind.wrap .i64 ((IntKind.wrap .i64 b0) * 1))) (IntKind.wrap .i64 ((IntKind.wrap .i64 b1) * 256))) (IntKind.wrap .i64 ((IntKind.wrap .i64 b2) * 65536))) (IntKind.wrap .i64 ((IntKind.wrap .i64 b3) * 16777216))) [.cells false [(.int .u8 b0), (.int .u8 b1), (.int .u8 b2), (.int .u8 b3)], .dead, .dead])) (And.intro (Eq.refl true) (And.intro h1 (And.intro (Eq.refl true) (Eq.refl (((.tup [(.int .i64 0), (.int .i64 4)]) : V), ([.cells false [(.int .u8 b0), (.int .u8 b1), (.int .u8 b2), (.int .u8 b3)], .dead, .dead, .dead] : Heap))))))))))))))))))))))))))))))))))

theorem get4_101 (k b0 b1 b2 b3 : Int) (hz : sz k = 4) (h0 : (sg k) = true) (h1 : (decide (((bits .or .i64 (bits .or .i64 (bits .or .i64 (bits .or .i64 0 (IntKind.wrap .i64 ((IntKind.wrap .i64 b0) * 1))) (IntKind.wrap .i64 ((IntKind.wrap .i64 b1) * 256))) (IntKind.wrap .i64 ((IntKind.wrap .i64 b2) * 65536))) (IntKind.wrap .i64 ((IntKind.wrap .i64 b3) * 16777216))) : Int) > (hi k))) = false) (h2 : (!(fits k (bits .or .i64 (bits .or .i64 (bits .or .i64 (bits .or .i64 0 (IntKind.wrap .i64 ((IntKind.wrap .i64 b0) * 1))) (IntKind.wrap .i64 ((IntKind.wrap .i64 b1) * 256))) (IntKind.wrap .i64 ((IntKind.wrap .i64 b2) * 65536))) (IntKind.wrap .i64 ((IntKind.wrap .i64 b3) * 16777216))))) = false) : OK cfg (.fn 38 []) [(.int .i64 k), (.sl 1 (some (0, 0)) 4)] [.cells false [(.int .u8 b0), (.int .u8 b1), (.int .u8 b2), (.int .u8 b3)]] (.tup [(.int .i64 (bits .or .i64 (bits .or .i64 (bits .or .i64 (bits .or .i64 0 (IntKind.wrap .i64 ((IntKind.wrap .i64 b0) * 1))) (IntKind.wrap .i64 ((IntKind.wrap .i64 b1) * 256))) (IntKind.wrap .i64 ((IntKind.wrap .i64 b2) * 65536))) (IntKind.wrap .i64 ((IntKind.wrap .i64 b3) * 16777216)))), (.int .i64 0)]) [.cells false [(.int .u8 b0), (.int .u8 b1), (.int .u8 b2), (.int .u8 b3)], .dead, .dead, .dead, .dead] :=
  ok_fn' hmix (n := 40) (os := [.c, .c, .c, .r (.int .i64 4) [.cells false [(.int .u8 b0), (.int .u8 b1), (.int .u8 b2), (.int .u8 b3)], .dead], .c, .c, .c, .c, .c, .c, .c, .c, .c, .c, .c, .c, .c, .c, .c, .a, .c, .c, .c, .c, .c, .c, .c, .c, .c, .c, .c, .c, .c, .c, .c, .c, .c, .c, .c, .c, .c, .c, .c, .c, .c, .c, .c, .c, .c, .c, .c, .c, .c, .c, .c, .c, .c, .c, .c, .c, .c, .c, .c, .c, .c, .c, .c, .c, .c, .c, .c, .c, .c, .c, .c, .c, .c, .c, .c, .c, .c, .c, .c, .c, .c, .c, .c, .c, .c, .c, .c, .r (.bool (sg k)) [.cells false [(.int .u8 b0), (.int .u8 b1), (.int .u8 b2), (.int .u8 b3)], .dead, .dead], .c, .t, .c, .c, .c, .c, .r (.int .i64 (hi k)) [.cells false [(.int .u8 b0), (.int .u8 b1), (.int .u8 b2), (.int .u8 b3)], .dead, .dead, .dead], .c, .c, .c, .f, .c, .c, .r (.bool (fits k (bits .or .i64 (bits .or .i64 (bits .or .i64 (bits .or .i64 0 (IntKind.wrap .i64 ((IntKind.wrap .i64 b0) * 1))) (IntKind.wrap .i64 ((IntKind.wrap .i64 b1) * 256))) (IntKind.wrap .i64 ((IntKind.wrap .i64 b2) * 65536))) (IntKind.wrap .i64 ((IntKind.wrap .i64 b3) * 16777216))))) [.cells false [(.int .u8 b0), (.int .u8 b1), (.int .u8 b2), (.int .u8 b3)], .dead, .dead, .dead, .dead], .c, .f, .c, .c, .c]) (by kernel_rfl) (And.intro (Eq.refl true) (And.intro (OK.pad (size_is k 4 [.cells false [(.int .u8 b0), (.int .u8 b1), (.int .u8 b2), (.int .u8 b3)]] hz)) (And.intro (Eq.refl true) (And.intro (Eq.refl true) (And.intro (Eq.refl true) (And.intro (Eq.refl true) (And.intro (Eq.refl true) (And.intro (Eq.refl true) (And.intro (Eq.refl true) (And.intro (Eq.refl true) (And.intro (Eq.refl true) (And.intro (Eq.refl true) (And.intro (Eq.refl true) (And.intro (Eq.refl true) (And.intro (Eq.refl true) (And.intro (Eq.refl true) (And.intro (Eq.refl true) (And.intro (Eq.refl true) (And.intro (Eq.refl true) (And.intro (Eq.refl true) (And.intro (Eq.refl true) (And.intro (Eq.refl true) (And.intro (Eq.refl true) (And.intro (Eq.refl true) (And.intro (OK.pad (sign_ok k [.cells false [(.int .u8 b0), (.int .u8 b1), (.int .u8 b2), (.int .u8 b3)], .dead])) (And.intro h0 (And.intro (OK.pad (high_ok k [.cells false [(.int .u8 b0), (.int .u8 b1), (.int .u8 b2), (.int .u8 b3)], .dead, .dead])) (And.intro (Eq.refl true) (And.intro h1 (And.intro (OK.pad (fits_ok k (bits .or .i64 (bits .or .i64 (bits .or .i64 (bits .or .i64 0 (IntKind.wrap .i64 ((IntKind.wrap .i64 b0) * 1))) (IntKind.wrap .i64 ((IntKind.wrap .i64 b1) * 256))) (IntKind.wrap .i64 ((IntKind.wrap .i64 b2) * 65536))) (IntKind.wrap .i64 ((IntKind.wrap .i64 b3) * 16777216))) [.cells false [(.int .u8 b0), (.int .u8 b1), (.int .u8 b2), (.int .u8 b3)], .dead, .dead, .dead])) (And.intro (Eq.refl true) (And.intro h2 (And.intro (Eq.refl true) (Eq.refl (((.tup [(.int .i64 (bits .or .i64 (bits .or .i64 (bits .or .i64 (bits .or .i64 0 (IntKind.wrap .i64 ((IntKind.wrap .i64 b0) * 1))) (IntKind.wrap .i64 ((IntKind.wrap .i64 b1) * 256))) (IntKind.wrap .i64 ((IntKind.wrap .i64 b2) * 65536))) (IntKind.wrap .i64 ((IntKind.wrap .i64 b3) * 16777216)))), (.int .i64 0)]) : V), ([.cells false [(.int .u8 b0), (.int .u8 b1), (.int .u8 b2), (.int .u8 b3)], .dead, .dead, .dead, .dead] : Heap))))))))))))))))))))))))))))))))))))

theorem get4_100 (k b0 b1 b2 b3 : Int) (hz : sz k = 4) (h0 : (sg k) = true) (h1 : (decide (((bits .or .i64 (bits .or .i64 (bits .or .i64 (bits .or .i64 0 (IntKind.wrap .i64 ((IntKind.wrap .i64 b0) * 1))) (IntKind.wrap .i64 ((IntKind.wrap .i64 b1) * 256))) (IntKind.wrap .i64 ((IntKind.wrap .i64 b2) * 65536))) (IntKind.wrap .i64 ((IntKind.wrap .i64 b3) * 16777216))) : Int) > (hi k))) = false) (h2 : (!(fits k (bits .or .i64 (bits .or .i64 (bits .or .i64 (bits .or .i64 0 (IntKind.wrap .i64 ((IntKind.wrap .i64 b0) * 1))) (IntKind.wrap .i64 ((IntKind.wrap .i64 b1) * 256))) (IntKind.wrap .i64 ((IntKind.wrap .i64 b2) * 65536))) (IntKind.wrap .i64 ((IntKind.wrap .i64 b3) * 16777216))))) = true) : OK cfg (.fn 38 []) [(.int .i64 k), (.sl 1 (some (0, 0)) 4)] [.cells false [(.int .u8 b0), (.int .u8 b1), (.int .u8 b2), (.int .u8 b3)]] (.tup [(.int .i64 0), (.int .i64 4)]) [.cells false [(.int .u8 b0), (.int .u8 b1), (.int .u8 b2), (.int .u8 b3)], .dead, .dead, .dead, .dead] :=
  ok_fn' hmix (n := 40) (os := [.c, .c, .c, .r (.int .i64 4) [.cells false [(.int .u8 b0), (.int .u8 b1), (.int .u8 b2), (.int .u8 b3)], .dead], .c, .c, .c, .c, .c, .c, .c, .c, .c, .c, .c, .c, .c, .c, .c, .a, .c, .c, .c, .c, .c, .c, .c, .c, .c, .c, .c, .c, .c, .c, .c, .c, .c, .c, .c, .c, .c, .c, .c, .c, .c, .c, .c, .c, .c, .c, .c, .c, .c, .c, .c, .c, .c, .c, .c, .c, .c, .c, .c, .c, .c, .c, .c, .c, .c, .c, .c, .c, .c, .c, .c, .c, .c, .c, .c, .c, .c, .c, .c, .c, .c, .c, .c, .c, .c, .c, .c, .r (.bool (sg k)) [.cells false [(.int .u8 b0), (.int .u8 b1), (.int .u8 b2), (.int .u8 b3)], .dead, .dead], .c, .t, .c, .c, .c, .c, .r (.int .i64 (hi k)) [.cells false [(.int .u8 b0), (.int .u8 b1), (.int .u8 b2), (.int .u8 b3)], .dead, .dead, .dead], .c, .c, .c, .f, .c, .c, .r (.bool (fits k (bits .or .i64 (bits .or .i64 (bits .or .i64 (bits .or .i64 0 (IntKind.wrap .i64 ((IntKind.wrap .i64 b0) * 1))) (IntKind.wrap .i64 ((IntKind.wrap .i64 b1) * 256))) (IntKind.wrap .i64 ((IntKind.wrap .i64 b2) * 65536))) (IntKind.wrap .i64 ((IntKind.wrap .i64 b3) * 16777216))))) [.cells false [(.int .u8 b0), (.int .u8 b1), (.int .u8 b2), (.int .u8 b3)], .dead, .dead, .dead, .dead], .c, .t, .c, .c]) (by kernel_rfl) (And.intro (Eq.refl true) (And.intro (OK.pad (size_is k 4 [.cells false [(.int .u8 b0), (.int .u8 b1), (.int .u8 b2), (.int .u8 b3)]] hz)) (And.intro (Eq.refl true) (And.intro (Eq.refl true) (And.intro (Eq.refl true) (And.intro (Eq.refl true) (And.intro (Eq.refl true) (And.intro (Eq.refl true) (And.intro (Eq.refl true) (And.intro (Eq.refl true) (And.intro (Eq.refl true) (And.intro (Eq.refl true) (And.intro (Eq.refl true) (And.intro (Eq.refl true) (And.intro (Eq.refl true) (And.intro (Eq.refl true) (And.intro (Eq.refl true) (And.intro (Eq.refl true) (And.intro (Eq.refl true) (And.intro (Eq.refl true) (And.intro (Eq.refl true) (And.intro (Eq.refl true) (And.intro (Eq.refl true) (And.intro (Eq.refl true) (And.intro (OK.pad (sign_ok k [.cells false [(.int .u8 b0), (.int .u8 b1), (.int .u8 b2), (.int .u8 b3)], .dead])) (And.intro h0 (And.intro (OK.pad (high_ok k [.cells false [(.int .u8 b0), (.int .u8 b1), (.int .u8 b2), (.int .u8 b3)], .dead, .dead])) (And.intro (Eq.refl true) (And.intro h1 (And.intro (OK.pad (fits_ok k (bits .or .i64 (bits .or .i64 (bits .or .i64 (bits .or .i64 0 (IntKind.wrap .i64 ((IntKind.wrap .i64 b0) * 1))) (IntKind.wrap .i64 ((IntKind.wrap .i64 b1) * 256))) (IntKind.wrap .i64 ((IntKind.wrap .i64 b2) * 65536))) (IntKind.wrap .i64 ((IntKind.wrap .i64 b3) * 16777216))) [.cells false [(.int .u8 b0), (.int .u8 b1), (.int .u8 b2), (.int .u8 b3)], .dead, .dead, .dead])) (And.intro (Eq.refl true) (And.intro h2 (And.intro (Eq.refl true) (Eq.refl (((.tup [(.int .i64 0), (.int .i64 4)]) : V), ([.cells false [(.int .u8 b0), (.int .u8 b1), (.int .u8 b2), (.int .u8 b3)], .dead, .dead, .dead, .dead] : Heap))))))))))))))))))))))))))))))))))))

theorem get4_111 (k b0 b1 b2 b3 : Int) (hz : sz k = 4) (h0 : (sg k) = true) (h1 : (decide (((bits .or .i64 (bits .or .i64 (bits .or .i64 (bits .or .i64 0 (IntKind.wrap .i64 ((IntKind.wrap .i64 b0) * 1))) (IntKind.wrap .i64 ((IntKind.wrap .i64 b1) * 256))) (IntKind.wrap .i64 ((IntKind.wrap .i64 b2) * 65536))) (IntKind.wrap .i64 ((IntKind.wrap .i64 b3) * 16777216))) : Int) > (hi k))) = true) (h2 : (!(fits k (IntKind.wrap .i64 ((bits .or .i64 (bits .or .i64 (bits .or .i64 (bits .or .i64 0 (IntKind.wrap .i64 ((IntKind.wrap .i64 b0) * 1))) (IntKind.wrap .i64 ((IntKind.wrap .i64 b1) * 256))) (IntKind.wrap .i64 ((IntKind.wrap .i64 b2) * 65536))) (IntKind.wrap .i64 ((IntKind.wrap .i64 b3) * 16777216))) - 4294967296)))) = false) : OK cfg (.fn 38 []) [(.int .i64 k), (.sl 1 (some (0, 0)) 4)] [.cells false [(.int .u8 b0), (.int .u8 b1), (.int .u8 b2), (.int .u8 b3)]] (.tup [(.int .i64 (IntKind.wrap .i64 ((bits .or .i64 (bits .or .i64 (bits .or .i64 (bits .or .i64 0 (IntKind.wrap .i64 ((IntKind.wrap .i64 b0) * 1))) (IntKind.wrap .i64 ((IntKind.wrap .i64 b1) * 256))) (IntKind.wrap .i64 ((IntKind.wrap .i64 b2) * 65536))) (IntKind.wrap .i64 ((IntKind.wrap .i64 b3) * 16777216))) - 4294967296))), (.int .i64 0)]) [.cells false [(.int .u8 b0), (.int .u8 b1), (.int .u8 b2), (.int .u8 b3)], .dead, .dead, .dead, .dead] :=
  ok_fn' hmix (n := 40) (os := [.c, .c, .c, .r (.int .i64 4) [.cells false [(.int .u8 b0), (.int .u8 b1), (.int .u8 b2), (.int .u8 b3)], .dead], .c, .c, .c, .c, .c, .c, .c, .c, .c, .c, .c, .c, .c, .c, .c, .a, .c, .c, .c, .c, .c, .c, .c, .c, .c, .c, .c, .c, .c, .c, .c, .c, .c, .c, .c, .c, .c, .c, .c, .c, .c, .c, .c, .c, .c, .c, .c, .c, .c, .c, .c, .c, .c, .c, .c, .c, .c, .c, .c, .c, .c, .c, .c, .c, .c, .c, .c, .c, .c, .c, .c, .c, .c, .c, .c, .c, .c, .c, .c, .c, .c, .c, .c, .c, .c, .c, .c, .r (.bool (sg k)) [.cells false [(.int .u8 b0), (.int .u8 b1), (.int .u8 b2), (.int .u8 b3)], .dead, .dead], .c, .t, .c, .c, .c, .c, .r (.int .i64 (hi k)) [.cells false [(.int .u8 b0), (.int .u8 b1), (.int .u8 b2), (.int .u8 b3)], .dead, .dead, .dead], .c, .c, .c, .t, .c, .c, .c, .c, .c, .c, .c, .c, .c, .r (.bool (fits k (IntKind.wrap .i64 ((bits .or .i64 (bits .or .i64 (bits .or .i64 (bits .or .i64 0 (IntKind.wrap .i64 ((IntKind.wrap .i64 b0) * 1))) (IntKind.wrap .i64 ((IntKind.wrap .i64 b1) * 256))) (IntKind.wrap .i64 ((IntKind.wrap .i64 b2) * 65536))) (IntKind.wrap .i64 ((IntKind.wrap .i64 b3) * 16777216))) - 4294967296)))) [.cells false [(.int .u8 b0), (.int .u8 b1), (.int .u8 b2), (.int .u8 b3)], .dead, .dead, .dead, .dead], .c, .f, .c, .c, .c]) (by kernel_rfl) (And.intro (Eq.refl true) (And.intro (OK.pad (size_is k 4 [.cells false [(.int .u8 b0), (.int .u8 b1), (.int .u8 b2), (.int .u8 b3)]] hz)) (And.intro (Eq.refl true) (And.intro (Eq.refl true) (And.intro (Eq.refl true) (And.intro (Eq.refl true) (And.intro (Eq.refl true) (And.intro (Eq.refl true) (And.intro (Eq.refl true) (And.intro (Eq.refl true) (And.intro (Eq.refl true) (And.intro (Eq.refl true) (And.intro (Eq.refl true) (And.intro (Eq.refl true) (And.intro (Eq.refl true) (And.intro (Eq.refl true) (And.intro (Eq.refl true) (And.intro (Eq.refl true) (And.intro (Eq.refl true) (And.intro (Eq.refl true) (And.intro (Eq.refl true) (And.intro (Eq.refl true) (And.intro (Eq.refl true) (And.intro (Eq.refl true) (And.intro (OK.pad (sign_ok k [.cells false [(.int .u8 b0), (.int .u8 b1), (.int .u8 b2), (.int .u8 b3)], .dead])) (And.intro h0 (And.intro (OK.pad (high_ok k [.cells false [(.int .u8 b0), (.int .u8 b1), (.int .u8 b2), (.int .u8 b3)], .dead, .dead])) (And.intro (Eq.refl true) (And.intro h1 (And.intro (Eq.refl true) (And.intro (OK.pad (fits_ok k (IntKind.wrap .i64 ((bits .or .i64 (bits .or .i64 (bits .or .i64 (bits .or .i64 0 (IntKind.wrap .i64 ((IntKind.wrap .i64 b0) * 1))) (IntKind.wrap .i64 ((IntKind.wrap .i64 b1) * 256))) (IntKind.wrap .i64 ((IntKind.wrap .i64 b2) * 65536))) (IntKind.wrap .i64 ((IntKind.wrap .i64 b3) * 16777216))) - 4294967296)) [.cells false [(.int .u8 b0), (.int .u8 b1), (.int .u8 b2), (.int .u8 b3)], .dead, .dead, .dead])) (And.intro (Eq.refl true) (And.intro h2 (And.intro (Eq.refl true) (Eq.refl (((.tup [(.int .i64 (IntKind.wrap .i64 ((bits .or .i64 (bits .or .i64 (bits .or .i64 (bits .or .i64 0 (IntKind.wrap .i64 ((IntKind.wrap .i64 b0) * 1))) (IntKind.wrap .i64 ((IntKind.wrap .i64 b1) * 256))) (IntKind.wrap .i64 ((IntKind.wrap .i64 b2) * 65536))) (IntKind.wrap .i64 ((IntKind.wrap .i64 b3) * 16777216))) - 4294967296))), (.int .i64 0)]) : V), ([.cells false [(.int .u8 b0), (.int .u8 b1), (.int .u8 b2), (.int .u8 b3)], .dead, .dead, .dead, .dead] : Heap)))))))))))))))))))))))))))))))))))))

theorem get4_110 (k b0 b1 b2 b3 : Int) (hz : sz k = 4) (h0 : (sg k) = true) (h1 : (decide (((bits .or .i64 (bits .or .i64 (bits .or .i64 (bits .or .i64 0 (IntKind.wrap .i64 ((IntKind.wrap .i64 b0) * 1))) (IntKind.wrap .i64 ((IntKind.wrap .i64 b1) * 256))) (IntKind.wrap .i64 ((IntKind.wrap .i64 b2) * 65536))) (IntKind.wrap .i64 ((IntKind.wrap .i64 b3) * 16777216))) : Int) > (hi k))) = true) (h2 : (!(fits k (IntKind.wrap .i64 ((bits .or .i64 (bits .or .i64 (bits .or .i64 (bits .or .i64 0 (IntKind.wrap .i64 ((IntKind.wrap .i64 b0) * 1))) (IntKind.wrap .i64 ((IntKind.wrap .i64 b1) * 256))) (IntKind.wrap .i64 ((IntKind.wrap .i64 b2) * 65536))) (IntKind.wrap .i64 ((IntKind.wrap .i64 b3) * 16777216))) - 4294967296)))) = true) : OK cfg (.fn 38 []) [(.int .i64 k), (.sl 1 (some (0, 0)) 4)] [.cells false [(.int .u8 b0), (.int .u8 b1), (.int .u8 b2), (.int .u8 b3)]] (.tup [(.int .i64 0), (.int .i64 4)]) [.cells false [(.int .u8 b0), (.int .u8 b1), (.int .u8 b2), (.int .u8 b3)], .dead, .dead, .dead, .dead] :=
  ok_fn' hmix (n := 40) (os := [.c, .c, .c, .r (.int .i64 4) [.cells false [(.int .u8 b0), (.int .u8 b1), (.int .u8 b2), (.int .u8 b3)], .dead], .c, .c, .c, .c, .c, .c, .c, .c, .c, .c, .c, .c, .c, .c, .c, .a, .c, .c, .c, .c, .c, .c, .c, .c, .c, .c, .c, .c, .c, .c, .c, .c, .c, .c, .c, .c, .c, .c, .c, .c, .c, .c, .c, .c, .c, .c, .c, .c, .c, .c, .c, .c, .c, .c, .c, .c, .c, .c, .c, .c, .c, .c, .c, .c, .c, .c, .c, .c, .c, .c, .c, .c, .c, .c, .c, .c, .c, .c, .c, .c, .c, .c, .c, .c, .c, .c, .c, .r (.bool (sg k)) [.cells false [(.int .u8 b0), (.int .u8 b1), (.int .u8 b2), (.int .u8 b3)], .dead, .dead], .c, .t, .c, .c, .c, .c, .r (.int .i64 (hi k)) [.cells false [(.int .u8 b0), (.int .u8 b1), (.int .u8 b2), (.int .u8 b3)], .dead, .dead, .dead], .c, .c, .c, .t, .c, .c, .c, .c, .c, .c, .c, .c, .c, .r (.bool (fits k (IntKind.wrap .i64 ((bits .or .i64 (bits .or .i64 (bits .or .i64 (bits .or .i64 0 (IntKind.wrap .i64 ((IntKind.wrap .i64 b0) * 1))) (IntKind.wrap .i64 ((IntKind.wrap .i64 b1) * 256))) (IntKind.wrap .i64 ((IntKind.wrap .i64 b2) * 65536))) (IntKind.wrap .i64 ((IntKind.wrap .i64 b3) * 16777216))) - 4294967296)))) [.cells false [(.int .u8 b0), (.int .u8 b1), (.int .u8 b2), (.int .u8 b3)], .dead, .dead, .dead, .dead], .c, .t, .c, .c]) (by kernel_rfl) (And.intro (Eq.refl true) (And.intro (OK.pad (size_is k 4 [.cells false [(.int .u8 b0), (.int .u8 b1), (.int .u8 b2), (.int .u8 b3)]] hz)) (And.intro (Eq.refl true) (And.intro (Eq.refl true) (And.intro (Eq.refl true) (And.intro (Eq.refl true) (And.intro (Eq.refl true) (And.intro (Eq.refl true) (And.intro (Eq.refl true) (And.intro (Eq.refl true) (And.intro (Eq.refl true) (And.intro (Eq.refl true) (And.intro (Eq.refl true) (And.intro (Eq.refl true) (And.intro (Eq.refl true) (And.intro (Eq.refl true) (And.intro (Eq.refl true) (And.intro (Eq.refl true) (And.intro (Eq.refl true) (And.intro (Eq.refl true) (And.intro (Eq.refl true) (And.intro (Eq.refl true) (And.intro (Eq.refl true) (And.intro (Eq.refl true) (And.intro (OK.pad (sign_ok k [.cells false [(.int .u8 b0), (.int .u8 b1), (.int .u8 b2), (.int .u8 b3)], .dead])) (And.intro h0 (And.intro (OK.pad (high_ok k [.cells false [(.int .u8 b0), (.int .u8 b1), (.int .u8 b2), (.int .u8 b3)], .dead, .dead])) (And.intro (Eq.refl true) (And.intro h1 (And.intro (Eq.refl true) (And.intro (OK.pad (fits_ok k (IntKind.wrap .i64 ((bits .or .i64 (bits .or .i64 (bits .or .i64 (bits .or .i64 0 (IntKind.wrap .i64 ((IntKind.wrap .i64 b0) * 1))) (IntKind.wrap .i64 ((IntKind.wrap .i64 b1) * 256))) (IntKind.wrap .i64 ((IntKind.wrap .i64 b2) * 65536))) (IntKind.wrap .i64 ((IntKind.wrap .i64 b3) * 16777216))) - 4294967296)) [.cells false [(.int .u8 b0), (.int .u8 b1), (.int .u8 b2), (.int .u8 b3)], .dead, .dead, .dead])) (And.intro (Eq.refl true) (And.intro h2 (And.intro (Eq.refl true) (Eq.refl (((.tup [(.int .i64 0), (.int .i64 4)]) : V), ([.cells false [(.int .u8 b0), (.int .u8 b1), (.int .u8 b2), (.int .u8 b3)], .dead, .dead, .dead, .dead] : Heap)))))))))))))))))))))))))))))))))))))

theorem get_ok4 (k b0 b1 b2 b3 : Int) (hz : sz k = 4) (hb : okb [b0, b1, b2, b3]) : OK cfg (.fn 38 []) [.int .i64 k, .sl 1 (some (0, 0)) 4] [.cells false [.int .u8 b0, .int .u8 b1, .int .u8 b2, .int .u8 b3]] (.tup [.int .i64 (gets k [b0, b1, b2, b3]).1, .int .i64 (gets k [b0, b1, b2, b3]).2]) [.cells false [.int .u8 b0, .int .u8 b1, .int .u8 b2, .int .u8 b3]] := by
  have h_b0 := hb b0 (by simp)
  have w_b0 : IntKind.wrap .i64 b0 = b0 := wrap_i64 (by omega)
  have h_b1 := hb b1 (by simp)
  have w_b1 : IntKind.wrap .i64 b1 = b1 := wrap_i64 (by omega)
  have h_b2 := hb b2 (by simp)
  have w_b2 : IntKind.wrap .i64 b2 = b2 := wrap_i64 (by omega)
  have h_b3 := hb b3 (by simp)
  have w_b3 : IntKind.wrap .i64 b3 = b3 := wrap_i64 (by omega)
  have m_b0 : IntKind.wrap .i64 (b0 * 1) = b0 * 1 := wrap_i64 (by omega)
  have m_b1 : IntKind.wrap .i64 (b1 * 256) = b1 * 256 := wrap_i64 (by omega)
  have m_b2 : IntKind.wrap .i64 (b2 * 65536) = b2 * 65536 := wrap_i64 (by omega)
  have m_b3 : IntKind.wrap .i64 (b3 * 16777216) = b3 * 16777216 := wrap_i64 (by omega)
  have e : ((bits .or .i64 (bits .or .i64 (bits .or .i64 (bits .or .i64 0 (IntKind.wrap .i64 ((IntKind.wrap .i64 b0) * 1))) (IntKind.wrap .i64 ((IntKind.wrap .i64 b1) * 256))) (IntKind.wrap .i64 ((IntKind.wrap .i64 b2) * 65536))) (IntKind.wrap .i64 ((IntKind.wrap .i64 b3) * 16777216))) : Int) = num [b0, b1, b2, b3] := by
    rw [w_b0, w_b1, w_b2, w_b3, m_b0, m_b1, m_b2, m_b3, or0 h_b0, or8 ⟨by omega, h_b1⟩, or16 ⟨by omega, h_b2⟩, or24 ⟨by omega, h_b3⟩]
    simp only [num]
    omega
  have hN : 0 ≤ num [b0, b1, b2, b3] ∧ num [b0, b1, b2, b3] < 4294967296 := by simp only [num]; omega
  have hg : gets k [b0, b1, b2, b3] = got k [b0, b1, b2, b3] := by unfold gets; rw [if_neg (by omega), if_pos (by rw [hz]; rfl)]
  have hw : IntKind.wrap .i64 (num [b0, b1, b2, b3] - 4294967296) = num [b0, b1, b2, b3] - 4294967296 := wrap_i64 (by omega)
  have hp : pw k = 4294967296 := by simp [pw, hz]
  rw [hg]
  unfold got
  rcases (Bool.eq_false_or_eq_true (sg k)).symm with hs | hs
  · have ha : adj k (num [b0, b1, b2, b3]) = num [b0, b1, b2, b3] := by unfold adj; rw [if_neg (by simp [hs])]
    by_cases hf : fits k (num [b0, b1, b2, b3]) = true
    · rw [ha, if_pos hf]
      exact OK.ro1 (OK.eqv (get4_001 k b0 b1 b2 b3 hz hs (by rw [e]; simp [hf])) (by rw [e])) (by rfl) rfl rfl
    · rw [ha, if_neg hf]
      exact OK.ro1 (OK.eqv (get4_000 k b0 b1 b2 b3 hz hs (by rw [e]; simp [hf])) (by rfl)) (by rfl) rfl rfl
  · by_cases hh : num [b0, b1, b2, b3] > hi k
    · have ha : adj k (num [b0, b1, b2, b3]) = num [b0, b1, b2, b3] - 4294967296 := by unfold adj; rw [if_pos ⟨hs, hh⟩, hp]
      by_cases hf : fits k (num [b0, b1, b2, b3] - 4294967296) = true
      · rw [ha, if_pos hf]
        exact OK.ro1 (OK.eqv (get4_111 k b0 b1 b2 b3 hz hs (by rw [e]; exact decide_eq_true hh) (by rw [e, hw]; simp [hf])) (by rw [e, hw])) (by rfl) rfl rfl
      · rw [ha, if_neg hf]
        exact OK.ro1 (OK.eqv (get4_110 k b0 b1 b2 b3 hz hs (by rw [e]; exact decide_eq_true hh) (by rw [e, hw]; simp [hf])) (by rfl)) (by rfl) rfl rfl
    · have ha : adj k (num [b0, b1, b2, b3]) = num [b0, b1, b2, b3] := by unfold adj; rw [if_neg (fun h => hh h.2)]
      by_cases hf : fits k (num [b0, b1, b2, b3]) = true
      · rw [ha, if_pos hf]
        exact OK.ro1 (OK.eqv (get4_101 k b0 b1 b2 b3 hz hs (by rw [e]; exact decide_eq_false hh) (by rw [e]; simp [hf])) (by rw [e])) (by rfl) rfl rfl
      · rw [ha, if_neg hf]
        exact OK.ro1 (OK.eqv (get4_100 k b0 b1 b2 b3 hz hs (by rw [e]; exact decide_eq_false hh) (by rw [e]; simp [hf])) (by rfl)) (by rfl) rfl rfl

theorem get_ok (k : Int) (l : List Int) (hb : okb l) : OK cfg (.fn 38 []) [.int .i64 k, .sl 1 (some (0, 0)) l.length] [.cells false (l.map (V.int .u8))] (.tup [.int .i64 (gets k l).1, .int .i64 (gets k l).2]) [.cells false (l.map (V.int .u8))] := by
  by_cases h0 : sz k = 0
  · rw [show gets k l = (0, 2) by unfold gets; rw [if_pos h0]]
    exact OK.ro1 (get_z k l h0) (plains_map _ (fun _ => rfl) _) rfl rfl
  by_cases h1 : (l.length : Int) = sz k
  · rcases sz_cases k with e | e | e | e
    · omega
    · match l, hb, h1 with
      | [a], hb, _ => exact get_ok1 k a e hb
      | [], _, h1 => simp at h1; omega
      | _ :: _ :: _, _, h1 => simp at h1; omega
    · match l, hb, h1 with
      | [a, b], hb, _ => exact get_ok2 k a b e hb
      | [], _, h1 => simp at h1; omega
      | [_], _, h1 => simp at h1; omega
      | _ :: _ :: _ :: _, _, h1 => simp at h1; omega
    · match l, hb, h1 with
      | [a, b, c, d], hb, _ => exact get_ok4 k a b c d e hb
      | [], _, h1 => simp at h1; omega
      | [_], _, h1 => simp at h1; omega
      | [_, _], _, h1 => simp at h1; omega
      | [_, _, _], _, h1 => simp at h1; omega
      | _ :: _ :: _ :: _ :: _ :: _, _, h1 => simp at h1; omega
  · rw [show gets k l = (0, 11) by unfold gets; rw [if_neg h0, if_neg h1]]
    exact OK.ro1 (get_l k l (by simpa using h0) (by simpa using h1)) (plains_map _ (fun _ => rfl) _) rfl rfl

theorem get_n0 (k : Int) (hz : sz k = 0)  : OK cfg (.fn 38 []) [(.int .i64 k), (.sl 1 none 0)] [] (.tup [(.int .i64 0), (.int .i64 2)]) [.dead] :=
  ok_fn' hmix (n := 40) (os := [.c, .c, .c, .r (.int .i64 0) [.dead], .c, .c, .c, .c, .c, .c, .c]) (by kernel_rfl) (And.intro (Eq.refl true) (And.intro (OK.pad (size_is k 0 [] hz)) (And.intro (Eq.refl true) (And.intro (Eq.refl true) (And.intro (Eq.refl true) (Eq.refl (((.tup [(.int .i64 0), (.int .i64 2)]) : V), ([.dead] : Heap))))))))

theorem get_n1 (k : Int) (h0 : (((sz k) : Int) == 0) = false) (h1 : ((0 : Int) != (sz k)) = true) : OK cfg (.fn 38 []) [(.int .i64 k), (.sl 1 none 0)] [] (.tup [(.int .i64 0), (.int .i64 11)]) [.dead] :=
  ok_fn' hmix (n := 40) (os := [.c, .c, .c, .r (.int .i64 (sz k)) [.dead], .c, .c, .c, .c, .f, .c, .c, .c, .c, .c, .t, .c, .c]) (by kernel_rfl) (And.intro (Eq.refl true) (And.intro (OK.pad (size_ok k [])) (And.intro (Eq.refl true) (And.intro (Eq.refl true) (And.intro h0 (And.intro (Eq.refl true) (And.intro h1 (And.intro (Eq.refl true) (Eq.refl (((.tup [(.int .i64 0), (.int .i64 11)]) : V), ([.dead] : Heap)))))))))))

theorem get_v0 (k : Int) (hz : sz k = 0)  : OK cfg (.fn 38 []) [(.int .i64 k), (.sl 1 (some (0, 0)) 0)] [.void] (.tup [(.int .i64 0), (.int .i64 2)]) [.void, .dead] :=
  ok_fn' hmix (n := 40) (os := [.c, .c, .c, .r (.int .i64 0) [.void, .dead], .c, .c, .c, .c, .c, .c, .c]) (by kernel_rfl) (And.intro (Eq.refl true) (And.intro (OK.pad (size_is k 0 [.void] hz)) (And.intro (Eq.refl true) (And.intro (Eq.refl true) (And.intro (Eq.refl true) (Eq.refl (((.tup [(.int .i64 0), (.int .i64 2)]) : V), ([.void, .dead] : Heap))))))))

theorem get_v1 (k : Int) (h0 : (((sz k) : Int) == 0) = false) (h1 : ((0 : Int) != (sz k)) = true) : OK cfg (.fn 38 []) [(.int .i64 k), (.sl 1 (some (0, 0)) 0)] [.void] (.tup [(.int .i64 0), (.int .i64 11)]) [.void, .dead] :=
  ok_fn' hmix (n := 40) (os := [.c, .c, .c, .r (.int .i64 (sz k)) [.void, .dead], .c, .c, .c, .c, .f, .c, .c, .c, .c, .c, .t, .c, .c]) (by kernel_rfl) (And.intro (Eq.refl true) (And.intro (OK.pad (size_ok k [.void])) (And.intro (Eq.refl true) (And.intro (Eq.refl true) (And.intro h0 (And.intro (Eq.refl true) (And.intro h1 (And.intro (Eq.refl true) (Eq.refl (((.tup [(.int .i64 0), (.int .i64 11)]) : V), ([.void, .dead] : Heap)))))))))))

theorem get_n (k : Int) : ∃ c : Int, c ≠ 0 ∧ OK cfg (.fn 38 []) [.int .i64 k, .sl 1 none 0] [] (.tup [.int .i64 0, .int .i64 c]) [] := by
  by_cases hz : sz k = 0
  · exact ⟨2, by decide, (OK.at (fv1 := (.fn 38 [])) (args1 := [(.int .i64 k), (.sl 1 none 0)]) (v1 := (.tup [(.int .i64 0), (.int .i64 2)])) (get_n0 k hz) [] [none] [] [] [] (by kernel_rfl) (by kernel_rfl) trivial trivial (VE.ren (by kernel_rfl)) (VEL.plain (by kernel_rfl)) (VE.ren (by kernel_rfl)))⟩
  · exact ⟨11, by decide, (OK.at (fv1 := (.fn 38 [])) (args1 := [(.int .i64 k), (.sl 1 none 0)]) (v1 := (.tup [(.int .i64 0), (.int .i64 11)])) (get_n1 k (by simpa using hz) (by simp; omega)) [] [none] [] [] [] (by kernel_rfl) (by kernel_rfl) trivial trivial (VE.ren (by kernel_rfl)) (VEL.plain (by kernel_rfl)) (VE.ren (by kernel_rfl)))⟩

theorem get_v (k : Int) : ∃ c : Int, c ≠ 0 ∧ OK cfg (.fn 38 []) [.int .i64 k, .sl 1 (some (0, 0)) 0] [.void] (.tup [.int .i64 0, .int .i64 c]) [.void] := by
  by_cases hz : sz k = 0
  · exact ⟨2, by decide, (OK.at (fv1 := (.fn 38 [])) (args1 := [(.int .i64 k), (.sl 1 (some (0, 0)) 0)]) (v1 := (.tup [(.int .i64 0), (.int .i64 2)])) (get_v0 k hz) [some (0, 0)] [some (0, 0), none] [] [.void] [.void] (by kernel_rfl) (by kernel_rfl) ⟨⟨0, rfl, rfl⟩, trivial⟩ ⟨.inr (.inl ⟨rfl, by kernel_rfl⟩), trivial⟩ (VE.ren (by kernel_rfl)) (VEL.ren (by kernel_rfl)) (VE.ren (by kernel_rfl)))⟩
  · exact ⟨11, by decide, (OK.at (fv1 := (.fn 38 [])) (args1 := [(.int .i64 k), (.sl 1 (some (0, 0)) 0)]) (v1 := (.tup [(.int .i64 0), (.int .i64 11)])) (get_v1 k (by simpa using hz) (by simp; omega)) [some (0, 0)] [some (0, 0), none] [] [.void] [.void] (by kernel_rfl) (by kernel_rfl) ⟨⟨0, rfl, rfl⟩, trivial⟩ ⟨.inr (.inl ⟨rfl, by kernel_rfl⟩), trivial⟩ (VE.ren (by kernel_rfl)) (VEL.ren (by kernel_rfl)) (VE.ren (by kernel_rfl)))⟩

theorem put_nok (k v : Int) (h : fits k v = false) : OK cfg (.fn 37 []) [.int .i64 k, .int .i64 v] [] (.tup [.sl 0 none 0, .int .i64 2]) [] :=
  OK.anyH (put_no k v (by rw [h]; rfl)) (by kernel_rfl) (.inr ⟨_, .inl rfl, by kernel_rfl⟩) []
theorem get_back (k v : Int) (h : fits k v = true) : OK cfg (.fn 38 []) [.int .i64 k, .sl 1 (some (0, 0)) (bytes k v).length] [.cells false ((bytes k v).map (V.int .u8))] (.tup [.int .i64 v, .int .i64 0]) [.cells false ((bytes k v).map (V.int .u8))] := by
  have := get_ok k (bytes k v) (bytes_ok k v)
  rw [back1 k v h] at this
  exact this

theorem live_run : ∃ H', OK cfg (.fn 7 []) [] [] (.bool true) H' := ok_run hmix 100 (by kernel_rfl)
theorem live_ok (H : Heap) : OK cfg (.fn 7 []) [] H (.bool true) H := by
  obtain ⟨H', h⟩ := live_run
  exact OK.any h H rfl rfl

end Go.Proofs.Yteljlgjofmbniaa.words
