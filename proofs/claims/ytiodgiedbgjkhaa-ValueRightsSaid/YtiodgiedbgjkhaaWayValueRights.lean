/-
  What the law of the rights of values comes to: ways printed by ps.py, checked by the kernel.
-/
import Derived.Test.YtiodgiedbgjkhaaVm39
import Derived.Test.YtiodgiedbgjkhaaProg
set_option linter.unusedVariables false
set_option linter.unusedSimpArgs false
set_option maxRecDepth 100000
namespace Go.Proofs.Ytiodgiedbgjkhaa.valueRights
open Go Go.Vm
noncomputable def cfg : Cfg := { P := Try.prog, iso := [], masks := fun _ _ => none }
theorem hmix : cfg.P.follows .mixedOrders = true := by kernel_rfl
noncomputable def lb (f k : Nat) : Code := loopAt Try.prog f k
/-- The reasons that are known. -/
def RL : List Int := [84082688, 84148224, 84148225, 84148226, 84148227, 84148228, 100728832, 100728833, 100728834, 100794368, 100925505, 100925506, 101122064, 101122066, 101122067, 101253137, 101253168, 101253169, 101253170, 134217728, 134217762]
def kn (x : Int) : Bool := RL.any (fun c => c == x)
def rd (a : Int) : Int := if a = 1 ∨ a = 3 ∨ a = 4 then 0 else if a = 2 then 100728833 else 100728832
def wr (a : Int) : Int := if a = 2 ∨ a = 3 then 0 else if a = 4 then 100728834 else if a = 1 then 100728834 else 100728832
theorem live_run : ∃ H', OK cfg (.fn 62 []) [] [] (.bool true) H' := ok_run hmix 40 (by kernel_rfl)
theorem live_ok (H : Heap) : OK cfg (.fn 62 []) [] H (.bool true) H := by
  obtain ⟨H', h⟩ := live_run
  exact OK.anyH h (by kernel_rfl) (.inl rfl) H

theorem known_o (k : Int) (h0 : ((k : Int) == 84082688) = false) (h1 : ((k : Int) == 84148224) = false) (h2 : ((k : Int) == 84148225) = false) (h3 : ((k : Int) == 84148226) = false) (h4 : ((k : Int) == 84148227) = false) (h5 : ((k : Int) == 84148228) = false) (h6 : ((k : Int) == 100728832) = false) (h7 : ((k : Int) == 100728833) = false) (h8 : ((k : Int) == 100728834) = false) (h9 : ((k : Int) == 100794368) = false) (h10 : ((k : Int) == 100925505) = false) (h11 : ((k : Int) == 100925506) = false) (h12 : ((k : Int) == 101122064) = false) (h13 : ((k : Int) == 101122066) = false) (h14 : ((k : Int) == 101122067) = false) (h15 : ((k : Int) == 101253137) = false) (h16 : ((k : Int) == 101253168) = false) (h17 : ((k : Int) == 101253169) = false) (h18 : ((k : Int) == 101253170) = false) (h19 : ((k : Int) == 134217728) = false) : OK cfg (.fn 61 []) [(.int .i64 k)] [] (.bool ((k : Int) == 134217762)) [] :=
  ok_fn hmix (n := 40) (os := [.c, .c, .c, .c, .f, .c, .c, .f, .c, .c, .f, .c, .c, .f, .c, .c, .f, .c, .c, .f, .c, .c, .f, .c, .c, .f, .c, .c, .f, .c, .c, .f, .c, .c, .f, .c, .c, .f, .c, .c, .f, .c, .c, .f, .c, .c, .f, .c, .c, .f, .c, .c, .f, .c, .c, .f, .c, .c, .f, .c, .c, .c, .t, .c, .c, .c, .c, .c]) (Eq.mp (by kernel_rfl) (And.intro (Eq.refl true) (And.intro (Eq.refl true) (And.intro (Eq.refl true) (And.intro h0 (And.intro (Eq.refl true) (And.intro h1 (And.intro (Eq.refl true) (And.intro h2 (And.intro (Eq.refl true) (And.intro h3 (And.intro (Eq.refl true) (And.intro h4 (And.intro (Eq.refl true) (And.intro h5 (And.intro (Eq.refl true) (And.intro h6 (And.intro (Eq.refl true) (And.intro h7 (And.intro (Eq.refl true) (And.intro h8 (And.intro (Eq.refl true) (And.intro h9 (And.intro (Eq.refl true) (And.intro h10 (And.intro (Eq.refl true) (And.intro h11 (And.intro (Eq.refl true) (And.intro h12 (And.intro (Eq.refl true) (And.intro h13 (And.intro (Eq.refl true) (And.intro h14 (And.intro (Eq.refl true) (And.intro h15 (And.intro (Eq.refl true) (And.intro h16 (And.intro (Eq.refl true) (And.intro h17 (And.intro (Eq.refl true) (And.intro h18 (And.intro h19 (And.intro (Eq.refl true) (Eq.refl (((.bool ((k : Int) == 134217762)) : V), ([] : Heap))))))))))))))))))))))))))))))))))))))))))))))

theorem known_ok (k : Int) (H : Heap) : OK cfg (.fn 61 []) [.int .i64 k] H (.bool (kn k)) H := by
  by_cases h0 : k = 84082688
  · subst h0; obtain ⟨H', h⟩ : ∃ H', OK cfg (.fn 61 []) [.int .i64 84082688] [] (.bool (kn 84082688)) H' := ok_run hmix 40 (by kernel_rfl)
    exact OK.anyH h rfl (.inl rfl) H
  by_cases h1 : k = 84148224
  · subst h1; obtain ⟨H', h⟩ : ∃ H', OK cfg (.fn 61 []) [.int .i64 84148224] [] (.bool (kn 84148224)) H' := ok_run hmix 40 (by kernel_rfl)
    exact OK.anyH h rfl (.inl rfl) H
  by_cases h2 : k = 84148225
  · subst h2; obtain ⟨H', h⟩ : ∃ H', OK cfg (.fn 61 []) [.int .i64 84148225] [] (.bool (kn 84148225)) H' := ok_run hmix 40 (by kernel_rfl)
    exact OK.anyH h rfl (.inl rfl) H
  by_cases h3 : k = 84148226
  · subst h3; obtain ⟨H', h⟩ : ∃ H', OK cfg (.fn 61 []) [.int .i64 84148226] [] (.bool (kn 84148226)) H' := ok_run hmix 40 (by kernel_rfl)
    exact OK.anyH h rfl (.inl rfl) H
  by_cases h4 : k = 84148227
  · subst h4; obtain ⟨H', h⟩ : ∃ H', OK cfg (.fn 61 []) [.int .i64 84148227] [] (.bool (kn 84148227)) H' := ok_run hmix 40 (by kernel_rfl)
    exact OK.anyH h rfl (.inl rfl) H
  by_cases h5 : k = 84148228
  · subst h5; obtain ⟨H', h⟩ : ∃ H', OK cfg (.fn 61 []) [.int .i64 84148228] [] (.bool (kn 84148228)) H' := ok_run hmix 40 (by kernel_rfl)
    exact OK.anyH h rfl (.inl rfl) H
  by_cases h6 : k = 100728832
  · subst h6; obtain ⟨H', h⟩ : ∃ H', OK cfg (.fn 61 []) [.int .i64 100728832] [] (.bool (kn 100728832)) H' := ok_run hmix 40 (by kernel_rfl)
    exact OK.anyH h rfl (.inl rfl) H
  by_cases h7 : k = 100728833
  · subst h7; obtain ⟨H', h⟩ : ∃ H', OK cfg (.fn 61 []) [.int .i64 100728833] [] (.bool (kn 100728833)) H' := ok_run hmix 40 (by kernel_rfl)
    exact OK.anyH h rfl (.inl rfl) H
  by_cases h8 : k = 100728834
  · subst h8; obtain ⟨H', h⟩ : ∃ H', OK cfg (.fn 61 []) [.int .i64 100728834] [] (.bool (kn 100728834)) H' := ok_run hmix 40 (by kernel_rfl)
    exact OK.anyH h rfl (.inl rfl) H
  by_cases h9 : k = 100794368
  · subst h9; obtain ⟨H', h⟩ : ∃ H', OK cfg (.fn 61 []) [.int .i64 100794368] [] (.bool (kn 100794368)) H' := ok_run hmix 40 (by kernel_rfl)
    exact OK.anyH h rfl (.inl rfl) H
  by_cases h10 : k = 100925505
  · subst h10; obtain ⟨H', h⟩ : ∃ H', OK cfg (.fn 61 []) [.int .i64 100925505] [] (.bool (kn 100925505)) H' := ok_run hmix 40 (by kernel_rfl)
    exact OK.anyH h rfl (.inl rfl) H
  by_cases h11 : k = 100925506
  · subst h11; obtain ⟨H', h⟩ : ∃ H', OK cfg (.fn 61 []) [.int .i64 100925506] [] (.bool (kn 100925506)) H' := ok_run hmix 40 (by kernel_rfl)
    exact OK.anyH h rfl (.inl rfl) H
  by_cases h12 : k = 101122064
  · subst h12; obtain ⟨H', h⟩ : ∃ H', OK cfg (.fn 61 []) [.int .i64 101122064] [] (.bool (kn 101122064)) H' := ok_run hmix 40 (by kernel_rfl)
    exact OK.anyH h rfl (.inl rfl) H
  by_cases h13 : k = 101122066
  · subst h13; obtain ⟨H', h⟩ : ∃ H', OK cfg (.fn 61 []) [.int .i64 101122066] [] (.bool (kn 101122066)) H' := ok_run hmix 40 (by kernel_rfl)
    exact OK.anyH h rfl (.inl rfl) H
  by_cases h14 : k = 101122067
  · subst h14; obtain ⟨H', h⟩ : ∃ H', OK cfg (.fn 61 []) [.int .i64 101122067] [] (.bool (kn 101122067)) H' := ok_run hmix 40 (by kernel_rfl)
    exact OK.anyH h rfl (.inl rfl) H
  by_cases h15 : k = 101253137
  · subst h15; obtain ⟨H', h⟩ : ∃ H', OK cfg (.fn 61 []) [.int .i64 101253137] [] (.bool (kn 101253137)) H' := ok_run hmix 40 (by kernel_rfl)
    exact OK.anyH h rfl (.inl rfl) H
  by_cases h16 : k = 101253168
  · subst h16; obtain ⟨H', h⟩ : ∃ H', OK cfg (.fn 61 []) [.int .i64 101253168] [] (.bool (kn 101253168)) H' := ok_run hmix 40 (by kernel_rfl)
    exact OK.anyH h rfl (.inl rfl) H
  by_cases h17 : k = 101253169
  · subst h17; obtain ⟨H', h⟩ : ∃ H', OK cfg (.fn 61 []) [.int .i64 101253169] [] (.bool (kn 101253169)) H' := ok_run hmix 40 (by kernel_rfl)
    exact OK.anyH h rfl (.inl rfl) H
  by_cases h18 : k = 101253170
  · subst h18; obtain ⟨H', h⟩ : ∃ H', OK cfg (.fn 61 []) [.int .i64 101253170] [] (.bool (kn 101253170)) H' := ok_run hmix 40 (by kernel_rfl)
    exact OK.anyH h rfl (.inl rfl) H
  by_cases h19 : k = 134217728
  · subst h19; obtain ⟨H', h⟩ : ∃ H', OK cfg (.fn 61 []) [.int .i64 134217728] [] (.bool (kn 134217728)) H' := ok_run hmix 40 (by kernel_rfl)
    exact OK.anyH h rfl (.inl rfl) H
  by_cases h20 : k = 134217762
  · subst h20; obtain ⟨H', h⟩ : ∃ H', OK cfg (.fn 61 []) [.int .i64 134217762] [] (.bool (kn 134217762)) H' := ok_run hmix 40 (by kernel_rfl)
    exact OK.anyH h rfl (.inl rfl) H
  have hk : kn k = false := by
    rw [kn, List.any_eq_false]
    intro c hc hck
    have := eq_of_beq hck
    subst this
    simp only [RL, List.mem_cons, List.not_mem_nil, or_false] at hc
    omega
  have hl : (k == 134217762) = false := by simp [h20]
  exact OK.anyH (OK.eqv (known_o k (by simp [*]) (by simp [*]) (by simp [*]) (by simp [*]) (by simp [*]) (by simp [*]) (by simp [*]) (by simp [*]) (by simp [*]) (by simp [*]) (by simp [*]) (by simp [*]) (by simp [*]) (by simp [*]) (by simp [*]) (by simp [*]) (by simp [*]) (by simp [*]) (by simp [*]) (by simp [*])) (congrArg V.bool (hl.trans hk.symm))) rfl (.inl rfl) H

theorem rd1_l (k : Int) (h0 : ((k : Int) == 1) = false) (h1 : ((k : Int) == 3) = false) (h2 : ((k : Int) == 4) = false) (h3 : ((k : Int) == 2) = false) : OK cfg (.fn 63 []) [(.int .i64 k)] [] (.int .i64 100728832) [] :=
  ok_fn hmix (n := 40) (os := [.c, .c, .c, .c, .f, .c, .c, .f, .c, .c, .f, .c, .c, .f, .c]) (Eq.mp (by kernel_rfl) (And.intro (Eq.refl true) (And.intro (Eq.refl true) (And.intro (Eq.refl true) (And.intro h0 (And.intro (Eq.refl true) (And.intro h1 (And.intro (Eq.refl true) (And.intro h2 (And.intro (Eq.refl true) (And.intro h3 (And.intro (Eq.refl true) (Eq.refl (((.int .i64 100728832) : V), ([] : Heap)))))))))))))))

theorem rd1_h (k : Int) (h0 : ((k : Int) == 1) = false) (h1 : ((k : Int) == 3) = false) (h2 : ((k : Int) == 4) = false) (h3 : ((k : Int) == 2) = false) : OK cfg (.fn 63 []) [(.int .i64 k)] [] (.int .i64 100728832) [] :=
  ok_fn hmix (n := 40) (os := [.c, .c, .c, .c, .f, .c, .c, .f, .c, .c, .f, .c, .c, .f, .c]) (Eq.mp (by kernel_rfl) (And.intro (Eq.refl true) (And.intro (Eq.refl true) (And.intro (Eq.refl true) (And.intro h0 (And.intro (Eq.refl true) (And.intro h1 (And.intro (Eq.refl true) (And.intro h2 (And.intro (Eq.refl true) (And.intro h3 (And.intro (Eq.refl true) (Eq.refl (((.int .i64 100728832) : V), ([] : Heap)))))))))))))))

theorem rd1_ok (k : Int) (H : Heap) : OK cfg (.fn 63 []) [.int .i64 k] H (.int .i64 (rd k)) H := by
  by_cases h0 : k = 0
  · subst h0; obtain ⟨H', h⟩ : ∃ H', OK cfg (.fn 63 []) [.int .i64 0] [] (.int .i64 (rd 0)) H' := ok_run hmix 40 (by kernel_rfl)
    exact OK.anyH h rfl (.inl rfl) H
  by_cases h1 : k = 1
  · subst h1; obtain ⟨H', h⟩ : ∃ H', OK cfg (.fn 63 []) [.int .i64 1] [] (.int .i64 (rd 1)) H' := ok_run hmix 40 (by kernel_rfl)
    exact OK.anyH h rfl (.inl rfl) H
  by_cases h2 : k = 2
  · subst h2; obtain ⟨H', h⟩ : ∃ H', OK cfg (.fn 63 []) [.int .i64 2] [] (.int .i64 (rd 2)) H' := ok_run hmix 40 (by kernel_rfl)
    exact OK.anyH h rfl (.inl rfl) H
  by_cases h3 : k = 3
  · subst h3; obtain ⟨H', h⟩ : ∃ H', OK cfg (.fn 63 []) [.int .i64 3] [] (.int .i64 (rd 3)) H' := ok_run hmix 40 (by kernel_rfl)
    exact OK.anyH h rfl (.inl rfl) H
  by_cases h4 : k = 4
  · subst h4; obtain ⟨H', h⟩ : ∃ H', OK cfg (.fn 63 []) [.int .i64 4] [] (.int .i64 (rd 4)) H' := ok_run hmix 40 (by kernel_rfl)
    exact OK.anyH h rfl (.inl rfl) H
  by_cases hl : k < 0
  · exact OK.anyH (OK.eqv (rd1_l k (by simp; omega) (by simp; omega) (by simp; omega) (by simp; omega)) (by simp [rd, *])) rfl (.inl rfl) H
  · exact OK.anyH (OK.eqv (rd1_h k (by simp; omega) (by simp; omega) (by simp; omega) (by simp; omega)) (by simp [rd, *])) rfl (.inl rfl) H

theorem rd2_l (k : Int) (h0 : (decide ((k : Int) < 0)) = true) : OK cfg (.fn 64 []) [(.int .i64 k)] [] (.int .i64 100728832) [.cells true [(.int .i64 100728832), (.int .i64 0), (.int .i64 100728833), (.int .i64 0), (.int .i64 0)]] :=
  ok_fn hmix (n := 40) (os := [.c, .c, .c, .c, .c, .c, .f, .c, .c, .c, .c]) (Eq.mp (by kernel_rfl) (And.intro (Eq.refl true) (And.intro (Eq.refl true) (And.intro h0 (And.intro (Eq.refl true) (And.intro (Eq.refl true) (Eq.refl (((.int .i64 100728832) : V), ([.cells true [(.int .i64 100728832), (.int .i64 0), (.int .i64 100728833), (.int .i64 0), (.int .i64 0)]] : Heap)))))))))

theorem rd2_h (k : Int) (h0 : (decide ((k : Int) < 0)) = false) (h1 : (decide ((k : Int) > 4)) = true) : OK cfg (.fn 64 []) [(.int .i64 k)] [] (.int .i64 100728832) [.cells true [(.int .i64 100728832), (.int .i64 0), (.int .i64 100728833), (.int .i64 0), (.int .i64 0)]] :=
  ok_fn hmix (n := 40) (os := [.c, .c, .c, .c, .c, .c, .t, .c, .c, .c, .c, .t, .c]) (Eq.mp (by kernel_rfl) (And.intro (Eq.refl true) (And.intro (Eq.refl true) (And.intro h0 (And.intro (Eq.refl true) (And.intro h1 (And.intro (Eq.refl true) (Eq.refl (((.int .i64 100728832) : V), ([.cells true [(.int .i64 100728832), (.int .i64 0), (.int .i64 100728833), (.int .i64 0), (.int .i64 0)]] : Heap))))))))))

theorem rd2_ok (k : Int) (H : Heap) : OK cfg (.fn 64 []) [.int .i64 k] H (.int .i64 (rd k)) H := by
  by_cases h0 : k = 0
  · subst h0; obtain ⟨H', h⟩ : ∃ H', OK cfg (.fn 64 []) [.int .i64 0] [] (.int .i64 (rd 0)) H' := ok_run hmix 40 (by kernel_rfl)
    exact OK.anyH h rfl (.inl rfl) H
  by_cases h1 : k = 1
  · subst h1; obtain ⟨H', h⟩ : ∃ H', OK cfg (.fn 64 []) [.int .i64 1] [] (.int .i64 (rd 1)) H' := ok_run hmix 40 (by kernel_rfl)
    exact OK.anyH h rfl (.inl rfl) H
  by_cases h2 : k = 2
  · subst h2; obtain ⟨H', h⟩ : ∃ H', OK cfg (.fn 64 []) [.int .i64 2] [] (.int .i64 (rd 2)) H' := ok_run hmix 40 (by kernel_rfl)
    exact OK.anyH h rfl (.inl rfl) H
  by_cases h3 : k = 3
  · subst h3; obtain ⟨H', h⟩ : ∃ H', OK cfg (.fn 64 []) [.int .i64 3] [] (.int .i64 (rd 3)) H' := ok_run hmix 40 (by kernel_rfl)
    exact OK.anyH h rfl (.inl rfl) H
  by_cases h4 : k = 4
  · subst h4; obtain ⟨H', h⟩ : ∃ H', OK cfg (.fn 64 []) [.int .i64 4] [] (.int .i64 (rd 4)) H' := ok_run hmix 40 (by kernel_rfl)
    exact OK.anyH h rfl (.inl rfl) H
  by_cases hl : k < 0
  · exact OK.anyH (OK.eqv (rd2_l k (by simp; omega)) (by simp [rd, *])) rfl (.inl rfl) H
  · exact OK.anyH (OK.eqv (rd2_h k (by simp; omega) (by simp; omega)) (by simp [rd, *])) rfl (.inl rfl) H

theorem wr1_l (k : Int) (h0 : ((k : Int) == 2) = false) (h1 : ((k : Int) == 3) = false) (h2 : ((k : Int) == 4) = false) (h3 : ((k : Int) == 1) = false) : OK cfg (.fn 65 []) [(.int .i64 k)] [] (.int .i64 100728832) [] :=
  ok_fn hmix (n := 40) (os := [.c, .c, .c, .c, .f, .c, .c, .f, .c, .c, .f, .c, .c, .f, .c]) (Eq.mp (by kernel_rfl) (And.intro (Eq.refl true) (And.intro (Eq.refl true) (And.intro (Eq.refl true) (And.intro h0 (And.intro (Eq.refl true) (And.intro h1 (And.intro (Eq.refl true) (And.intro h2 (And.intro (Eq.refl true) (And.intro h3 (And.intro (Eq.refl true) (Eq.refl (((.int .i64 100728832) : V), ([] : Heap)))))))))))))))

theorem wr1_h (k : Int) (h0 : ((k : Int) == 2) = false) (h1 : ((k : Int) == 3) = false) (h2 : ((k : Int) == 4) = false) (h3 : ((k : Int) == 1) = false) : OK cfg (.fn 65 []) [(.int .i64 k)] [] (.int .i64 100728832) [] :=
  ok_fn hmix (n := 40) (os := [.c, .c, .c, .c, .f, .c, .c, .f, .c, .c, .f, .c, .c, .f, .c]) (Eq.mp (by kernel_rfl) (And.intro (Eq.refl true) (And.intro (Eq.refl true) (And.intro (Eq.refl true) (And.intro h0 (And.intro (Eq.refl true) (And.intro h1 (And.intro (Eq.refl true) (And.intro h2 (And.intro (Eq.refl true) (And.intro h3 (And.intro (Eq.refl true) (Eq.refl (((.int .i64 100728832) : V), ([] : Heap)))))))))))))))

theorem wr1_ok (k : Int) (H : Heap) : OK cfg (.fn 65 []) [.int .i64 k] H (.int .i64 (wr k)) H := by
  by_cases h0 : k = 0
  · subst h0; obtain ⟨H', h⟩ : ∃ H', OK cfg (.fn 65 []) [.int .i64 0] [] (.int .i64 (wr 0)) H' := ok_run hmix 40 (by kernel_rfl)
    exact OK.anyH h rfl (.inl rfl) H
  by_cases h1 : k = 1
  · subst h1; obtain ⟨H', h⟩ : ∃ H', OK cfg (.fn 65 []) [.int .i64 1] [] (.int .i64 (wr 1)) H' := ok_run hmix 40 (by kernel_rfl)
    exact OK.anyH h rfl (.inl rfl) H
  by_cases h2 : k = 2
  · subst h2; obtain ⟨H', h⟩ : ∃ H', OK cfg (.fn 65 []) [.int .i64 2] [] (.int .i64 (wr 2)) H' := ok_run hmix 40 (by kernel_rfl)
    exact OK.anyH h rfl (.inl rfl) H
  by_cases h3 : k = 3
  · subst h3; obtain ⟨H', h⟩ : ∃ H', OK cfg (.fn 65 []) [.int .i64 3] [] (.int .i64 (wr 3)) H' := ok_run hmix 40 (by kernel_rfl)
    exact OK.anyH h rfl (.inl rfl) H
  by_cases h4 : k = 4
  · subst h4; obtain ⟨H', h⟩ : ∃ H', OK cfg (.fn 65 []) [.int .i64 4] [] (.int .i64 (wr 4)) H' := ok_run hmix 40 (by kernel_rfl)
    exact OK.anyH h rfl (.inl rfl) H
  by_cases hl : k < 0
  · exact OK.anyH (OK.eqv (wr1_l k (by simp; omega) (by simp; omega) (by simp; omega) (by simp; omega)) (by simp [wr, *])) rfl (.inl rfl) H
  · exact OK.anyH (OK.eqv (wr1_h k (by simp; omega) (by simp; omega) (by simp; omega) (by simp; omega)) (by simp [wr, *])) rfl (.inl rfl) H

theorem wr2_l (k : Int) (h0 : (decide ((k : Int) < 0)) = true) : OK cfg (.fn 66 []) [(.int .i64 k)] [] (.int .i64 100728832) [.cells true [(.int .i64 100728832), (.int .i64 100728834), (.int .i64 0), (.int .i64 0), (.int .i64 100728834)]] :=
  ok_fn hmix (n := 40) (os := [.c, .c, .c, .c, .c, .c, .f, .c, .c, .c, .c]) (Eq.mp (by kernel_rfl) (And.intro (Eq.refl true) (And.intro (Eq.refl true) (And.intro h0 (And.intro (Eq.refl true) (And.intro (Eq.refl true) (Eq.refl (((.int .i64 100728832) : V), ([.cells true [(.int .i64 100728832), (.int .i64 100728834), (.int .i64 0), (.int .i64 0), (.int .i64 100728834)]] : Heap)))))))))

theorem wr2_h (k : Int) (h0 : (decide ((k : Int) < 0)) = false) (h1 : (decide ((k : Int) > 4)) = true) : OK cfg (.fn 66 []) [(.int .i64 k)] [] (.int .i64 100728832) [.cells true [(.int .i64 100728832), (.int .i64 100728834), (.int .i64 0), (.int .i64 0), (.int .i64 100728834)]] :=
  ok_fn hmix (n := 40) (os := [.c, .c, .c, .c, .c, .c, .t, .c, .c, .c, .c, .t, .c]) (Eq.mp (by kernel_rfl) (And.intro (Eq.refl true) (And.intro (Eq.refl true) (And.intro h0 (And.intro (Eq.refl true) (And.intro h1 (And.intro (Eq.refl true) (Eq.refl (((.int .i64 100728832) : V), ([.cells true [(.int .i64 100728832), (.int .i64 100728834), (.int .i64 0), (.int .i64 0), (.int .i64 100728834)]] : Heap))))))))))

theorem wr2_ok (k : Int) (H : Heap) : OK cfg (.fn 66 []) [.int .i64 k] H (.int .i64 (wr k)) H := by
  by_cases h0 : k = 0
  · subst h0; obtain ⟨H', h⟩ : ∃ H', OK cfg (.fn 66 []) [.int .i64 0] [] (.int .i64 (wr 0)) H' := ok_run hmix 40 (by kernel_rfl)
    exact OK.anyH h rfl (.inl rfl) H
  by_cases h1 : k = 1
  · subst h1; obtain ⟨H', h⟩ : ∃ H', OK cfg (.fn 66 []) [.int .i64 1] [] (.int .i64 (wr 1)) H' := ok_run hmix 40 (by kernel_rfl)
    exact OK.anyH h rfl (.inl rfl) H
  by_cases h2 : k = 2
  · subst h2; obtain ⟨H', h⟩ : ∃ H', OK cfg (.fn 66 []) [.int .i64 2] [] (.int .i64 (wr 2)) H' := ok_run hmix 40 (by kernel_rfl)
    exact OK.anyH h rfl (.inl rfl) H
  by_cases h3 : k = 3
  · subst h3; obtain ⟨H', h⟩ : ∃ H', OK cfg (.fn 66 []) [.int .i64 3] [] (.int .i64 (wr 3)) H' := ok_run hmix 40 (by kernel_rfl)
    exact OK.anyH h rfl (.inl rfl) H
  by_cases h4 : k = 4
  · subst h4; obtain ⟨H', h⟩ : ∃ H', OK cfg (.fn 66 []) [.int .i64 4] [] (.int .i64 (wr 4)) H' := ok_run hmix 40 (by kernel_rfl)
    exact OK.anyH h rfl (.inl rfl) H
  by_cases hl : k < 0
  · exact OK.anyH (OK.eqv (wr2_l k (by simp; omega)) (by simp [wr, *])) rfl (.inl rfl) H
  · exact OK.anyH (OK.eqv (wr2_h k (by simp; omega) (by simp; omega)) (by simp [wr, *])) rfl (.inl rfl) H

theorem v_t (a r : Int) (i : Nat) (b c : Bool) (h0 : (decide ((((i : Nat) : Int) : Int) < 21)) = true) (h1 : b = true) (h2 : 0 ≤ (((i : Nat) : Int) : Int) ∧ (((i : Nat) : Int) : Int) < 21) (h3 : (0 + (i * 1)) < (RL).length) (h4 : (!(kn ((RL).getD (0 + (i * 1)) 0))) = false) (h5 : ((IntKind.wrap .i64 (((i : Nat) : Int) + 1)) : Int) = (((i + 1) : Nat) : Int)) (h6 : (true : Bool) = b) (ih : LOK cfg none (lb 11 0) [(.int .i64 a), (.int .i64 r), u_, u_, u_, (.bool b), (.sl 1 (some (0, 0)) 21), (.int .i64 (((i + 1) : Nat) : Int)), u_, u_, u_, u_, u_, u_, u_, u_, u_, u_, u_, u_, u_, u_, u_, u_, u_, u_, u_, u_, u_, u_, u_, u_, u_, u_, u_, u_, u_, u_, u_, u_, u_, u_, u_, u_, u_, u_, u_, u_, u_, u_, u_] [.cells true ((RL).map (V.int .i64))] (.exit 0) [(.int .i64 a), (.int .i64 r), u_, u_, u_, (.bool c), u_, u_, u_, u_, u_, u_, u_, u_, u_, u_, u_, u_, u_, u_, u_, u_, u_, u_, u_, u_, u_, u_, u_, u_, u_, u_, u_, u_, u_, u_, u_, u_, u_, u_, u_, u_, u_, u_, u_, u_, u_, u_, u_, u_, u_] [.cells true ((RL).map (V.int .i64))]) : LOK cfg none (lb 11 0) [(.int .i64 a), (.int .i64 r), u_, u_, u_, (.bool b), (.sl 1 (some (0, 0)) 21), (.int .i64 ((i : Nat) : Int)), u_, u_, u_, u_, u_, u_, u_, u_, u_, u_, u_, u_, u_, u_, u_, u_, u_, u_, u_, u_, u_, u_, u_, u_, u_, u_, u_, u_, u_, u_, u_, u_, u_, u_, u_, u_, u_, u_, u_, u_, u_, u_, u_] [.cells true ((RL).map (V.int .i64))] (.exit 0) [(.int .i64 a), (.int .i64 r), u_, u_, u_, (.bool c), u_, u_, u_, u_, u_, u_, u_, u_, u_, u_, u_, u_, u_, u_, u_, u_, u_, u_, u_, u_, u_, u_, u_, u_, u_, u_, u_, u_, u_, u_, u_, u_, u_, u_, u_, u_, u_, u_, u_, u_, u_, u_, u_, u_, u_] [.cells true ((RL).map (V.int .i64))] :=
  (LOK.re (st1' := [(.int .i64 a), (.int .i64 r), u_, u_, u_, (.bool c), u_, u_, u_, u_, u_, u_, u_, u_, u_, u_, u_, u_, u_, u_, u_, u_, u_, u_, u_, u_, u_, u_, u_, u_, u_, u_, u_, u_, u_, u_, u_, u_, u_, u_, u_, u_, u_, u_, u_, u_, u_, u_, u_, u_, u_]) (LOK.step (cok_of hmix (n := 40) (rd := none) (code := (lb 11 0)) (st := [(.int .i64 a), (.int .i64 r), u_, u_, u_, (.bool b), (.sl 1 (some (0, 0)) 21), (.int .i64 ((i : Nat) : Int)), u_, u_, u_, u_, u_, u_, u_, u_, u_, u_, u_, u_, u_, u_, u_, u_, u_, u_, u_, u_, u_, u_, u_, u_, u_, u_, u_, u_, u_, u_, u_, u_, u_, u_, u_, u_, u_, u_, u_, u_, u_, u_, u_]) (H := [.cells true ((RL).map (V.int .i64))]) (os := [.c, .c, .c, .c, .t, .c, .c, .f, .c, .c, .c, .c, .c, .c, .c, .c, .c, .a, .v (.int .i64 ((RL).getD (0 + (i * 1)) 0)), .r (.bool (kn ((RL).getD (0 + (i * 1)) 0))) [.cells true ((RL).map (V.int .i64)), .dead], .c, .f, .c, .c, .c]) (e := .normal) (st' := [(.int .i64 a), (.int .i64 r), u_, u_, u_, (.bool true), (.sl 1 (some (0, 0)) 21), (.int .i64 (IntKind.wrap .i64 (((i : Nat) : Int) + 1))), u_, (.int .i64 ((i : Nat) : Int)), (.sl 1 (some (0, 0)) 21), (.int .i64 21), (.bool (decide ((((i : Nat) : Int) : Int) < 21))), (.int .i64 ((i : Nat) : Int)), (.int .i64 (IntKind.wrap .i64 (((i : Nat) : Int) + 1))), (.bool b), (.bool true), (.tup []), (.tup []), (.tup []), (.tup []), (.tup []), (.tup []), (.bool true), (.sl 1 (some (0, 0)) 21), (.int .i64 ((i : Nat) : Int)), (.ptr (some (0, (0 + (i * 1))))), (.int .i64 ((RL).getD (0 + (i * 1)) 0)), (.bool (kn ((RL).getD (0 + (i * 1)) 0))), (.bool (!(kn ((RL).getD (0 + (i * 1)) 0)))), u_, u_, u_, u_, u_, u_, u_, u_, u_, u_, u_, u_, u_, u_, u_, u_, u_, u_, u_, u_, u_]) (H' := [.cells true ((RL).map (V.int .i64)), .dead]) (Eq.mp (by kernel_rfl) (And.intro (Eq.refl true) (And.intro h0 (And.intro h1 (And.intro (Eq.refl true) (And.intro h2 (And.intro (ld_int (k := .i64) h3) (And.intro (OK.pad (known_ok ((RL).getD (0 + (i * 1)) 0) [.cells true ((RL).map (V.int .i64))])) (And.intro (Eq.refl true) (And.intro h4 (And.intro (Eq.refl true) (Eq.refl (Ex.normal, ([(.int .i64 a), (.int .i64 r), u_, u_, u_, (.bool true), (.sl 1 (some (0, 0)) 21), (.int .i64 (IntKind.wrap .i64 (((i : Nat) : Int) + 1))), u_, (.int .i64 ((i : Nat) : Int)), (.sl 1 (some (0, 0)) 21), (.int .i64 21), (.bool (decide ((((i : Nat) : Int) : Int) < 21))), (.int .i64 ((i : Nat) : Int)), (.int .i64 (IntKind.wrap .i64 (((i : Nat) : Int) + 1))), (.bool b), (.bool true), (.tup []), (.tup []), (.tup []), (.tup []), (.tup []), (.tup []), (.bool true), (.sl 1 (some (0, 0)) 21), (.int .i64 ((i : Nat) : Int)), (.ptr (some (0, (0 + (i * 1))))), (.int .i64 ((RL).getD (0 + (i * 1)) 0)), (.bool (kn ((RL).getD (0 + (i * 1)) 0))), (.bool (!(kn ((RL).getD (0 + (i * 1)) 0)))), u_, u_, u_, u_, u_, u_, u_, u_, u_, u_, u_, u_, u_, u_, u_, u_, u_, u_, u_, u_, u_] : St), ([.cells true ((RL).map (V.int .i64)), .dead] : Heap))))))))))))))) (LOK.at (rd := none) (rd1 := none) (st1 := [(.int .i64 a), (.int .i64 r), u_, u_, u_, (.bool true), (.sl 1 (some (0, 0)) 21), (.int .i64 (IntKind.wrap .i64 (((i : Nat) : Int) + 1))), u_, (.int .i64 ((i : Nat) : Int)), (.sl 1 (some (0, 0)) 21), (.int .i64 21), (.bool (decide ((((i : Nat) : Int) : Int) < 21))), (.int .i64 ((i : Nat) : Int)), (.int .i64 (IntKind.wrap .i64 (((i : Nat) : Int) + 1))), (.bool b), (.bool true), (.tup []), (.tup []), (.tup []), (.tup []), (.tup []), (.tup []), (.bool true), (.sl 1 (some (0, 0)) 21), (.int .i64 ((i : Nat) : Int)), (.ptr (some (0, (0 + (i * 1))))), (.int .i64 ((RL).getD (0 + (i * 1)) 0)), (.bool (kn ((RL).getD (0 + (i * 1)) 0))), (.bool (!(kn ((RL).getD (0 + (i * 1)) 0)))), u_, u_, u_, u_, u_, u_, u_, u_, u_, u_, u_, u_, u_, u_, u_, u_, u_, u_, u_, u_, u_]) (st1' := [(.int .i64 a), (.int .i64 r), u_, u_, u_, (.bool c), u_, u_, u_, u_, u_, u_, u_, u_, u_, u_, u_, u_, u_, u_, u_, u_, u_, u_, u_, u_, u_, u_, u_, u_, u_, u_, u_, u_, u_, u_, u_, u_, u_, u_, u_, u_, u_, u_, u_, u_, u_, u_, u_, u_, u_]) ih [some (0, 0)] [some (0, 0)] [] [.cells true ((RL).map (V.int .i64)), .dead] [.cells true ((RL).map (V.int .i64)), .dead] True.intro (by kernel_rfl) (by kernel_rfl) ⟨⟨0, ((RL).map (V.int .i64)), rfl, rfl, (VEL.plain (plains_map _ (fun _ => rfl) _))⟩, trivial⟩ ⟨.inr (.inr ⟨0, .cells true ((RL).map (V.int .i64)), rfl, rfl, (VEL.plain (plains_map _ (fun _ => rfl) _))⟩), ⟨.inl rfl, trivial⟩⟩ (.c (VE.ren (by kernel_rfl)) (.c (VE.ren (by kernel_rfl)) (.c (VE.ren (by kernel_rfl)) (.c (VE.ren (by kernel_rfl)) (.c (VE.ren (by kernel_rfl)) (.c (VE.eqB h6) (.c (VE.ren (by kernel_rfl)) (.c (VE.eqI h5) (.c (VE.ren (by kernel_rfl)) (.c .q (.c .q (.c .q (.c .q (.c .q (.c .q (.c .q (.c .q (.c .q (.c .q (.c .q (.c .q (.c .q (.c .q (.c .q (.c .q (.c .q (.c .q (.c .q (.c .q (.c .q (.c (VE.ren (by kernel_rfl)) (.c (VE.ren (by kernel_rfl)) (.c (VE.ren (by kernel_rfl)) (.c (VE.ren (by kernel_rfl)) (.c (VE.ren (by kernel_rfl)) (.c (VE.ren (by kernel_rfl)) (.c (VE.ren (by kernel_rfl)) (.c (VE.ren (by kernel_rfl)) (.c (VE.ren (by kernel_rfl)) (.c (VE.ren (by kernel_rfl)) (.c (VE.ren (by kernel_rfl)) (.c (VE.ren (by kernel_rfl)) (.c (VE.ren (by kernel_rfl)) (.c (VE.ren (by kernel_rfl)) (.c (VE.ren (by kernel_rfl)) (.c (VE.ren (by kernel_rfl)) (.c (VE.ren (by kernel_rfl)) (.c (VE.ren (by kernel_rfl)) (.c (VE.ren (by kernel_rfl)) (.c (VE.ren (by kernel_rfl)) (.c (VE.ren (by kernel_rfl)) .nil))))))))))))))))))))))))))))))))))))))))))))))))))) (VEL.ren (by kernel_rfl)))) [some (0, 0)] [some (0, 0), none] [] [.cells true ((RL).map (V.int .i64))] True.intro (by kernel_rfl) (by kernel_rfl) ⟨⟨0, ((RL).map (V.int .i64)), rfl, rfl, (VEL.plain (plains_map _ (fun _ => rfl) _))⟩, trivial⟩ ⟨.inr (.inr ⟨0, .cells true ((RL).map (V.int .i64)), rfl, rfl, (VEL.plain (plains_map _ (fun _ => rfl) _))⟩), trivial⟩ (VEL.ren (by kernel_rfl)) (VEL.ren (by kernel_rfl)))

theorem v_f (a r : Int) (i : Nat) (b c : Bool) (h0 : (decide ((((i : Nat) : Int) : Int) < 21)) = true) (h1 : b = false) (h2 : 0 ≤ (((i : Nat) : Int) : Int) ∧ (((i : Nat) : Int) : Int) < 21) (h3 : (0 + (i * 1)) < (RL).length) (h4 : (!(kn ((RL).getD (0 + (i * 1)) 0))) = false) (h5 : ((IntKind.wrap .i64 (((i : Nat) : Int) + 1)) : Int) = (((i + 1) : Nat) : Int)) (h6 : (((((RL).getD (0 + (i * 1)) 0) : Int) == r) : Bool) = (RL.getD i 0 == r)) (ih : LOK cfg none (lb 11 0) [(.int .i64 a), (.int .i64 r), u_, u_, u_, (.bool (RL.getD i 0 == r)), (.sl 1 (some (0, 0)) 21), (.int .i64 (((i + 1) : Nat) : Int)), u_, u_, u_, u_, u_, u_, u_, u_, u_, u_, u_, u_, u_, u_, u_, u_, u_, u_, u_, u_, u_, u_, u_, u_, u_, u_, u_, u_, u_, u_, u_, u_, u_, u_, u_, u_, u_, u_, u_, u_, u_, u_, u_] [.cells true ((RL).map (V.int .i64))] (.exit 0) [(.int .i64 a), (.int .i64 r), u_, u_, u_, (.bool c), u_, u_, u_, u_, u_, u_, u_, u_, u_, u_, u_, u_, u_, u_, u_, u_, u_, u_, u_, u_, u_, u_, u_, u_, u_, u_, u_, u_, u_, u_, u_, u_, u_, u_, u_, u_, u_, u_, u_, u_, u_, u_, u_, u_, u_] [.cells true ((RL).map (V.int .i64))]) : LOK cfg none (lb 11 0) [(.int .i64 a), (.int .i64 r), u_, u_, u_, (.bool b), (.sl 1 (some (0, 0)) 21), (.int .i64 ((i : Nat) : Int)), u_, u_, u_, u_, u_, u_, u_, u_, u_, u_, u_, u_, u_, u_, u_, u_, u_, u_, u_, u_, u_, u_, u_, u_, u_, u_, u_, u_, u_, u_, u_, u_, u_, u_, u_, u_, u_, u_, u_, u_, u_, u_, u_] [.cells true ((RL).map (V.int .i64))] (.exit 0) [(.int .i64 a), (.int .i64 r), u_, u_, u_, (.bool c), u_, u_, u_, u_, u_, u_, u_, u_, u_, u_, u_, u_, u_, u_, u_, u_, u_, u_, u_, u_, u_, u_, u_, u_, u_, u_, u_, u_, u_, u_, u_, u_, u_, u_, u_, u_, u_, u_, u_, u_, u_, u_, u_, u_, u_] [.cells true ((RL).map (V.int .i64))] :=
  (LOK.re (st1' := [(.int .i64 a), (.int .i64 r), u_, u_, u_, (.bool c), u_, u_, u_, u_, u_, u_, u_, u_, u_, u_, u_, u_, u_, u_, u_, u_, u_, u_, u_, u_, u_, u_, u_, u_, u_, u_, u_, u_, u_, u_, u_, u_, u_, u_, u_, u_, u_, u_, u_, u_, u_, u_, u_, u_, u_]) (LOK.step (cok_of hmix (n := 40) (rd := none) (code := (lb 11 0)) (st := [(.int .i64 a), (.int .i64 r), u_, u_, u_, (.bool b), (.sl 1 (some (0, 0)) 21), (.int .i64 ((i : Nat) : Int)), u_, u_, u_, u_, u_, u_, u_, u_, u_, u_, u_, u_, u_, u_, u_, u_, u_, u_, u_, u_, u_, u_, u_, u_, u_, u_, u_, u_, u_, u_, u_, u_, u_, u_, u_, u_, u_, u_, u_, u_, u_, u_, u_]) (H := [.cells true ((RL).map (V.int .i64))]) (os := [.c, .c, .c, .c, .t, .c, .c, .t, .c, .c, .c, .c, .a, .c, .v (.int .i64 ((RL).getD (0 + (i * 1)) 0)), .c, .c, .c, .c, .c, .c, .c, .c, .a, .v (.int .i64 ((RL).getD (0 + (i * 1)) 0)), .r (.bool (kn ((RL).getD (0 + (i * 1)) 0))) [.cells true ((RL).map (V.int .i64)), .dead], .c, .f, .c, .c, .c]) (e := .normal) (st' := [(.int .i64 a), (.int .i64 r), u_, u_, u_, (.bool ((((RL).getD (0 + (i * 1)) 0) : Int) == r)), (.sl 1 (some (0, 0)) 21), (.int .i64 (IntKind.wrap .i64 (((i : Nat) : Int) + 1))), u_, (.int .i64 ((i : Nat) : Int)), (.sl 1 (some (0, 0)) 21), (.int .i64 21), (.bool (decide ((((i : Nat) : Int) : Int) < 21))), (.int .i64 ((i : Nat) : Int)), (.int .i64 (IntKind.wrap .i64 (((i : Nat) : Int) + 1))), (.bool b), (.bool false), (.sl 1 (some (0, 0)) 21), (.int .i64 ((i : Nat) : Int)), (.ptr (some (0, (0 + (i * 1))))), (.int .i64 ((RL).getD (0 + (i * 1)) 0)), (.int .i64 r), (.bool ((((RL).getD (0 + (i * 1)) 0) : Int) == r)), (.bool ((((RL).getD (0 + (i * 1)) 0) : Int) == r)), (.sl 1 (some (0, 0)) 21), (.int .i64 ((i : Nat) : Int)), (.ptr (some (0, (0 + (i * 1))))), (.int .i64 ((RL).getD (0 + (i * 1)) 0)), (.bool (kn ((RL).getD (0 + (i * 1)) 0))), (.bool (!(kn ((RL).getD (0 + (i * 1)) 0)))), u_, u_, u_, u_, u_, u_, u_, u_, u_, u_, u_, u_, u_, u_, u_, u_, u_, u_, u_, u_, u_]) (H' := [.cells true ((RL).map (V.int .i64)), .dead]) (Eq.mp (by kernel_rfl) (And.intro (Eq.refl true) (And.intro h0 (And.intro h1 (And.intro h2 (And.intro (ld_int (k := .i64) h3) (And.intro (Eq.refl true) (And.intro h2 (And.intro (ld_int (k := .i64) h3) (And.intro (OK.pad (known_ok ((RL).getD (0 + (i * 1)) 0) [.cells true ((RL).map (V.int .i64))])) (And.intro (Eq.refl true) (And.intro h4 (And.intro (Eq.refl true) (Eq.refl (Ex.normal, ([(.int .i64 a), (.int .i64 r), u_, u_, u_, (.bool ((((RL).getD (0 + (i * 1)) 0) : Int) == r)), (.sl 1 (some (0, 0)) 21), (.int .i64 (IntKind.wrap .i64 (((i : Nat) : Int) + 1))), u_, (.int .i64 ((i : Nat) : Int)), (.sl 1 (some (0, 0)) 21), (.int .i64 21), (.bool (decide ((((i : Nat) : Int) : Int) < 21))), (.int .i64 ((i : Nat) : Int)), (.int .i64 (IntKind.wrap .i64 (((i : Nat) : Int) + 1))), (.bool b), (.bool false), (.sl 1 (some (0, 0)) 21), (.int .i64 ((i : Nat) : Int)), (.ptr (some (0, (0 + (i * 1))))), (.int .i64 ((RL).getD (0 + (i * 1)) 0)), (.int .i64 r), (.bool ((((RL).getD (0 + (i * 1)) 0) : Int) == r)), (.bool ((((RL).getD (0 + (i * 1)) 0) : Int) == r)), (.sl 1 (some (0, 0)) 21), (.int .i64 ((i : Nat) : Int)), (.ptr (some (0, (0 + (i * 1))))), (.int .i64 ((RL).getD (0 + (i * 1)) 0)), (.bool (kn ((RL).getD (0 + (i * 1)) 0))), (.bool (!(kn ((RL).getD (0 + (i * 1)) 0)))), u_, u_, u_, u_, u_, u_, u_, u_, u_, u_, u_, u_, u_, u_, u_, u_, u_, u_, u_, u_, u_] : St), ([.cells true ((RL).map (V.int .i64)), .dead] : Heap))))))))))))))))) (LOK.at (rd := none) (rd1 := none) (st1 := [(.int .i64 a), (.int .i64 r), u_, u_, u_, (.bool ((((RL).getD (0 + (i * 1)) 0) : Int) == r)), (.sl 1 (some (0, 0)) 21), (.int .i64 (IntKind.wrap .i64 (((i : Nat) : Int) + 1))), u_, (.int .i64 ((i : Nat) : Int)), (.sl 1 (some (0, 0)) 21), (.int .i64 21), (.bool (decide ((((i : Nat) : Int) : Int) < 21))), (.int .i64 ((i : Nat) : Int)), (.int .i64 (IntKind.wrap .i64 (((i : Nat) : Int) + 1))), (.bool b), (.bool false), (.sl 1 (some (0, 0)) 21), (.int .i64 ((i : Nat) : Int)), (.ptr (some (0, (0 + (i * 1))))), (.int .i64 ((RL).getD (0 + (i * 1)) 0)), (.int .i64 r), (.bool ((((RL).getD (0 + (i * 1)) 0) : Int) == r)), (.bool ((((RL).getD (0 + (i * 1)) 0) : Int) == r)), (.sl 1 (some (0, 0)) 21), (.int .i64 ((i : Nat) : Int)), (.ptr (some (0, (0 + (i * 1))))), (.int .i64 ((RL).getD (0 + (i * 1)) 0)), (.bool (kn ((RL).getD (0 + (i * 1)) 0))), (.bool (!(kn ((RL).getD (0 + (i * 1)) 0)))), u_, u_, u_, u_, u_, u_, u_, u_, u_, u_, u_, u_, u_, u_, u_, u_, u_, u_, u_, u_, u_]) (st1' := [(.int .i64 a), (.int .i64 r), u_, u_, u_, (.bool c), u_, u_, u_, u_, u_, u_, u_, u_, u_, u_, u_, u_, u_, u_, u_, u_, u_, u_, u_, u_, u_, u_, u_, u_, u_, u_, u_, u_, u_, u_, u_, u_, u_, u_, u_, u_, u_, u_, u_, u_, u_, u_, u_, u_, u_]) ih [some (0, 0)] [some (0, 0)] [] [.cells true ((RL).map (V.int .i64)), .dead] [.cells true ((RL).map (V.int .i64)), .dead] True.intro (by kernel_rfl) (by kernel_rfl) ⟨⟨0, ((RL).map (V.int .i64)), rfl, rfl, (VEL.plain (plains_map _ (fun _ => rfl) _))⟩, trivial⟩ ⟨.inr (.inr ⟨0, .cells true ((RL).map (V.int .i64)), rfl, rfl, (VEL.plain (plains_map _ (fun _ => rfl) _))⟩), ⟨.inl rfl, trivial⟩⟩ (.c (VE.ren (by kernel_rfl)) (.c (VE.ren (by kernel_rfl)) (.c (VE.ren (by kernel_rfl)) (.c (VE.ren (by kernel_rfl)) (.c (VE.ren (by kernel_rfl)) (.c (VE.eqB h6) (.c (VE.ren (by kernel_rfl)) (.c (VE.eqI h5) (.c (VE.ren (by kernel_rfl)) (.c .q (.c .q (.c .q (.c .q (.c .q (.c .q (.c .q (.c .q (.c .q (.c .q (.c .q (.c .q (.c .q (.c .q (.c .q (.c .q (.c .q (.c .q (.c .q (.c .q (.c .q (.c (VE.ren (by kernel_rfl)) (.c (VE.ren (by kernel_rfl)) (.c (VE.ren (by kernel_rfl)) (.c (VE.ren (by kernel_rfl)) (.c (VE.ren (by kernel_rfl)) (.c (VE.ren (by kernel_rfl)) (.c (VE.ren (by kernel_rfl)) (.c (VE.ren (by kernel_rfl)) (.c (VE.ren (by kernel_rfl)) (.c (VE.ren (by kernel_rfl)) (.c (VE.ren (by kernel_rfl)) (.c (VE.ren (by kernel_rfl)) (.c (VE.ren (by kernel_rfl)) (.c (VE.ren (by kernel_rfl)) (.c (VE.ren (by kernel_rfl)) (.c (VE.ren (by kernel_rfl)) (.c (VE.ren (by kernel_rfl)) (.c (VE.ren (by kernel_rfl)) (.c (VE.ren (by kernel_rfl)) (.c (VE.ren (by kernel_rfl)) (.c (VE.ren (by kernel_rfl)) .nil))))))))))))))))))))))))))))))))))))))))))))))))))) (VEL.ren (by kernel_rfl)))) [some (0, 0)] [some (0, 0), none] [] [.cells true ((RL).map (V.int .i64))] True.intro (by kernel_rfl) (by kernel_rfl) ⟨⟨0, ((RL).map (V.int .i64)), rfl, rfl, (VEL.plain (plains_map _ (fun _ => rfl) _))⟩, trivial⟩ ⟨.inr (.inr ⟨0, .cells true ((RL).map (V.int .i64)), rfl, rfl, (VEL.plain (plains_map _ (fun _ => rfl) _))⟩), trivial⟩ (VEL.ren (by kernel_rfl)) (VEL.ren (by kernel_rfl)))

theorem v_x (a r : Int) (i : Nat) (b c : Bool) (h0 : (decide ((((i : Nat) : Int) : Int) < 21)) = false) : LOK cfg none (lb 11 0) [(.int .i64 a), (.int .i64 r), u_, u_, u_, (.bool b), (.sl 1 (some (0, 0)) 21), (.int .i64 ((i : Nat) : Int)), u_, u_, u_, u_, u_, u_, u_, u_, u_, u_, u_, u_, u_, u_, u_, u_, u_, u_, u_, u_, u_, u_, u_, u_, u_, u_, u_, u_, u_, u_, u_, u_, u_, u_, u_, u_, u_, u_, u_, u_, u_, u_, u_] [.cells true ((RL).map (V.int .i64))] (.exit 0) [(.int .i64 a), (.int .i64 r), u_, u_, u_, (.bool b), u_, u_, u_, u_, u_, u_, u_, u_, u_, u_, u_, u_, u_, u_, u_, u_, u_, u_, u_, u_, u_, u_, u_, u_, u_, u_, u_, u_, u_, u_, u_, u_, u_, u_, u_, u_, u_, u_, u_, u_, u_, u_, u_, u_, u_] [.cells true ((RL).map (V.int .i64))] :=
  (LOK.re (st1' := [(.int .i64 a), (.int .i64 r), u_, u_, u_, (.bool b), u_, u_, u_, u_, u_, u_, u_, u_, u_, u_, u_, u_, u_, u_, u_, u_, u_, u_, u_, u_, u_, u_, u_, u_, u_, u_, u_, u_, u_, u_, u_, u_, u_, u_, u_, u_, u_, u_, u_, u_, u_, u_, u_, u_, u_]) (LOK.exit (cok_of hmix (n := 40) (rd := none) (code := (lb 11 0)) (st := [(.int .i64 a), (.int .i64 r), u_, u_, u_, (.bool b), (.sl 1 (some (0, 0)) 21), (.int .i64 ((i : Nat) : Int)), u_, u_, u_, u_, u_, u_, u_, u_, u_, u_, u_, u_, u_, u_, u_, u_, u_, u_, u_, u_, u_, u_, u_, u_, u_, u_, u_, u_, u_, u_, u_, u_, u_, u_, u_, u_, u_, u_, u_, u_, u_, u_, u_]) (H := [.cells true ((RL).map (V.int .i64))]) (os := [.c, .c, .c, .c, .f]) (e := (.exit 0)) (st' := [(.int .i64 a), (.int .i64 r), u_, u_, u_, (.bool b), (.sl 1 (some (0, 0)) 21), (.int .i64 ((i : Nat) : Int)), u_, (.int .i64 ((i : Nat) : Int)), (.sl 1 (some (0, 0)) 21), (.int .i64 21), (.bool (decide ((((i : Nat) : Int) : Int) < 21))), u_, u_, u_, u_, u_, u_, u_, u_, u_, u_, u_, u_, u_, u_, u_, u_, u_, u_, u_, u_, u_, u_, u_, u_, u_, u_, u_, u_, u_, u_, u_, u_, u_, u_, u_, u_, u_, u_]) (H' := [.cells true ((RL).map (V.int .i64))]) (Eq.mp (by kernel_rfl) (And.intro (Eq.refl true) (And.intro h0 (Eq.refl (((.exit 0) : Ex), ([(.int .i64 a), (.int .i64 r), u_, u_, u_, (.bool b), (.sl 1 (some (0, 0)) 21), (.int .i64 ((i : Nat) : Int)), u_, (.int .i64 ((i : Nat) : Int)), (.sl 1 (some (0, 0)) 21), (.int .i64 21), (.bool (decide ((((i : Nat) : Int) : Int) < 21))), u_, u_, u_, u_, u_, u_, u_, u_, u_, u_, u_, u_, u_, u_, u_, u_, u_, u_, u_, u_, u_, u_, u_, u_, u_, u_, u_, u_, u_, u_, u_, u_, u_, u_, u_, u_, u_, u_] : St), ([.cells true ((RL).map (V.int .i64))] : Heap))))))) rfl) [some (0, 0)] [some (0, 0)] [] [.cells true ((RL).map (V.int .i64))] True.intro (by kernel_rfl) (by kernel_rfl) ⟨⟨0, ((RL).map (V.int .i64)), rfl, rfl, (VEL.plain (plains_map _ (fun _ => rfl) _))⟩, trivial⟩ ⟨.inr (.inr ⟨0, .cells true ((RL).map (V.int .i64)), rfl, rfl, (VEL.plain (plains_map _ (fun _ => rfl) _))⟩), trivial⟩ (VEL.ren (by kernel_rfl)) (.c (VE.ren (by kernel_rfl)) (.c (VE.ren (by kernel_rfl)) (.c (VE.ren (by kernel_rfl)) (.c (VE.ren (by kernel_rfl)) (.c (VE.ren (by kernel_rfl)) (.c (VE.ren (by kernel_rfl)) (.c .dr (.c .dr (.c (VE.ren (by kernel_rfl)) (.c .dr (.c .dr (.c .dr (.c .dr (.c (VE.ren (by kernel_rfl)) (.c (VE.ren (by kernel_rfl)) (.c (VE.ren (by kernel_rfl)) (.c (VE.ren (by kernel_rfl)) (.c (VE.ren (by kernel_rfl)) (.c (VE.ren (by kernel_rfl)) (.c (VE.ren (by kernel_rfl)) (.c (VE.ren (by kernel_rfl)) (.c (VE.ren (by kernel_rfl)) (.c (VE.ren (by kernel_rfl)) (.c (VE.ren (by kernel_rfl)) (.c (VE.ren (by kernel_rfl)) (.c (VE.ren (by kernel_rfl)) (.c (VE.ren (by kernel_rfl)) (.c (VE.ren (by kernel_rfl)) (.c (VE.ren (by kernel_rfl)) (.c (VE.ren (by kernel_rfl)) (.c (VE.ren (by kernel_rfl)) (.c (VE.ren (by kernel_rfl)) (.c (VE.ren (by kernel_rfl)) (.c (VE.ren (by kernel_rfl)) (.c (VE.ren (by kernel_rfl)) (.c (VE.ren (by kernel_rfl)) (.c (VE.ren (by kernel_rfl)) (.c (VE.ren (by kernel_rfl)) (.c (VE.ren (by kernel_rfl)) (.c (VE.ren (by kernel_rfl)) (.c (VE.ren (by kernel_rfl)) (.c (VE.ren (by kernel_rfl)) (.c (VE.ren (by kernel_rfl)) (.c (VE.ren (by kernel_rfl)) (.c (VE.ren (by kernel_rfl)) (.c (VE.ren (by kernel_rfl)) (.c (VE.ren (by kernel_rfl)) (.c (VE.ren (by kernel_rfl)) (.c (VE.ren (by kernel_rfl)) (.c (VE.ren (by kernel_rfl)) (.c (VE.ren (by kernel_rfl)) .nil))))))))))))))))))))))))))))))))))))))))))))))))))))

theorem v_all (a r : Int) : ∀ (d i : Nat) (b : Bool), i + d = 21 → ∃ c : Bool, c = (b || (RL.drop i).any (fun x => x == r)) ∧ LOK cfg none (lb 11 0) [(.int .i64 a), (.int .i64 r), u_, u_, u_, (.bool b), (.sl 1 (some (0, 0)) 21), (.int .i64 ((i : Nat) : Int)), u_, u_, u_, u_, u_, u_, u_, u_, u_, u_, u_, u_, u_, u_, u_, u_, u_, u_, u_, u_, u_, u_, u_, u_, u_, u_, u_, u_, u_, u_, u_, u_, u_, u_, u_, u_, u_, u_, u_, u_, u_, u_, u_] [.cells true ((RL).map (V.int .i64))] (.exit 0) [(.int .i64 a), (.int .i64 r), u_, u_, u_, (.bool c), u_, u_, u_, u_, u_, u_, u_, u_, u_, u_, u_, u_, u_, u_, u_, u_, u_, u_, u_, u_, u_, u_, u_, u_, u_, u_, u_, u_, u_, u_, u_, u_, u_, u_, u_, u_, u_, u_, u_, u_, u_, u_, u_, u_, u_] [.cells true ((RL).map (V.int .i64))]
  | 0, i, b, h => by
    obtain rfl : i = 21 := by omega
    exact ⟨b, by simp [RL], v_x a r 21 b false (by simp)⟩
  | d + 1, i, b, h => by
    have hlen : RL.length = 21 := rfl
    have hd : RL.drop i = RL.getD i 0 :: RL.drop (i + 1) := by
      rw [List.drop_eq_getElem_cons (by omega)]
      simp [List.getD_eq_getElem?_getD, hlen, show i < 21 by omega]
    have hm : RL.getD i 0 ∈ RL := by
      simp [List.getD_eq_getElem?_getD, List.getElem?_eq_getElem (show i < RL.length by omega)]
    have hk : kn (RL.getD (0 + (i * 1)) 0) = true := by
      rw [show 0 + i * 1 = i by omega]
      exact List.any_eq_true.2 ⟨_, hm, by simp⟩
    have g1 : (decide ((((i : Nat) : Int) : Int) < 21)) = true := decide_eq_true (by omega)
    have g2 : 0 ≤ (((i : Nat) : Int) : Int) ∧ (((i : Nat) : Int) : Int) < 21 := by omega
    have g3 : (0 + (i * 1)) < (RL).length := by omega
    have g4 : (!(kn ((RL).getD (0 + (i * 1)) 0))) = false := by rw [hk]; rfl
    have g5 : ((IntKind.wrap .i64 (((i : Nat) : Int) + 1)) : Int) = (((i + 1) : Nat) : Int) := by rw [wrap_i64 (by omega)]; simp
    cases b with
    | true =>
      obtain ⟨c, hc, ih⟩ := v_all a r d (i + 1) true (by omega)
      exact ⟨c, by simpa using hc, v_t a r i true c g1 rfl g2 g3 g4 g5 rfl ih⟩
    | false =>
      obtain ⟨c, hc, ih⟩ := v_all a r d (i + 1) (RL.getD i 0 == r) (by omega)
      exact ⟨c, by rw [hc, hd, List.any_cons, Bool.false_or], v_f a r i false c g1 rfl g2 g3 g4 g5 (by rw [show 0 + i * 1 = i by omega]) ih⟩

theorem law_q_1 (a r : Int) (c : Bool) (hl : LOK cfg none (lb 11 0) [(.int .i64 a), (.int .i64 r), u_, u_, u_, (.bool false), (.sl 1 (some (0, 0)) 21), (.int .i64 0), u_, u_, u_, u_, u_, u_, u_, u_, u_, u_, u_, u_, u_, u_, u_, u_, u_, u_, u_, u_, u_, u_, u_, u_, u_, u_, u_, u_, u_, u_, u_, u_, u_, u_, u_, u_, u_, u_, u_, u_, u_, u_, u_] [.cells true ((RL).map (V.int .i64))] (.exit 0) [(.int .i64 a), (.int .i64 r), u_, u_, u_, (.bool c), u_, u_, u_, u_, u_, u_, u_, u_, u_, u_, u_, u_, u_, u_, u_, u_, u_, u_, u_, u_, u_, u_, u_, u_, u_, u_, u_, u_, u_, u_, u_, u_, u_, u_, u_, u_, u_, u_, u_, u_, u_, u_, u_, u_, u_] [.cells true ((RL).map (V.int .i64))])  : OK cfg (.fn 60 []) [] [] (.sl 1 (some (0, 0)) 21) [.cells true [(.int .i64 84082688), (.int .i64 84148224), (.int .i64 84148225), (.int .i64 84148226), (.int .i64 84148227), (.int .i64 84148228), (.int .i64 100728832), (.int .i64 100728833), (.int .i64 100728834), (.int .i64 100794368), (.int .i64 100925505), (.int .i64 100925506), (.int .i64 101122064), (.int .i64 101122066), (.int .i64 101122067), (.int .i64 101253137), (.int .i64 101253168), (.int .i64 101253169), (.int .i64 101253170), (.int .i64 134217728), (.int .i64 134217762)]] :=
  ok_fn hmix (n := 40) (os := [.c, .c, .c]) (Eq.mp (by kernel_rfl) (And.intro (Eq.refl true) (And.intro (Eq.refl true) (Eq.refl (((.sl 1 (some (0, 0)) 21) : V), ([.cells true [(.int .i64 84082688), (.int .i64 84148224), (.int .i64 84148225), (.int .i64 84148226), (.int .i64 84148227), (.int .i64 84148228), (.int .i64 100728832), (.int .i64 100728833), (.int .i64 100728834), (.int .i64 100794368), (.int .i64 100925505), (.int .i64 100925506), (.int .i64 101122064), (.int .i64 101122066), (.int .i64 101122067), (.int .i64 101253137), (.int .i64 101253168), (.int .i64 101253169), (.int .i64 101253170), (.int .i64 134217728), (.int .i64 134217762)]] : Heap))))))

theorem law_w (a r : Int) (c : Bool) (hl : LOK cfg none (lb 11 0) [(.int .i64 a), (.int .i64 r), u_, u_, u_, (.bool false), (.sl 1 (some (0, 0)) 21), (.int .i64 0), u_, u_, u_, u_, u_, u_, u_, u_, u_, u_, u_, u_, u_, u_, u_, u_, u_, u_, u_, u_, u_, u_, u_, u_, u_, u_, u_, u_, u_, u_, u_, u_, u_, u_, u_, u_, u_, u_, u_, u_, u_, u_, u_] [.cells true ((RL).map (V.int .i64))] (.exit 0) [(.int .i64 a), (.int .i64 r), u_, u_, u_, (.bool c), u_, u_, u_, u_, u_, u_, u_, u_, u_, u_, u_, u_, u_, u_, u_, u_, u_, u_, u_, u_, u_, u_, u_, u_, u_, u_, u_, u_, u_, u_, u_, u_, u_, u_, u_, u_, u_, u_, u_, u_, u_, u_, u_, u_, u_] [.cells true ((RL).map (V.int .i64))]) (h0 : ([(.int .i64 84082688), (.int .i64 84148224), (.int .i64 84148225), (.int .i64 84148226), (.int .i64 84148227), (.int .i64 84148228), (.int .i64 100728832), (.int .i64 100728833), (.int .i64 100728834), (.int .i64 100794368), (.int .i64 100925505), (.int .i64 100925506), (.int .i64 101122064), (.int .i64 101122066), (.int .i64 101122067), (.int .i64 101253137), (.int .i64 101253168), (.int .i64 101253169), (.int .i64 101253170), (.int .i64 134217728), (.int .i64 134217762)] : List V) = ((RL).map (V.int .i64))) (h1 : (((rd a) : Int) == (rd a)) = true) (h2 : (((wr a) : Int) == (wr a)) = true) : OK cfg (.fn 11 []) [(.int .i64 a), (.int .i64 r)] [] (.bool ((kn r) == c)) [.cells true ((RL).map (V.int .i64)), .dead, .dead, .dead, .dead, .dead, .dead, .dead] :=
  ok_fn hmix (n := 40) (os := [.c, .c, .r (.sl 1 (some (0, 0)) 21) [.cells true [(.int .i64 84082688), (.int .i64 84148224), (.int .i64 84148225), (.int .i64 84148226), (.int .i64 84148227), (.int .i64 84148228), (.int .i64 100728832), (.int .i64 100728833), (.int .i64 100728834), (.int .i64 100794368), (.int .i64 100925505), (.int .i64 100925506), (.int .i64 101122064), (.int .i64 101122066), (.int .i64 101122067), (.int .i64 101253137), (.int .i64 101253168), (.int .i64 101253169), (.int .i64 101253170), (.int .i64 134217728), (.int .i64 134217762)], .dead], .c, .c, .l (.exit 0) [(.int .i64 a), (.int .i64 r), u_, u_, u_, (.bool c), u_, u_, u_, u_, u_, u_, u_, u_, u_, u_, u_, u_, u_, u_, u_, u_, u_, u_, u_, u_, u_, u_, u_, u_, u_, u_, u_, u_, u_, u_, u_, u_, u_, u_, u_, u_, u_, u_, u_, u_, u_, u_, u_, u_, u_] [.cells true ((RL).map (V.int .i64)), .dead], .r (.bool true) [.cells true ((RL).map (V.int .i64)), .dead, .dead], .c, .c, .c, .c, .r (.int .i64 (rd a)) [.cells true ((RL).map (V.int .i64)), .dead, .dead, .dead], .c, .c, .c, .r (.int .i64 (rd a)) [.cells true ((RL).map (V.int .i64)), .dead, .dead, .dead, .dead], .c, .c, .c, .c, .t, .c, .c, .r (.int .i64 (wr a)) [.cells true ((RL).map (V.int .i64)), .dead, .dead, .dead, .dead, .dead], .c, .c, .c, .r (.int .i64 (wr a)) [.cells true ((RL).map (V.int .i64)), .dead, .dead, .dead, .dead, .dead, .dead], .c, .c, .c, .c, .t, .c, .c, .r (.bool (kn r)) [.cells true ((RL).map (V.int .i64)), .dead, .dead, .dead, .dead, .dead, .dead, .dead], .c, .c, .c, .c, .c, .c]) (Eq.mp (by kernel_rfl) (And.intro (Eq.refl true) (And.intro (Eq.refl true) (And.intro (OK.pad (law_q_1 a r c hl)) (And.intro (Eq.refl true) (And.intro (Eq.refl true) (And.intro (LOK.at (rd := none) (rd1 := none) (st1 := [(.int .i64 a), (.int .i64 r), (.tup []), (.tup []), (.bool false), (.bool false), (.sl 1 (some (0, 0)) 21), (.int .i64 0), (.sl 1 (some (0, 0)) 21), (.tup []), (.tup []), (.tup []), (.tup []), (.tup []), (.tup []), (.tup []), (.tup []), (.tup []), (.tup []), (.tup []), (.tup []), (.tup []), (.tup []), (.tup []), (.tup []), (.tup []), (.tup []), (.tup []), (.tup []), (.tup []), (.tup []), (.tup []), (.tup []), (.tup []), (.tup []), (.tup []), (.tup []), (.tup []), (.tup []), (.tup []), (.tup []), (.tup []), (.tup []), (.tup []), (.tup []), (.tup []), (.tup []), (.tup []), (.tup []), (.tup []), (.tup [])]) (st1' := [(.int .i64 a), (.int .i64 r), u_, u_, u_, (.bool c), u_, u_, u_, u_, u_, u_, u_, u_, u_, u_, u_, u_, u_, u_, u_, u_, u_, u_, u_, u_, u_, u_, u_, u_, u_, u_, u_, u_, u_, u_, u_, u_, u_, u_, u_, u_, u_, u_, u_, u_, u_, u_, u_, u_, u_]) hl [some (0, 0)] [some (0, 0)] [] [.cells true [(.int .i64 84082688), (.int .i64 84148224), (.int .i64 84148225), (.int .i64 84148226), (.int .i64 84148227), (.int .i64 84148228), (.int .i64 100728832), (.int .i64 100728833), (.int .i64 100728834), (.int .i64 100794368), (.int .i64 100925505), (.int .i64 100925506), (.int .i64 101122064), (.int .i64 101122066), (.int .i64 101122067), (.int .i64 101253137), (.int .i64 101253168), (.int .i64 101253169), (.int .i64 101253170), (.int .i64 134217728), (.int .i64 134217762)], .dead] [.cells true ((RL).map (V.int .i64)), .dead] True.intro (by kernel_rfl) (by kernel_rfl) ⟨⟨0, [(.int .i64 84082688), (.int .i64 84148224), (.int .i64 84148225), (.int .i64 84148226), (.int .i64 84148227), (.int .i64 84148228), (.int .i64 100728832), (.int .i64 100728833), (.int .i64 100728834), (.int .i64 100794368), (.int .i64 100925505), (.int .i64 100925506), (.int .i64 101122064), (.int .i64 101122066), (.int .i64 101122067), (.int .i64 101253137), (.int .i64 101253168), (.int .i64 101253169), (.int .i64 101253170), (.int .i64 134217728), (.int .i64 134217762)], rfl, rfl, (VEL.eqR h0 (VEL.plain (plains_map _ (fun _ => rfl) _)))⟩, trivial⟩ ⟨.inr (.inr ⟨0, .cells true ((RL).map (V.int .i64)), rfl, rfl, (VEL.plain (plains_map _ (fun _ => rfl) _))⟩), ⟨.inl rfl, trivial⟩⟩ (.c (VE.ren (by kernel_rfl)) (.c (VE.ren (by kernel_rfl)) (.c .q (.c .q (.c .q (.c (VE.ren (by kernel_rfl)) (.c (VE.ren (by kernel_rfl)) (.c (VE.ren (by kernel_rfl)) (.c .q (.c .q (.c .q (.c .q (.c .q (.c .q (.c .q (.c .q (.c .q (.c .q (.c .q (.c .q (.c .q (.c .q (.c .q (.c .q (.c .q (.c .q (.c .q (.c .q (.c .q (.c .q (.c .q (.c .q (.c .q (.c .q (.c .q (.c .q (.c .q (.c .q (.c .q (.c .q (.c .q (.c .q (.c .q (.c .q (.c .q (.c .q (.c .q (.c .q (.c .q (.c .q (.c .q .nil))))))))))))))))))))))))))))))))))))))))))))))))))) (VEL.ren (by kernel_rfl))) (And.intro (OK.pad (live_ok [.cells true ((RL).map (V.int .i64)), .dead])) (And.intro (OK.pad (rd1_ok a [.cells true ((RL).map (V.int .i64)), .dead, .dead])) (And.intro (OK.pad (rd2_ok a [.cells true ((RL).map (V.int .i64)), .dead, .dead, .dead])) (And.intro h1 (And.intro (OK.pad (wr1_ok a [.cells true ((RL).map (V.int .i64)), .dead, .dead, .dead, .dead])) (And.intro (OK.pad (wr2_ok a [.cells true ((RL).map (V.int .i64)), .dead, .dead, .dead, .dead, .dead])) (And.intro h2 (And.intro (OK.pad (known_ok r [.cells true ((RL).map (V.int .i64)), .dead, .dead, .dead, .dead, .dead, .dead])) (And.intro (Eq.refl true) (Eq.refl (((.bool ((kn r) == c)) : V), ([.cells true ((RL).map (V.int .i64)), .dead, .dead, .dead, .dead, .dead, .dead, .dead] : Heap)))))))))))))))))))

theorem law (a : Int) (_ : (Lit.int .i64 a).wf = true) (r : Int) (_ : (Lit.int .i64 r).wf = true) : ∃ H', OK cfg (.fn 11 []) [.int .i64 a, .int .i64 r] [] (.bool true) H' := by
  obtain ⟨c, hc, hl⟩ := v_all a r 21 0 false rfl
  exact ⟨_, OK.eqv (law_w a r c hl rfl (by simp) (by simp)) (by rw [hc]; simp [kn])⟩

end Go.Proofs.Ytiodgiedbgjkhaa.valueRights
