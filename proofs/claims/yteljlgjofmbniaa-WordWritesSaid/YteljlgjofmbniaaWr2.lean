/-
  What is read of bytes: the document's numbers; ways printed by ps.py, checked by the kernel.
-/
import Derived.Test.YteljlgjofmbniaaWr1
set_option linter.unusedVariables false
set_option linter.unusedSimpArgs false
set_option maxRecDepth 100000
namespace Go.Proofs.Yteljlgjofmbniaa.words
open Go Go.Vm


theorem sh_o (k : Int) (h0 : ((k : Int) == 1) = false) (h1 : ((k : Int) == 2) = false) (h2 : ((k : Int) == 3) = false) (h3 : ((k : Int) == 4) = false) (h4 : ((k : Int) == 5) = false) (h5 : ((k : Int) == 6) = false) (h6 : ((k : Int) == 7) = false) : OK cfg (.fn 12 []) [(.int .i64 k)] [] (.tup [(.int .i64 0), (.int .i64 0), (.int .i64 0)]) [] :=
  ok_fn' hmix (n := 40) (os := [.c, .c, .c, .c, .c, .c, .f, .c, .c, .f, .c, .c, .f, .c, .c, .f, .c, .c, .f, .c, .c, .f, .c, .c, .f, .c, .c, .c]) (by kernel_rfl) (And.intro (Eq.refl true) (And.intro (Eq.refl true) (And.intro (Eq.refl true) (And.intro h0 (And.intro (Eq.refl true) (And.intro h1 (And.intro (Eq.refl true) (And.intro h2 (And.intro (Eq.refl true) (And.intro h3 (And.intro (Eq.refl true) (And.intro h4 (And.intro (Eq.refl true) (And.intro h5 (And.intro (Eq.refl true) (And.intro h6 (And.intro (Eq.refl true) (Eq.refl (((.tup [(.int .i64 0), (.int .i64 0), (.int .i64 0)]) : V), ([] : Heap))))))))))))))))))))

theorem shape_ok (k : Int) (H : Heap) : OK cfg (.fn 12 []) [.int .i64 k] H (.tup [.int .i64 (sz k), .int .i64 (lo k), .int .i64 (hi k)]) H := by
  by_cases h1 : k = 1
  · subst h1; obtain ⟨H', h⟩ : ∃ H', OK cfg (.fn 12 []) [.int .i64 1] [] (.tup [.int .i64 (sz 1), .int .i64 (lo 1), .int .i64 (hi 1)]) H' := ok_run hmix 40 (by kernel_rfl)
    exact OK.any h H rfl rfl
  by_cases h2 : k = 2
  · subst h2; obtain ⟨H', h⟩ : ∃ H', OK cfg (.fn 12 []) [.int .i64 2] [] (.tup [.int .i64 (sz 2), .int .i64 (lo 2), .int .i64 (hi 2)]) H' := ok_run hmix 40 (by kernel_rfl)
    exact OK.any h H rfl rfl
  by_cases h3 : k = 3
  · subst h3; obtain ⟨H', h⟩ : ∃ H', OK cfg (.fn 12 []) [.int .i64 3] [] (.tup [.int .i64 (sz 3), .int .i64 (lo 3), .int .i64 (hi 3)]) H' := ok_run hmix 40 (by kernel_rfl)
    exact OK.any h H rfl rfl
  by_cases h4 : k = 4
  · subst h4; obtain ⟨H', h⟩ : ∃ H', OK cfg (.fn 12 []) [.int .i64 4] [] (.tup [.int .i64 (sz 4), .int .i64 (lo 4), .int .i64 (hi 4)]) H' := ok_run hmix 40 (by kernel_rfl)
    exact OK.any h H rfl rfl
  by_cases h5 : k = 5
  · subst h5; obtain ⟨H', h⟩ : ∃ H', OK cfg (.fn 12 []) [.int .i64 5] [] (.tup [.int .i64 (sz 5), .int .i64 (lo 5), .int .i64 (hi 5)]) H' := ok_run hmix 40 (by kernel_rfl)
    exact OK.any h H rfl rfl
  by_cases h6 : k = 6
  · subst h6; obtain ⟨H', h⟩ : ∃ H', OK cfg (.fn 12 []) [.int .i64 6] [] (.tup [.int .i64 (sz 6), .int .i64 (lo 6), .int .i64 (hi 6)]) H' := ok_run hmix 40 (by kernel_rfl)
    exact OK.any h H rfl rfl
  by_cases h7 : k = 7
  · subst h7; obtain ⟨H', h⟩ : ∃ H', OK cfg (.fn 12 []) [.int .i64 7] [] (.tup [.int .i64 (sz 7), .int .i64 (lo 7), .int .i64 (hi 7)]) H' := ok_run hmix 40 (by kernel_rfl)
    exact OK.any h H rfl rfl
  exact OK.any (OK.eqv (sh_o k (by simp [*]) (by simp [*]) (by simp [*]) (by simp [*]) (by simp [*]) (by simp [*]) (by simp [*])) (by simp [sz, lo, hi, *])) H rfl rfl

theorem shape_is (k n : Int) (H : Heap) (h : sz k = n) : OK cfg (.fn 12 []) [.int .i64 k] H (.tup [.int .i64 n, .int .i64 (lo k), .int .i64 (hi k)]) H := h ▸ shape_ok k H

theorem rg1_o (k b0 : Int) (hz : sz k = 1) (h0 : (decide (((IntKind.wrap .i64 (0 + (IntKind.wrap .i64 b0))) : Int) > (hi k))) = false) (h1 : (decide (((IntKind.wrap .i64 (0 + (IntKind.wrap .i64 b0))) : Int) < (lo k))) = false) : OK cfg (.fn 13 []) [(.int .i64 k), (.sl 1 (some (0, 0)) 1)] [.cells false [(.int .u8 b0)]] (.tup [(.int .i64 (IntKind.wrap .i64 (0 + (IntKind.wrap .i64 b0)))), (.int .i64 0)]) [.cells false [(.int .u8 b0)], .dead] :=
  ok_fn' hmix (n := 40) (os := [.c, .c, .c, .r (.tup [(.int .i64 1), (.int .i64 (lo k)), (.int .i64 (hi k))]) [.cells false [(.int .u8 b0)], .dead], .c, .c, .c, .c, .c, .c, .c, .c, .c, .c, .c, .c, .c, .c, .c, .c, .c, .c, .c, .a, .c, .c, .c, .c, .c, .c, .c, .c, .c, .c, .c, .c, .c, .c, .c, .c, .c, .c, .c, .c, .c, .f, .c, .c, .c, .c, .t, .c, .c, .c, .c, .c, .c, .f, .c, .c, .c]) (by kernel_rfl) (And.intro (Eq.refl true) (And.intro (OK.pad (shape_is k 1 [.cells false [(.int .u8 b0)]] hz)) (And.intro (Eq.refl true) (And.intro (Eq.refl true) (And.intro (Eq.refl true) (And.intro (Eq.refl true) (And.intro (Eq.refl true) (And.intro (Eq.refl true) (And.intro (Eq.refl true) (And.intro (Eq.refl true) (And.intro (Eq.refl true) (And.intro (Eq.refl true) (And.intro h0 (And.intro h1 (And.intro (Eq.refl true) (And.intro h0 (And.intro (Eq.refl true) (Eq.refl (((.tup [(.int .i64 (IntKind.wrap .i64 (0 + (IntKind.wrap .i64 b0)))), (.int .i64 0)]) : V), ([.cells false [(.int .u8 b0)], .dead] : Heap))))))))))))))))))))

theorem rg1_n_q_1 (k b0 : Int) (hz : sz k = 1)  : OK cfg (.fn 41 []) [(.int .i64 1)] [.cells false [(.int .u8 b0)], .dead] (.int .i64 256) [.cells false [(.int .u8 b0)], .dead] :=
  ok_fn' hmix (n := 40) (os := [.c, .c, .c, .a, .c, .c, .c, .c, .c, .c, .c, .c, .c, .c, .c, .c, .c, .c, .c, .c]) (by kernel_rfl) (And.intro (Eq.refl true) (And.intro (Eq.refl true) (And.intro (Eq.refl true) (And.intro (Eq.refl true) (And.intro (Eq.refl true) (And.intro (Eq.refl true) (And.intro (Eq.refl true) (And.intro (Eq.refl true) (Eq.refl (((.int .i64 256) : V), ([.cells false [(.int .u8 b0)], .dead] : Heap)))))))))))

theorem rg1_n (k b0 : Int) (hz : sz k = 1) (h0 : (decide (((IntKind.wrap .i64 (0 + (IntKind.wrap .i64 b0))) : Int) > (hi k))) = true) (h1 : (decide (((IntKind.wrap .i64 ((IntKind.wrap .i64 (0 + (IntKind.wrap .i64 b0))) - 256)) : Int) < (lo k))) = false) (h2 : (decide (((IntKind.wrap .i64 ((IntKind.wrap .i64 (0 + (IntKind.wrap .i64 b0))) - 256)) : Int) > (hi k))) = false) : OK cfg (.fn 13 []) [(.int .i64 k), (.sl 1 (some (0, 0)) 1)] [.cells false [(.int .u8 b0)]] (.tup [(.int .i64 (IntKind.wrap .i64 ((IntKind.wrap .i64 (0 + (IntKind.wrap .i64 b0))) - 256))), (.int .i64 0)]) [.cells false [(.int .u8 b0)], .dead, .dead] :=
  ok_fn' hmix (n := 40) (os := [.c, .c, .c, .r (.tup [(.int .i64 1), (.int .i64 (lo k)), (.int .i64 (hi k))]) [.cells false [(.int .u8 b0)], .dead], .c, .c, .c, .c, .c, .c, .c, .c, .c, .c, .c, .c, .c, .c, .c, .c, .c, .c, .c, .a, .c, .c, .c, .c, .c, .c, .c, .c, .c, .c, .c, .c, .c, .c, .c, .c, .c, .c, .c, .c, .c, .t, .c, .c, .r (.int .i64 256) [.cells false [(.int .u8 b0)], .dead, .dead], .c, .c, .c, .c, .c, .c, .t, .c, .c, .c, .c, .c, .c, .f, .c, .c, .c]) (by kernel_rfl) (And.intro (Eq.refl true) (And.intro (OK.pad (shape_is k 1 [.cells false [(.int .u8 b0)]] hz)) (And.intro (Eq.refl true) (And.intro (Eq.refl true) (And.intro (Eq.refl true) (And.intro (Eq.refl true) (And.intro (Eq.refl true) (And.intro (Eq.refl true) (And.intro (Eq.refl true) (And.intro (Eq.refl true) (And.intro (Eq.refl true) (And.intro (Eq.refl true) (And.intro h0 (And.intro (OK.pad (rg1_n_q_1 k b0 hz)) (And.intro (Eq.refl true) (And.intro h1 (And.intro (Eq.refl true) (And.intro h2 (And.intro (Eq.refl true) (Eq.refl (((.tup [(.int .i64 (IntKind.wrap .i64 ((IntKind.wrap .i64 (0 + (IntKind.wrap .i64 b0))) - 256))), (.int .i64 0)]) : V), ([.cells false [(.int .u8 b0)], .dead, .dead] : Heap))))))))))))))))))))))

theorem rg1_f_q_1 (k b0 : Int) (hz : sz k = 1)  : OK cfg (.fn 41 []) [(.int .i64 1)] [.cells false [(.int .u8 b0)], .dead] (.int .i64 256) [.cells false [(.int .u8 b0)], .dead] :=
  ok_fn' hmix (n := 40) (os := [.c, .c, .c, .a, .c, .c, .c, .c, .c, .c, .c, .c, .c, .c, .c, .c, .c, .c, .c, .c]) (by kernel_rfl) (And.intro (Eq.refl true) (And.intro (Eq.refl true) (And.intro (Eq.refl true) (And.intro (Eq.refl true) (And.intro (Eq.refl true) (And.intro (Eq.refl true) (And.intro (Eq.refl true) (And.intro (Eq.refl true) (Eq.refl (((.int .i64 256) : V), ([.cells false [(.int .u8 b0)], .dead] : Heap)))))))))))

theorem rg1_f (k b0 : Int) (hz : sz k = 1) (h0 : (decide (((IntKind.wrap .i64 (0 + (IntKind.wrap .i64 b0))) : Int) > (hi k))) = true) (h1 : (decide (((IntKind.wrap .i64 ((IntKind.wrap .i64 (0 + (IntKind.wrap .i64 b0))) - 256)) : Int) < (lo k))) = true) : OK cfg (.fn 13 []) [(.int .i64 k), (.sl 1 (some (0, 0)) 1)] [.cells false [(.int .u8 b0)]] (.tup [(.int .i64 0), (.int .i64 4)]) [.cells false [(.int .u8 b0)], .dead, .dead] :=
  ok_fn' hmix (n := 40) (os := [.c, .c, .c, .r (.tup [(.int .i64 1), (.int .i64 (lo k)), (.int .i64 (hi k))]) [.cells false [(.int .u8 b0)], .dead], .c, .c, .c, .c, .c, .c, .c, .c, .c, .c, .c, .c, .c, .c, .c, .c, .c, .c, .c, .a, .c, .c, .c, .c, .c, .c, .c, .c, .c, .c, .c, .c, .c, .c, .c, .c, .c, .c, .c, .c, .c, .t, .c, .c, .r (.int .i64 256) [.cells false [(.int .u8 b0)], .dead, .dead], .c, .c, .c, .c, .c, .c, .f, .c, .c, .c, .c, .c, .c]) (by kernel_rfl) (And.intro (Eq.refl true) (And.intro (OK.pad (shape_is k 1 [.cells false [(.int .u8 b0)]] hz)) (And.intro (Eq.refl true) (And.intro (Eq.refl true) (And.intro (Eq.refl true) (And.intro (Eq.refl true) (And.intro (Eq.refl true) (And.intro (Eq.refl true) (And.intro (Eq.refl true) (And.intro (Eq.refl true) (And.intro (Eq.refl true) (And.intro (Eq.refl true) (And.intro h0 (And.intro (OK.pad (rg1_f_q_1 k b0 hz)) (And.intro (Eq.refl true) (And.intro h1 (And.intro (Eq.refl true) (And.intro (Eq.refl true) (Eq.refl (((.tup [(.int .i64 0), (.int .i64 4)]) : V), ([.cells false [(.int .u8 b0)], .dead, .dead] : Heap)))))))))))))))))))))


theorem rg2_o (k b0 b1 : Int) (hz : sz k = 2) (h0 : (decide (((IntKind.wrap .i64 ((IntKind.wrap .i64 ((IntKind.wrap .i64 (0 + (IntKind.wrap .i64 b1))) * 256)) + (IntKind.wrap .i64 b0))) : Int) > (hi k))) = false) (h1 : (decide (((IntKind.wrap .i64 ((IntKind.wrap .i64 ((IntKind.wrap .i64 (0 + (IntKind.wrap .i64 b1))) * 256)) + (IntKind.wrap .i64 b0))) : Int) < (lo k))) = false) : OK cfg (.fn 13 []) [(.int .i64 k), (.sl 1 (some (0, 0)) 2)] [.cells false [(.int .u8 b0), (.int .u8 b1)]] (.tup [(.int .i64 (IntKind.wrap .i64 ((IntKind.wrap .i64 ((IntKind.wrap .i64 (0 + (IntKind.wrap .i64 b1))) * 256)) + (IntKind.wrap .i64 b0)))), (.int .i64 0)]) [.cells false [(.int .u8 b0), (.int .u8 b1)], .dead] :=
  ok_fn' hmix (n := 40) (os := [.c, .c, .c, .r (.tup [(.int .i64 2), (.int .i64 (lo k)), (.int .i64 (hi k))]) [.cells false [(.int .u8 b0), (.int .u8 b1)], .dead], .c, .c, .c, .c, .c, .c, .c, .c, .c, .c, .c, .c, .c, .c, .c, .c, .c, .c, .c, .a, .c, .c, .c, .c, .c, .c, .c, .c, .c, .c, .c, .c, .c, .c, .c, .c, .c, .c, .c, .c, .c, .c, .c, .c, .c, .c, .c, .c, .c, .c, .c, .c, .c, .c, .c, .c, .f, .c, .c, .c, .c, .t, .c, .c, .c, .c, .c, .c, .f, .c, .c, .c]) (by kernel_rfl) (And.intro (Eq.refl true) (And.intro (OK.pad (shape_is k 2 [.cells false [(.int .u8 b0), (.int .u8 b1)]] hz)) (And.intro (Eq.refl true) (And.intro (Eq.refl true) (And.intro (Eq.refl true) (And.intro (Eq.refl true) (And.intro (Eq.refl true) (And.intro (Eq.refl true) (And.intro (Eq.refl true) (And.intro (Eq.refl true) (And.intro (Eq.refl true) (And.intro (Eq.refl true) (And.intro (Eq.refl true) (And.intro (Eq.refl true) (And.intro (Eq.refl true) (And.intro h0 (And.intro h1 (And.intro (Eq.refl true) (And.intro h0 (And.intro (Eq.refl true) (Eq.refl (((.tup [(.int .i64 (IntKind.wrap .i64 ((IntKind.wrap .i64 ((IntKind.wrap .i64 (0 + (IntKind.wrap .i64 b1))) * 256)) + (IntKind.wrap .i64 b0)))), (.int .i64 0)]) : V), ([.cells false [(.int .u8 b0), (.int .u8 b1)], .dead] : Heap)))))))))))))))))))))))

theorem rg2_n_q_1 (k b0 b1 : Int) (hz : sz k = 2)  : OK cfg (.fn 41 []) [(.int .i64 2)] [.cells false [(.int .u8 b0), (.int .u8 b1)], .dead] (.int .i64 65536) [.cells false [(.int .u8 b0), (.int .u8 b1)], .dead] :=
  ok_fn' hmix (n := 40) (os := [.c, .c, .c, .a, .c, .c, .c, .c, .c, .c, .c, .c, .c, .c, .c, .c, .c, .c, .c, .c, .c, .c, .c, .c, .c, .c, .c, .c, .c, .c]) (by kernel_rfl) (And.intro (Eq.refl true) (And.intro (Eq.refl true) (And.intro (Eq.refl true) (And.intro (Eq.refl true) (And.intro (Eq.refl true) (And.intro (Eq.refl true) (And.intro (Eq.refl true) (And.intro (Eq.refl true) (And.intro (Eq.refl true) (And.intro (Eq.refl true) (And.intro (Eq.refl true) (Eq.refl (((.int .i64 65536) : V), ([.cells false [(.int .u8 b0), (.int .u8 b1)], .dead] : Heap))))))))))))))

theorem rg2_n (k b0 b1 : Int) (hz : sz k = 2) (h0 : (decide (((IntKind.wrap .i64 ((IntKind.wrap .i64 ((IntKind.wrap .i64 (0 + (IntKind.wrap .i64 b1))) * 256)) + (IntKind.wrap .i64 b0))) : Int) > (hi k))) = true) (h1 : (decide (((IntKind.wrap .i64 ((IntKind.wrap .i64 ((IntKind.wrap .i64 ((IntKind.wrap .i64 (0 + (IntKind.wrap .i64 b1))) * 256)) + (IntKind.wrap .i64 b0))) - 65536)) : Int) < (lo k))) = false) (h2 : (decide (((IntKind.wrap .i64 ((IntKind.wrap .i64 ((IntKind.wrap .i64 ((IntKind.wrap .i64 (0 + (IntKind.wrap .i64 b1))) * 256)) + (IntKind.wrap .i64 b0))) - 65536)) : Int) > (hi k))) = false) : OK cfg (.fn 13 []) [(.int .i64 k), (.sl 1 (some (0, 0)) 2)] [.cells false [(.int .u8 b0), (.int .u8 b1)]] (.tup [(.int .i64 (IntKind.wrap .i64 ((IntKind.wrap .i64 ((IntKind.wrap .i64 ((IntKind.wrap .i64 (0 + (IntKind.wrap .i64 b1))) * 256)) + (IntKind.wrap .i64 b0))) - 65536))), (.int .i64 0)]) [.cells false [(.int .u8 b0), (.int .u8 b1)], .dead, .dead] :=
  ok_fn' hmix (n := 40) (os := [.c, .c, .c, .r (.tup [(.int .i64 2), (.int .i64 (lo k)), (.int .i64 (hi k))]) [.cells false [(.int .u8 b0), (.int .u8 b1)], .dead], .c, .c, .c, .c, .c, .c, .c, .c, .c, .c, .c, .c, .c, .c, .c, .c, .c, .c, .c, .a, .c, .c, .c, .c, .c, .c, .c, .c, .c, .c, .c, .c, .c, .c, .c, .c, .c, .c, .c, .c, .c, .c, .c, .c, .c, .c, .c, .c, .c, .c, .c, .c, .c, .c, .c, .c, .t, .c, .c, .r (.int .i64 65536) [.cells false [(.int .u8 b0), (.int .u8 b1)], .dead, .dead], .c, .c, .c, .c, .c, .c, .t, .c, .c, .c, .c, .c, .c, .f, .c, .c, .c]) (by kernel_rfl) (And.intro (Eq.refl true) (And.intro (OK.pad (shape_is k 2 [.cells false [(.int .u8 b0), (.int .u8 b1)]] hz)) (And.intro (Eq.refl true) (And.intro (Eq.refl true) (And.intro (Eq.refl true) (And.intro (Eq.refl true) (And.intro (Eq.refl true) (And.intro (Eq.refl true) (And.intro (Eq.refl true) (And.intro (Eq.refl true) (And.intro (Eq.refl true) (And.intro (Eq.refl true) (And.intro (Eq.refl true) (And.intro (Eq.refl true) (And.intro (Eq.refl true) (And.intro h0 (And.intro (OK.pad (rg2_n_q_1 k b0 b1 hz)) (And.intro (Eq.refl true) (And.intro h1 (And.intro (Eq.refl true) (And.intro h2 (And.intro (Eq.refl true) (Eq.refl (((.tup [(.int .i64 (IntKind.wrap .i64 ((IntKind.wrap .i64 ((IntKind.wrap .i64 ((IntKind.wrap .i64 (0 + (IntKind.wrap .i64 b1))) * 256)) + (IntKind.wrap .i64 b0))) - 65536))), (.int .i64 0)]) : V), ([.cells false [(.int .u8 b0), (.int .u8 b1)], .dead, .dead] : Heap)))))))))))))))))))))))))


theorem rg4_o (k b0 b1 b2 b3 : Int) (hz : sz k = 4) (h0 : (decide (((IntKind.wrap .i64 ((IntKind.wrap .i64 ((IntKind.wrap .i64 ((IntKind.wrap .i64 ((IntKind.wrap .i64 ((IntKind.wrap .i64 ((IntKind.wrap .i64 (0 + (IntKind.wrap .i64 b3))) * 256)) + (IntKind.wrap .i64 b2))) * 256)) + (IntKind.wrap .i64 b1))) * 256)) + (IntKind.wrap .i64 b0))) : Int) > (hi k))) = false) (h1 : (decide (((IntKind.wrap .i64 ((IntKind.wrap .i64 ((IntKind.wrap .i64 ((IntKind.wrap .i64 ((IntKind.wrap .i64 ((IntKind.wrap .i64 ((IntKind.wrap .i64 (0 + (IntKind.wrap .i64 b3))) * 256)) + (IntKind.wrap .i64 b2))) * 256)) + (IntKind.wrap .i64 b1))) * 256)) + (IntKind.wrap .i64 b0))) : Int) < (lo k))) = false) : OK cfg (.fn 13 []) [(.int .i64 k), (.sl 1 (some (0, 0)) 4)] [.cells false [(.int .u8 b0), (.int .u8 b1), (.int .u8 b2), (.int .u8 b3)]] (.tup [(.int .i64 (IntKind.wrap .i64 ((IntKind.wrap .i64 ((IntKind.wrap .i64 ((IntKind.wrap .i64 ((IntKind.wrap .i64 ((IntKind.wrap .i64 ((IntKind.wrap .i64 (0 + (IntKind.wrap .i64 b3))) * 256)) + (IntKind.wrap .i64 b2))) * 256)) + (IntKind.wrap .i64 b1))) * 256)) + (IntKind.wrap .i64 b0)))), (.int .i64 0)]) [.cells false [(.int .u8 b0), (.int .u8 b1), (.int .u8 b2), (.int .u8 b3)], .dead] :=
  ok_fn' hmix (n := 40) (os := [.c, .c, .c, .r (.tup [(.int .i64 4), (.int .i64 (lo k)), (.int .i64 (hi k))]) [.cells false [(.int .u8 b0), (.int .u8 b1), (.int .u8 b2), (.int .u8 b3)], .dead], .c, .c, .c, .c, .c, .c, .c, .c, .c, .c, .c, .c, .c, .c, .c, .c, .c, .c, .c, .a, .c, .c, .c, .c, .c, .c, .c, .c, .c, .c, .c, .c, .c, .c, .c, .c, .c, .c, .c, .c, .c, .c, .c, .c, .c, .c, .c, .c, .c, .c, .c, .c, .c, .c, .c, .c, .c, .c, .c, .c, .c, .c, .c, .c, .c, .c, .c, .c, .c, .c, .c, .c, .c, .c, .c, .c, .c, .c, .c, .c, .c, .c, .c, .c, .c, .c, .f, .c, .c, .c, .c, .t, .c, .c, .c, .c, .c, .c, .f, .c, .c, .c]) (by kernel_rfl) (And.intro (Eq.refl true) (And.intro (OK.pad (shape_is k 4 [.cells false [(.int .u8 b0), (.int .u8 b1), (.int .u8 b2), (.int .u8 b3)]] hz)) (And.intro (Eq.refl true) (And.intro (Eq.refl true) (And.intro (Eq.refl true) (And.intro (Eq.refl true) (And.intro (Eq.refl true) (And.intro (Eq.refl true) (And.intro (Eq.refl true) (And.intro (Eq.refl true) (And.intro (Eq.refl true) (And.intro (Eq.refl true) (And.intro (Eq.refl true) (And.intro (Eq.refl true) (And.intro (Eq.refl true) (And.intro (Eq.refl true) (And.intro (Eq.refl true) (And.intro (Eq.refl true) (And.intro (Eq.refl true) (And.intro (Eq.refl true) (And.intro (Eq.refl true) (And.intro h0 (And.intro h1 (And.intro (Eq.refl true) (And.intro h0 (And.intro (Eq.refl true) (Eq.refl (((.tup [(.int .i64 (IntKind.wrap .i64 ((IntKind.wrap .i64 ((IntKind.wrap .i64 ((IntKind.wrap .i64 ((IntKind.wrap .i64 ((IntKind.wrap .i64 ((IntKind.wrap .i64 (0 + (IntKind.wrap .i64 b3))) * 256)) + (IntKind.wrap .i64 b2))) * 256)) + (IntKind.wrap .i64 b1))) * 256)) + (IntKind.wrap .i64 b0)))), (.int .i64 0)]) : V), ([.cells false [(.int .u8 b0), (.int .u8 b1), (.int .u8 b2), (.int .u8 b3)], .dead] : Heap)))))))))))))))))))))))))))))

theorem rg4_n_q_1 (k b0 b1 b2 b3 : Int) (hz : sz k = 4)  : OK cfg (.fn 41 []) [(.int .i64 4)] [.cells false [(.int .u8 b0), (.int .u8 b1), (.int .u8 b2), (.int .u8 b3)], .dead] (.int .i64 4294967296) [.cells false [(.int .u8 b0), (.int .u8 b1), (.int .u8 b2), (.int .u8 b3)], .dead] :=
  ok_fn' hmix (n := 40) (os := [.c, .c, .c, .a, .c, .c, .c, .c, .c, .c, .c, .c, .c, .c, .c, .c, .c, .c, .c, .c, .c, .c, .c, .c, .c, .c, .c, .c, .c, .c, .c, .c, .c, .c, .c, .c, .c, .c, .c, .c, .c, .c, .c, .c, .c, .c, .c, .c, .c, .c]) (by kernel_rfl) (And.intro (Eq.refl true) (And.intro (Eq.refl true) (And.intro (Eq.refl true) (And.intro (Eq.refl true) (And.intro (Eq.refl true) (And.intro (Eq.refl true) (And.intro (Eq.refl true) (And.intro (Eq.refl true) (And.intro (Eq.refl true) (And.intro (Eq.refl true) (And.intro (Eq.refl true) (And.intro (Eq.refl true) (And.intro (Eq.refl true) (And.intro (Eq.refl true) (And.intro (Eq.refl true) (And.intro (Eq.refl true) (And.intro (Eq.refl true) (Eq.refl (((.int .i64 4294967296) : V), ([.cells false [(.int .u8 b0), (.int .u8 b1), (.int .u8 b2), (.int .u8 b3)], .dead] : Heap))))))))))))))))))))

theorem rg4_n (k b0 b1 b2 b3 : Int) (hz : sz k = 4) (h0 : (decide (((IntKind.wrap .i64 ((IntKind.wrap .i64 ((IntKind.wrap .i64 ((IntKind.wrap .i64 ((IntKind.wrap .i64 ((IntKind.wrap .i64 ((IntKind.wrap .i64 (0 + (IntKind.wrap .i64 b3))) * 256)) + (IntKind.wrap .i64 b2))) * 256)) + (IntKind.wrap .i64 b1))) * 256)) + (IntKind.wrap .i64 b0))) : Int) > (hi k))) = true) (h1 : (decide (((IntKind.wrap .i64 ((IntKind.wrap .i64 ((IntKind.wrap .i64 ((IntKind.wrap .i64 ((IntKind.wrap .i64 ((IntKind.wrap .i64 ((IntKind.wrap .i64 ((IntKind.wrap .i64 (0 + (IntKind.wrap .i64 b3))) * 256)) + (IntKind.wrap .i64 b2))) * 256)) + (IntKind.wrap .i64 b1))) * 256)) + (IntKind.wrap .i64 b0))) - 4294967296)) : Int) < (lo k))) = false) (h2 : (decide (((IntKind.wrap .i64 ((IntKind.wrap .i64 ((IntKind.wrap .i64 ((IntKind.wrap .i64 ((IntKind.wrap .i64 ((IntKind.wrap .i64 ((IntKind.wrap .i64 ((IntKind.wrap .i64 (0 + (IntKind.wrap .i64 b3))) * 256)) + (IntKind.wrap .i64 b2))) * 256)) + (IntKind.wrap .i64 b1))) * 256)) + (IntKind.wrap .i64 b0))) - 4294967296)) : Int) > (hi k))) = false) : OK cfg (.fn 13 []) [(.int .i64 k), (.sl 1 (some (0, 0)) 4)] [.cells false [(.int .u8 b0), (.int .u8 b1), (.int .u8 b2), (.int .u8 b3)]] (.tup [(.int .i64 (IntKind.wrap .i64 ((IntKind.wrap .i64 ((IntKind.wrap .i64 ((IntKind.wrap .i64 ((IntKind.wrap .i64 ((IntKind.wrap .i64 ((IntKind.wrap .i64 ((IntKind.wrap .i64 (0 + (IntKind.wrap .i64 b3))) * 256)) + (IntKind.wrap .i64 b2))) * 256)) + (IntKind.wrap .i64 b1))) * 256)) + (IntKind.wrap .i64 b0))) - 4294967296))), (.int .i64 0)]) [.cells false [(.int .u8 b0), (.int .u8 b1), (.int .u8 b2), (.int .u8 b3)], .dead, .dead] :=
  ok_fn' hmix (n := 40) (os := [.c, .c, .c, .r (.tup [(.int .i64 4), (.int .i64 (lo k)), (.int .i64 (hi k))]) [.cells false [(.int .u8 b0), (.int .u8 b1), (.int .u8 b2), (.int .u8 b3)], .dead], .c, .c, .c, .c, .c, .c, .c, .c, .c, .c, .c, .c, .c, .c, .c, .c, .c, .c, .c, .a, .c, .c, .c, .c, .c, .c, .c, .c, .c, .c, .c, .c, .c, .c, .c, .c, .c, .c, .c, .c, .c, .c, .c, .c, .c, .c, .c, .c, .c, .c, .c, .c, .c, .c, .c, .c, .c, .c, .c, .c, .c, .c, .c, .c, .c, .c, .c, .c, .c, .c, .c, .c, .c, .c, .c, .c, .c, .c, .c, .c, .c, .c, .c, .c, .c, .c, .t, .c, .c, .r (.int .i64 4294967296) [.cells false [(.int .u8 b0), (.int .u8 b1), (.int .u8 b2), (.int .u8 b3)], .dead, .dead], .c, .c, .c, .c, .c, .c, .t, .c, .c, .c, .c, .c, .c, .f, .c, .c, .c]) (by kernel_rfl) (And.intro (Eq.refl true) (And.intro (OK.pad (shape_is k 4 [.cells false [(.int .u8 b0), (.int .u8 b1), (.int .u8 b2), (.int .u8 b3)]] hz)) (And.intro (Eq.refl true) (And.intro (Eq.refl true) (And.intro (Eq.refl true) (And.intro (Eq.refl true) (And.intro (Eq.refl true) (And.intro (Eq.refl true) (And.intro (Eq.refl true) (And.intro (Eq.refl true) (And.intro (Eq.refl true) (And.intro (Eq.refl true) (And.intro (Eq.refl true) (And.intro (Eq.refl true) (And.intro (Eq.refl true) (And.intro (Eq.refl true) (And.intro (Eq.refl true) (And.intro (Eq.refl true) (And.intro (Eq.refl true) (And.intro (Eq.refl true) (And.intro (Eq.refl true) (And.intro h0 (And.intro (OK.pad (rg4_n_q_1 k b0 b1 b2 b3 hz)) (And.intro (Eq.refl true) (And.intro h1 (And.intro (Eq.refl true) (And.intro h2 (And.intro (Eq.refl true) (Eq.refl (((.tup [(.int .i64 (IntKind.wrap .i64 ((IntKind.wrap .i64 ((IntKind.wrap .i64 ((IntKind.wrap .i64 ((IntKind.wrap .i64 ((IntKind.wrap .i64 ((IntKind.wrap .i64 ((IntKind.wrap .i64 (0 + (IntKind.wrap .i64 b3))) * 256)) + (IntKind.wrap .i64 b2))) * 256)) + (IntKind.wrap .i64 b1))) * 256)) + (IntKind.wrap .i64 b0))) - 4294967296))), (.int .i64 0)]) : V), ([.cells false [(.int .u8 b0), (.int .u8 b1), (.int .u8 b2), (.int .u8 b3)], .dead, .dead] : Heap)))))))))))))))))))))))))))))))


theorem rg_z (k : Int) (l : List Int) (hz : sz k = 0)  : OK cfg (.fn 13 []) [(.int .i64 k), (.sl 1 (some (0, 0)) l.length)] [.cells false ((l).map (V.int .u8))] (.tup [(.int .i64 0), (.int .i64 2)]) [.cells false ((l).map (V.int .u8)), .dead] :=
  ok_fn' hmix (n := 40) (os := [.c, .c, .c, .r (.tup [(.int .i64 0), (.int .i64 (lo k)), (.int .i64 (hi k))]) [.cells false ((l).map (V.int .u8)), .dead], .c, .c, .c, .c, .c, .c, .c, .c, .c, .c, .c, .c]) (by kernel_rfl) (And.intro (Eq.refl true) (And.intro (OK.pad (shape_is k 0 [.cells false ((l).map (V.int .u8))] hz)) (And.intro (Eq.refl true) (And.intro (Eq.refl true) (And.intro (Eq.refl true) (Eq.refl (((.tup [(.int .i64 0), (.int .i64 2)]) : V), ([.cells false ((l).map (V.int .u8)), .dead] : Heap))))))))


theorem rg_l (k : Int) (l : List Int) (h0 : (((sz k) : Int) == 0) = false) (h1 : ((((l.length : Nat) : Int) : Int) != (sz k)) = true) : OK cfg (.fn 13 []) [(.int .i64 k), (.sl 1 (some (0, 0)) l.length)] [.cells false ((l).map (V.int .u8))] (.tup [(.int .i64 0), (.int .i64 11)]) [.cells false ((l).map (V.int .u8)), .dead] :=
  ok_fn' hmix (n := 40) (os := [.c, .c, .c, .r (.tup [(.int .i64 (sz k)), (.int .i64 (lo k)), (.int .i64 (hi k))]) [.cells false ((l).map (V.int .u8)), .dead], .c, .c, .c, .c, .c, .c, .c, .c, .c, .f, .c, .c, .c, .c, .t, .c, .c]) (by kernel_rfl) (And.intro (Eq.refl true) (And.intro (OK.pad (shape_ok k [.cells false ((l).map (V.int .u8))])) (And.intro (Eq.refl true) (And.intro (Eq.refl true) (And.intro h0 (And.intro (Eq.refl true) (And.intro h1 (And.intro (Eq.refl true) (Eq.refl (((.tup [(.int .i64 0), (.int .i64 11)]) : V), ([.cells false ((l).map (V.int .u8)), .dead] : Heap)))))))))))

def gotm (k m : Int) : Int × Int := if fits k (adj k m) then (adj k m, 0) else (0, 4)
theorem lo_le (k : Int) : lo k ≤ 0 := by unfold lo; repeat' split <;> try omega
theorem sg_lo (k : Int) (h : sg k = false) : lo k = 0 := by
  unfold sg at h
  simp only [Bool.or_eq_false_iff, beq_eq_false_iff_ne] at h
  unfold lo
  rw [if_neg h.1.1, if_neg h.1.2, if_neg h.2]
theorem gotm_o (k m : Int) (hp : 0 < sz k) (h0 : 0 ≤ m) (h : ¬ m > hi k) : gotm k m = (m, 0) := by
  have ha : adj k m = m := if_neg fun h' => h h'.2
  have := lo_le k
  unfold gotm
  rw [ha, if_pos (by unfold fits; simp; omega)]
theorem gotm_n (k m : Int) (hp : 0 < sz k) (hm : m < pw k) (h : m > hi k) (h2 : ¬ m - pw k < lo k) (h3 : ¬ m - pw k > hi k) : gotm k m = (m - pw k, 0) := by
  have hs : sg k = true := by
    cases e : sg k with
    | true => rfl
    | false => have := sg_lo k e; omega
  have ha : adj k m = m - pw k := if_pos ⟨hs, h⟩
  unfold gotm
  rw [ha, if_pos (by unfold fits; simp; omega)]
theorem gotm_f (k m : Int) (h : m > hi k) (h2 : m - pw k < lo k) : gotm k m = (0, 4) := by
  unfold gotm
  rw [if_neg]
  unfold fits adj
  split
  · simp; omega
  · simp; omega
theorem gotm_3 (k m : Int) (hm : m < pw k) (hk : ¬ k = 1) (hp : 0 < sz k) (h0 : 0 ≤ m) (h : m > hi k) : ¬ m - pw k < lo k ∧ ¬ m - pw k > hi k := by
  by_cases h2 : k = 2
  · subst h2; simp [hi, pw, sz, lo] at *; omega
  by_cases h3 : k = 3
  · subst h3; simp [hi, pw, sz, lo] at *; omega
  by_cases h4 : k = 4
  · subst h4; simp [hi, pw, sz, lo] at *; omega
  by_cases h5 : k = 5
  · subst h5; simp [hi, pw, sz, lo] at *; omega
  by_cases h6 : k = 6
  · subst h6; simp [hi, pw, sz, lo] at *; omega
  by_cases h7 : k = 7
  · subst h7; simp [hi, pw, sz, lo] at *; omega
  exfalso
  simp [sz, hk, h2, h3, h4, h5, h6, h7] at hp
theorem gotm_1 (m : Int) (hm : m < pw 1) (h0 : 0 ≤ m) : m - pw 1 < lo 1 := by simp [pw, sz, lo] at *; omega
theorem rget_ok1 (k b0 : Int) (hz : sz k = 1) (hb : okb [b0]) : OK cfg (.fn 13 []) [.int .i64 k, .sl 1 (some (0, 0)) 1] [.cells false [.int .u8 b0]] (.tup [.int .i64 (gets k [b0]).1, .int .i64 (gets k [b0]).2]) [.cells false [.int .u8 b0]] := by
  have h_b0 := hb b0 (by simp)
  have e : ((IntKind.wrap .i64 (0 + (IntKind.wrap .i64 b0))) : Int) = num [b0] := by
    simp only [IntKind.wrap_i64, num]
    omega
  have hN : 0 ≤ num [b0] ∧ num [b0] < 256 := by simp only [num]; omega
  have hg : gets k [b0] = gotm k (num [b0]) := by unfold gets; rw [if_neg (by omega), if_pos (by rw [hz]; rfl)]; rfl
  have hp : pw k = 256 := by simp [pw, hz]
  have hw : IntKind.wrap .i64 (num [b0] - 256) = num [b0] - 256 := wrap_i64 (by omega)
  rw [hg]
  by_cases hh : num [b0] > hi k
  · by_cases h1 : k = 1
    · subst h1
      have hlo := gotm_1 (num [b0]) (by omega) hN.1
      rw [gotm_f 1 _ hh hlo]
      exact OK.ro1 (rg1_f 1 b0 hz (by rw [e]; exact decide_eq_true hh) (by rw [e, hw, ← hp]; exact decide_eq_true hlo)) (by rfl) rfl rfl
    · obtain ⟨n1, n2⟩ := gotm_3 k (num [b0]) (by omega) h1 (by omega) hN.1 hh
      rw [gotm_n k _ (by omega) (by omega) hh n1 n2]
      exact OK.ro1 (OK.eqv (rg1_n k b0 hz (by rw [e]; exact decide_eq_true hh) (by rw [e, hw, ← hp]; exact decide_eq_false n1) (by rw [e, hw, ← hp]; exact decide_eq_false n2)) (by rw [e, hw, hp])) (by rfl) rfl rfl
  · rw [gotm_o k _ (by omega) hN.1 hh]
    exact OK.ro1 (OK.eqv (rg1_o k b0 hz (by rw [e]; exact decide_eq_false hh) (by rw [e]; have := lo_le k; exact decide_eq_false (by omega))) (by rw [e])) (by rfl) rfl rfl

theorem rget_ok2 (k b0 b1 : Int) (hz : sz k = 2) (hb : okb [b0, b1]) : OK cfg (.fn 13 []) [.int .i64 k, .sl 1 (some (0, 0)) 2] [.cells false [.int .u8 b0, .int .u8 b1]] (.tup [.int .i64 (gets k [b0, b1]).1, .int .i64 (gets k [b0, b1]).2]) [.cells false [.int .u8 b0, .int .u8 b1]] := by
  have h_b0 := hb b0 (by simp)
  have h_b1 := hb b1 (by simp)
  have e : ((IntKind.wrap .i64 ((IntKind.wrap .i64 ((IntKind.wrap .i64 (0 + (IntKind.wrap .i64 b1))) * 256)) + (IntKind.wrap .i64 b0))) : Int) = num [b0, b1] := by
    simp only [IntKind.wrap_i64, num]
    omega
  have hN : 0 ≤ num [b0, b1] ∧ num [b0, b1] < 65536 := by simp only [num]; omega
  have hg : gets k [b0, b1] = gotm k (num [b0, b1]) := by unfold gets; rw [if_neg (by omega), if_pos (by rw [hz]; rfl)]; rfl
  have hp : pw k = 65536 := by simp [pw, hz]
  have hw : IntKind.wrap .i64 (num [b0, b1] - 65536) = num [b0, b1] - 65536 := wrap_i64 (by omega)
  rw [hg]
  by_cases hh : num [b0, b1] > hi k
  · by_cases h1 : k = 1
    · subst h1
      have hlo := gotm_1 (num [b0, b1]) (by omega) hN.1
      rw [gotm_f 1 _ hh hlo]
      simp [sz] at hz
    · obtain ⟨n1, n2⟩ := gotm_3 k (num [b0, b1]) (by omega) h1 (by omega) hN.1 hh
      rw [gotm_n k _ (by omega) (by omega) hh n1 n2]
      exact OK.ro1 (OK.eqv (rg2_n k b0 b1 hz (by rw [e]; exact decide_eq_true hh) (by rw [e, hw, ← hp]; exact decide_eq_false n1) (by rw [e, hw, ← hp]; exact decide_eq_false n2)) (by rw [e, hw, hp])) (by rfl) rfl rfl
  · rw [gotm_o k _ (by omega) hN.1 hh]
    exact OK.ro1 (OK.eqv (rg2_o k b0 b1 hz (by rw [e]; exact decide_eq_false hh) (by rw [e]; have := lo_le k; exact decide_eq_false (by omega))) (by rw [e])) (by rfl) rfl rfl

theorem rget_ok4 (k b0 b1 b2 b3 : Int) (hz : sz k = 4) (hb : okb [b0, b1, b2, b3]) : OK cfg (.fn 13 []) [.int .i64 k, .sl 1 (some (0, 0)) 4] [.cells false [.int .u8 b0, .int .u8 b1, .int .u8 b2, .int .u8 b3]] (.tup [.int .i64 (gets k [b0, b1, b2, b3]).1, .int .i64 (gets k [b0, b1, b2, b3]).2]) [.cells false [.int .u8 b0, .int .u8 b1, .int .u8 b2, .int .u8 b3]] := by
  have h_b0 := hb b0 (by simp)
  have h_b1 := hb b1 (by simp)
  have h_b2 := hb b2 (by simp)
  have h_b3 := hb b3 (by simp)
  have e : ((IntKind.wrap .i64 ((IntKind.wrap .i64 ((IntKind.wrap .i64 ((IntKind.wrap .i64 ((IntKind.wrap .i64 ((IntKind.wrap .i64 ((IntKind.wrap .i64 (0 + (IntKind.wrap .i64 b3))) * 256)) + (IntKind.wrap .i64 b2))) * 256)) + (IntKind.wrap .i64 b1))) * 256)) + (IntKind.wrap .i64 b0))) : Int) = num [b0, b1, b2, b3] := by
    simp only [IntKind.wrap_i64, num]
    omega
  have hN : 0 ≤ num [b0, b1, b2, b3] ∧ num [b0, b1, b2, b3] < 4294967296 := by simp only [num]; omega
  have hg : gets k [b0, b1, b2, b3] = gotm k (num [b0, b1, b2, b3]) := by unfold gets; rw [if_neg (by omega), if_pos (by rw [hz]; rfl)]; rfl
  have hp : pw k = 4294967296 := by simp [pw, hz]
  have hw : IntKind.wrap .i64 (num [b0, b1, b2, b3] - 4294967296) = num [b0, b1, b2, b3] - 4294967296 := wrap_i64 (by omega)
  rw [hg]
  by_cases hh : num [b0, b1, b2, b3] > hi k
  · by_cases h1 : k = 1
    · subst h1
      have hlo := gotm_1 (num [b0, b1, b2, b3]) (by omega) hN.1
      rw [gotm_f 1 _ hh hlo]
      simp [sz] at hz
    · obtain ⟨n1, n2⟩ := gotm_3 k (num [b0, b1, b2, b3]) (by omega) h1 (by omega) hN.1 hh
      rw [gotm_n k _ (by omega) (by omega) hh n1 n2]
      exact OK.ro1 (OK.eqv (rg4_n k b0 b1 b2 b3 hz (by rw [e]; exact decide_eq_true hh) (by rw [e, hw, ← hp]; exact decide_eq_false n1) (by rw [e, hw, ← hp]; exact decide_eq_false n2)) (by rw [e, hw, hp])) (by rfl) rfl rfl
  · rw [gotm_o k _ (by omega) hN.1 hh]
    exact OK.ro1 (OK.eqv (rg4_o k b0 b1 b2 b3 hz (by rw [e]; exact decide_eq_false hh) (by rw [e]; have := lo_le k; exact decide_eq_false (by omega))) (by rw [e])) (by rfl) rfl rfl

theorem rget_ok (k : Int) (l : List Int) (hb : okb l) : OK cfg (.fn 13 []) [.int .i64 k, .sl 1 (some (0, 0)) l.length] [.cells false (l.map (V.int .u8))] (.tup [.int .i64 (gets k l).1, .int .i64 (gets k l).2]) [.cells false (l.map (V.int .u8))] := by
  by_cases h0 : sz k = 0
  · rw [show gets k l = (0, 2) by unfold gets; rw [if_pos h0]]
    exact OK.ro1 (rg_z k l h0) (plains_map _ (fun _ => rfl) _) rfl rfl
  by_cases h1 : (l.length : Int) = sz k
  · rcases sz_cases k with e | e | e | e
    · omega
    · match l, hb, h1 with
      | [a], hb, _ => exact rget_ok1 k a e hb
      | [], _, h1 => simp at h1; omega
      | _ :: _ :: _, _, h1 => simp at h1; omega
    · match l, hb, h1 with
      | [a, b], hb, _ => exact rget_ok2 k a b e hb
      | [], _, h1 => simp at h1; omega
      | [_], _, h1 => simp at h1; omega
      | _ :: _ :: _ :: _, _, h1 => simp at h1; omega
    · match l, hb, h1 with
      | [a, b, c, d], hb, _ => exact rget_ok4 k a b c d e hb
      | [], _, h1 => simp at h1; omega
      | [_], _, h1 => simp at h1; omega
      | [_, _], _, h1 => simp at h1; omega
      | [_, _, _], _, h1 => simp at h1; omega
      | _ :: _ :: _ :: _ :: _ :: _, _, h1 => simp at h1; omega
  · rw [show gets k l = (0, 11) by unfold gets; rw [if_neg h0, if_neg h1]]
    exact OK.ro1 (rg_l k l (by simpa using h0) (by simpa using h1)) (plains_map _ (fun _ => rfl) _) rfl rfl

end Go.Proofs.Yteljlgjofmbniaa.words
