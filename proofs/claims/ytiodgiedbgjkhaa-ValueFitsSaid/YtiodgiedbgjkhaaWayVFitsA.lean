/-
  The reference's way to get a number: ways printed by ps.py, checked by the kernel.
-/
import Derived.Test.YtiodgiedbgjkhaaWayValueBytes
set_option linter.unusedVariables false
set_option linter.unusedSimpArgs false
set_option maxRecDepth 100000
namespace Go.Proofs.Ytiodgiedbgjkhaa.values
open Go Go.Vm
theorem shape_is' (k n : Int) (H : Heap) (h : sz k = n) : OK cfg (.fn 117 []) [.int .i64 k] H (.tup [.int .i64 n, .int .i64 (lo k), .int .i64 (hi k)]) H := h ▸ shape_ok k H
theorem sz_of {k n : Int} (h : sz k = n) (hn : n ≠ 0) : (n = 1 ∧ (k = 1 ∨ k = 2 ∨ k = 5)) ∨ (n = 2 ∧ (k = 3 ∨ k = 6)) ∨ (n = 4 ∧ (k = 4 ∨ k = 7)) := by
  unfold sz at h
  repeat' split at h
  all_goals omega

theorem rget_z (k : Int) (l : List Int) (hz : sz k = 0)  : OK cfg (.fn 123 []) [(.int .i64 k), (.sl 1 (some (0, 0)) l.length)] [.cells false ((l).map (V.int .u8))] (.tup [(.int .i64 0), (.int .i64 2)]) [.cells false ((l).map (V.int .u8)), .dead] :=
  ok_fn hmix (n := 40) (os := [.c, .c, .c, .r (.tup [(.int .i64 0), (.int .i64 (lo k)), (.int .i64 (hi k))]) [.cells false ((l).map (V.int .u8)), .dead], .c, .c, .c, .c, .c, .c, .c, .c, .c, .c, .c, .c]) (Eq.mp (by kernel_rfl) (And.intro (Eq.refl true) (And.intro (OK.pad (shape_is' k 0 [.cells false ((l).map (V.int .u8))] hz)) (And.intro (Eq.refl true) (And.intro (Eq.refl true) (And.intro (Eq.refl true) (Eq.refl (((.tup [(.int .i64 0), (.int .i64 2)]) : V), ([.cells false ((l).map (V.int .u8)), .dead] : Heap)))))))))

theorem rget_l (k : Int) (l : List Int) (h0 : (((sz k) : Int) == 0) = false) (h1 : ((((l.length : Nat) : Int) : Int) != (sz k)) = true) : OK cfg (.fn 123 []) [(.int .i64 k), (.sl 1 (some (0, 0)) l.length)] [.cells false ((l).map (V.int .u8))] (.tup [(.int .i64 0), (.int .i64 11)]) [.cells false ((l).map (V.int .u8)), .dead] :=
  ok_fn hmix (n := 40) (os := [.c, .c, .c, .r (.tup [(.int .i64 (sz k)), (.int .i64 (lo k)), (.int .i64 (hi k))]) [.cells false ((l).map (V.int .u8)), .dead], .c, .c, .c, .c, .c, .c, .c, .c, .c, .f, .c, .c, .c, .c, .t, .c, .c]) (Eq.mp (by kernel_rfl) (And.intro (Eq.refl true) (And.intro (OK.pad (shape_ok k [.cells false ((l).map (V.int .u8))])) (And.intro (Eq.refl true) (And.intro (Eq.refl true) (And.intro h0 (And.intro (Eq.refl true) (And.intro h1 (And.intro (Eq.refl true) (Eq.refl (((.tup [(.int .i64 0), (.int .i64 11)]) : V), ([.cells false ((l).map (V.int .u8)), .dead] : Heap))))))))))))


theorem rget1a (k b0 : Int) (hz : sz k = 1) (h0 : (decide (((IntKind.wrap .i64 (0 + (IntKind.wrap .i64 b0))) : Int) > (hi k))) = false) (h1 : (decide (((IntKind.wrap .i64 (0 + (IntKind.wrap .i64 b0))) : Int) < (lo k))) = false) : OK cfg (.fn 123 []) [(.int .i64 k), (.sl 1 (some (0, 0)) 1)] [.cells false [(.int .u8 b0)]] (.tup [(.int .i64 (IntKind.wrap .i64 (0 + (IntKind.wrap .i64 b0)))), (.int .i64 0)]) [.cells false [(.int .u8 b0)], .dead] :=
  ok_fn hmix (n := 40) (os := [.c, .c, .c, .r (.tup [(.int .i64 1), (.int .i64 (lo k)), (.int .i64 (hi k))]) [.cells false [(.int .u8 b0)], .dead], .c, .c, .c, .c, .c, .c, .c, .c, .c, .c, .c, .c, .c, .c, .c, .c, .c, .c, .c, .a, .c, .c, .c, .c, .c, .c, .c, .c, .c, .c, .c, .c, .c, .c, .c, .c, .c, .c, .c, .c, .c, .f, .c, .c, .c, .c, .t, .c, .c, .c, .c, .c, .c, .f, .c, .c, .c]) (Eq.mp (by kernel_rfl) (And.intro (Eq.refl true) (And.intro (OK.pad (shape_is' k 1 [.cells false [(.int .u8 b0)]] hz)) (And.intro (Eq.refl true) (And.intro (Eq.refl true) (And.intro (Eq.refl true) (And.intro (Eq.refl true) (And.intro (Eq.refl true) (And.intro (Eq.refl true) (And.intro (Eq.refl true) (And.intro (Eq.refl true) (And.intro (Eq.refl true) (And.intro (Eq.refl true) (And.intro h0 (And.intro h1 (And.intro (Eq.refl true) (And.intro h0 (And.intro (Eq.refl true) (Eq.refl (((.tup [(.int .i64 (IntKind.wrap .i64 (0 + (IntKind.wrap .i64 b0)))), (.int .i64 0)]) : V), ([.cells false [(.int .u8 b0)], .dead] : Heap)))))))))))))))))))))

theorem rget1b_q_1 (k b0 : Int) (hz : sz k = 1)  : OK cfg (.fn 152 []) [(.int .i64 1)] [.cells false [(.int .u8 b0)], .dead] (.int .i64 256) [.cells false [(.int .u8 b0)], .dead] :=
  ok_fn hmix (n := 40) (os := [.c, .c, .c, .a, .c, .c, .c, .c, .c, .c, .c, .c, .c, .c, .c, .c, .c, .c, .c, .c]) (Eq.mp (by kernel_rfl) (And.intro (Eq.refl true) (And.intro (Eq.refl true) (And.intro (Eq.refl true) (And.intro (Eq.refl true) (And.intro (Eq.refl true) (And.intro (Eq.refl true) (And.intro (Eq.refl true) (And.intro (Eq.refl true) (Eq.refl (((.int .i64 256) : V), ([.cells false [(.int .u8 b0)], .dead] : Heap))))))))))))

theorem rget1b (k b0 : Int) (hz : sz k = 1) (h0 : (decide (((IntKind.wrap .i64 (0 + (IntKind.wrap .i64 b0))) : Int) > (hi k))) = true) (h1 : (decide (((IntKind.wrap .i64 ((IntKind.wrap .i64 (0 + (IntKind.wrap .i64 b0))) - 256)) : Int) < (lo k))) = false) (h2 : (decide (((IntKind.wrap .i64 ((IntKind.wrap .i64 (0 + (IntKind.wrap .i64 b0))) - 256)) : Int) > (hi k))) = false) : OK cfg (.fn 123 []) [(.int .i64 k), (.sl 1 (some (0, 0)) 1)] [.cells false [(.int .u8 b0)]] (.tup [(.int .i64 (IntKind.wrap .i64 ((IntKind.wrap .i64 (0 + (IntKind.wrap .i64 b0))) - 256))), (.int .i64 0)]) [.cells false [(.int .u8 b0)], .dead, .dead] :=
  ok_fn hmix (n := 40) (os := [.c, .c, .c, .r (.tup [(.int .i64 1), (.int .i64 (lo k)), (.int .i64 (hi k))]) [.cells false [(.int .u8 b0)], .dead], .c, .c, .c, .c, .c, .c, .c, .c, .c, .c, .c, .c, .c, .c, .c, .c, .c, .c, .c, .a, .c, .c, .c, .c, .c, .c, .c, .c, .c, .c, .c, .c, .c, .c, .c, .c, .c, .c, .c, .c, .c, .t, .c, .c, .r (.int .i64 256) [.cells false [(.int .u8 b0)], .dead, .dead], .c, .c, .c, .c, .c, .c, .t, .c, .c, .c, .c, .c, .c, .f, .c, .c, .c]) (Eq.mp (by kernel_rfl) (And.intro (Eq.refl true) (And.intro (OK.pad (shape_is' k 1 [.cells false [(.int .u8 b0)]] hz)) (And.intro (Eq.refl true) (And.intro (Eq.refl true) (And.intro (Eq.refl true) (And.intro (Eq.refl true) (And.intro (Eq.refl true) (And.intro (Eq.refl true) (And.intro (Eq.refl true) (And.intro (Eq.refl true) (And.intro (Eq.refl true) (And.intro (Eq.refl true) (And.intro h0 (And.intro (OK.pad (rget1b_q_1 k b0 hz)) (And.intro (Eq.refl true) (And.intro h1 (And.intro (Eq.refl true) (And.intro h2 (And.intro (Eq.refl true) (Eq.refl (((.tup [(.int .i64 (IntKind.wrap .i64 ((IntKind.wrap .i64 (0 + (IntKind.wrap .i64 b0))) - 256))), (.int .i64 0)]) : V), ([.cells false [(.int .u8 b0)], .dead, .dead] : Heap)))))))))))))))))))))))

theorem rget1c_q_1 (k b0 : Int) (hz : sz k = 1)  : OK cfg (.fn 152 []) [(.int .i64 1)] [.cells false [(.int .u8 b0)], .dead] (.int .i64 256) [.cells false [(.int .u8 b0)], .dead] :=
  ok_fn hmix (n := 40) (os := [.c, .c, .c, .a, .c, .c, .c, .c, .c, .c, .c, .c, .c, .c, .c, .c, .c, .c, .c, .c]) (Eq.mp (by kernel_rfl) (And.intro (Eq.refl true) (And.intro (Eq.refl true) (And.intro (Eq.refl true) (And.intro (Eq.refl true) (And.intro (Eq.refl true) (And.intro (Eq.refl true) (And.intro (Eq.refl true) (And.intro (Eq.refl true) (Eq.refl (((.int .i64 256) : V), ([.cells false [(.int .u8 b0)], .dead] : Heap))))))))))))

theorem rget1c (k b0 : Int) (hz : sz k = 1) (h0 : (decide (((IntKind.wrap .i64 (0 + (IntKind.wrap .i64 b0))) : Int) > (hi k))) = true) (h1 : (decide (((IntKind.wrap .i64 ((IntKind.wrap .i64 (0 + (IntKind.wrap .i64 b0))) - 256)) : Int) < (lo k))) = true) : OK cfg (.fn 123 []) [(.int .i64 k), (.sl 1 (some (0, 0)) 1)] [.cells false [(.int .u8 b0)]] (.tup [(.int .i64 0), (.int .i64 4)]) [.cells false [(.int .u8 b0)], .dead, .dead] :=
  ok_fn hmix (n := 40) (os := [.c, .c, .c, .r (.tup [(.int .i64 1), (.int .i64 (lo k)), (.int .i64 (hi k))]) [.cells false [(.int .u8 b0)], .dead], .c, .c, .c, .c, .c, .c, .c, .c, .c, .c, .c, .c, .c, .c, .c, .c, .c, .c, .c, .a, .c, .c, .c, .c, .c, .c, .c, .c, .c, .c, .c, .c, .c, .c, .c, .c, .c, .c, .c, .c, .c, .t, .c, .c, .r (.int .i64 256) [.cells false [(.int .u8 b0)], .dead, .dead], .c, .c, .c, .c, .c, .c, .f, .c, .c, .c, .c, .c, .c]) (Eq.mp (by kernel_rfl) (And.intro (Eq.refl true) (And.intro (OK.pad (shape_is' k 1 [.cells false [(.int .u8 b0)]] hz)) (And.intro (Eq.refl true) (And.intro (Eq.refl true) (And.intro (Eq.refl true) (And.intro (Eq.refl true) (And.intro (Eq.refl true) (And.intro (Eq.refl true) (And.intro (Eq.refl true) (And.intro (Eq.refl true) (And.intro (Eq.refl true) (And.intro (Eq.refl true) (And.intro h0 (And.intro (OK.pad (rget1c_q_1 k b0 hz)) (And.intro (Eq.refl true) (And.intro h1 (And.intro (Eq.refl true) (And.intro (Eq.refl true) (Eq.refl (((.tup [(.int .i64 0), (.int .i64 4)]) : V), ([.cells false [(.int .u8 b0)], .dead, .dead] : Heap))))))))))))))))))))))


theorem rget2a (k b0 b1 : Int) (hz : sz k = 2) (h0 : (decide (((IntKind.wrap .i64 ((IntKind.wrap .i64 ((IntKind.wrap .i64 (0 + (IntKind.wrap .i64 b1))) * 256)) + (IntKind.wrap .i64 b0))) : Int) > (hi k))) = false) (h1 : (decide (((IntKind.wrap .i64 ((IntKind.wrap .i64 ((IntKind.wrap .i64 (0 + (IntKind.wrap .i64 b1))) * 256)) + (IntKind.wrap .i64 b0))) : Int) < (lo k))) = false) : OK cfg (.fn 123 []) [(.int .i64 k), (.sl 1 (some (0, 0)) 2)] [.cells false [(.int .u8 b0), (.int .u8 b1)]] (.tup [(.int .i64 (IntKind.wrap .i64 ((IntKind.wrap .i64 ((IntKind.wrap .i64 (0 + (IntKind.wrap .i64 b1))) * 256)) + (IntKind.wrap .i64 b0)))), (.int .i64 0)]) [.cells false [(.int .u8 b0), (.int .u8 b1)], .dead] :=
  ok_fn hmix (n := 40) (os := [.c, .c, .c, .r (.tup [(.int .i64 2), (.int .i64 (lo k)), (.int .i64 (hi k))]) [.cells false [(.int .u8 b0), (.int .u8 b1)], .dead], .c, .c, .c, .c, .c, .c, .c, .c, .c, .c, .c, .c, .c, .c, .c, .c, .c, .c, .c, .a, .c, .c, .c, .c, .c, .c, .c, .c, .c, .c, .c, .c, .c, .c, .c, .c, .c, .c, .c, .c, .c, .c, .c, .c, .c, .c, .c, .c, .c, .c, .c, .c, .c, .c, .c, .c, .f, .c, .c, .c, .c, .t, .c, .c, .c, .c, .c, .c, .f, .c, .c, .c]) (Eq.mp (by kernel_rfl) (And.intro (Eq.refl true) (And.intro (OK.pad (shape_is' k 2 [.cells false [(.int .u8 b0), (.int .u8 b1)]] hz)) (And.intro (Eq.refl true) (And.intro (Eq.refl true) (And.intro (Eq.refl true) (And.intro (Eq.refl true) (And.intro (Eq.refl true) (And.intro (Eq.refl true) (And.intro (Eq.refl true) (And.intro (Eq.refl true) (And.intro (Eq.refl true) (And.intro (Eq.refl true) (And.intro (Eq.refl true) (And.intro (Eq.refl true) (And.intro (Eq.refl true) (And.intro h0 (And.intro h1 (And.intro (Eq.refl true) (And.intro h0 (And.intro (Eq.refl true) (Eq.refl (((.tup [(.int .i64 (IntKind.wrap .i64 ((IntKind.wrap .i64 ((IntKind.wrap .i64 (0 + (IntKind.wrap .i64 b1))) * 256)) + (IntKind.wrap .i64 b0)))), (.int .i64 0)]) : V), ([.cells false [(.int .u8 b0), (.int .u8 b1)], .dead] : Heap))))))))))))))))))))))))

theorem rget2b_q_1 (k b0 b1 : Int) (hz : sz k = 2)  : OK cfg (.fn 152 []) [(.int .i64 2)] [.cells false [(.int .u8 b0), (.int .u8 b1)], .dead] (.int .i64 65536) [.cells false [(.int .u8 b0), (.int .u8 b1)], .dead] :=
  ok_fn hmix (n := 40) (os := [.c, .c, .c, .a, .c, .c, .c, .c, .c, .c, .c, .c, .c, .c, .c, .c, .c, .c, .c, .c, .c, .c, .c, .c, .c, .c, .c, .c, .c, .c]) (Eq.mp (by kernel_rfl) (And.intro (Eq.refl true) (And.intro (Eq.refl true) (And.intro (Eq.refl true) (And.intro (Eq.refl true) (And.intro (Eq.refl true) (And.intro (Eq.refl true) (And.intro (Eq.refl true) (And.intro (Eq.refl true) (And.intro (Eq.refl true) (And.intro (Eq.refl true) (And.intro (Eq.refl true) (Eq.refl (((.int .i64 65536) : V), ([.cells false [(.int .u8 b0), (.int .u8 b1)], .dead] : Heap)))))))))))))))

theorem rget2b (k b0 b1 : Int) (hz : sz k = 2) (h0 : (decide (((IntKind.wrap .i64 ((IntKind.wrap .i64 ((IntKind.wrap .i64 (0 + (IntKind.wrap .i64 b1))) * 256)) + (IntKind.wrap .i64 b0))) : Int) > (hi k))) = true) (h1 : (decide (((IntKind.wrap .i64 ((IntKind.wrap .i64 ((IntKind.wrap .i64 ((IntKind.wrap .i64 (0 + (IntKind.wrap .i64 b1))) * 256)) + (IntKind.wrap .i64 b0))) - 65536)) : Int) < (lo k))) = false) (h2 : (decide (((IntKind.wrap .i64 ((IntKind.wrap .i64 ((IntKind.wrap .i64 ((IntKind.wrap .i64 (0 + (IntKind.wrap .i64 b1))) * 256)) + (IntKind.wrap .i64 b0))) - 65536)) : Int) > (hi k))) = false) : OK cfg (.fn 123 []) [(.int .i64 k), (.sl 1 (some (0, 0)) 2)] [.cells false [(.int .u8 b0), (.int .u8 b1)]] (.tup [(.int .i64 (IntKind.wrap .i64 ((IntKind.wrap .i64 ((IntKind.wrap .i64 ((IntKind.wrap .i64 (0 + (IntKind.wrap .i64 b1))) * 256)) + (IntKind.wrap .i64 b0))) - 65536))), (.int .i64 0)]) [.cells false [(.int .u8 b0), (.int .u8 b1)], .dead, .dead] :=
  ok_fn hmix (n := 40) (os := [.c, .c, .c, .r (.tup [(.int .i64 2), (.int .i64 (lo k)), (.int .i64 (hi k))]) [.cells false [(.int .u8 b0), (.int .u8 b1)], .dead], .c, .c, .c, .c, .c, .c, .c, .c, .c, .c, .c, .c, .c, .c, .c, .c, .c, .c, .c, .a, .c, .c, .c, .c, .c, .c, .c, .c, .c, .c, .c, .c, .c, .c, .c, .c, .c, .c, .c, .c, .c, .c, .c, .c, .c, .c, .c, .c, .c, .c, .c, .c, .c, .c, .c, .c, .t, .c, .c, .r (.int .i64 65536) [.cells false [(.int .u8 b0), (.int .u8 b1)], .dead, .dead], .c, .c, .c, .c, .c, .c, .t, .c, .c, .c, .c, .c, .c, .f, .c, .c, .c]) (Eq.mp (by kernel_rfl) (And.intro (Eq.refl true) (And.intro (OK.pad (shape_is' k 2 [.cells false [(.int .u8 b0), (.int .u8 b1)]] hz)) (And.intro (Eq.refl true) (And.intro (Eq.refl true) (And.intro (Eq.refl true) (And.intro (Eq.refl true) (And.intro (Eq.refl true) (And.intro (Eq.refl true) (And.intro (Eq.refl true) (And.intro (Eq.refl true) (And.intro (Eq.refl true) (And.intro (Eq.refl true) (And.intro (Eq.refl true) (And.intro (Eq.refl true) (And.intro (Eq.refl true) (And.intro h0 (And.intro (OK.pad (rget2b_q_1 k b0 b1 hz)) (And.intro (Eq.refl true) (And.intro h1 (And.intro (Eq.refl true) (And.intro h2 (And.intro (Eq.refl true) (Eq.refl (((.tup [(.int .i64 (IntKind.wrap .i64 ((IntKind.wrap .i64 ((IntKind.wrap .i64 ((IntKind.wrap .i64 (0 + (IntKind.wrap .i64 b1))) * 256)) + (IntKind.wrap .i64 b0))) - 65536))), (.int .i64 0)]) : V), ([.cells false [(.int .u8 b0), (.int .u8 b1)], .dead, .dead] : Heap))))))))))))))))))))))))))


theorem rget4a (k b0 b1 b2 b3 : Int) (hz : sz k = 4) (h0 : (decide (((IntKind.wrap .i64 ((IntKind.wrap .i64 ((IntKind.wrap .i64 ((IntKind.wrap .i64 ((IntKind.wrap .i64 ((IntKind.wrap .i64 ((IntKind.wrap .i64 (0 + (IntKind.wrap .i64 b3))) * 256)) + (IntKind.wrap .i64 b2))) * 256)) + (IntKind.wrap .i64 b1))) * 256)) + (IntKind.wrap .i64 b0))) : Int) > (hi k))) = false) (h1 : (decide (((IntKind.wrap .i64 ((IntKind.wrap .i64 ((IntKind.wrap .i64 ((IntKind.wrap .i64 ((IntKind.wrap .i64 ((IntKind.wrap .i64 ((IntKind.wrap .i64 (0 + (IntKind.wrap .i64 b3))) * 256)) + (IntKind.wrap .i64 b2))) * 256)) + (IntKind.wrap .i64 b1))) * 256)) + (IntKind.wrap .i64 b0))) : Int) < (lo k))) = false) : OK cfg (.fn 123 []) [(.int .i64 k), (.sl 1 (some (0, 0)) 4)] [.cells false [(.int .u8 b0), (.int .u8 b1), (.int .u8 b2), (.int .u8 b3)]] (.tup [(.int .i64 (IntKind.wrap .i64 ((IntKind.wrap .i64 ((IntKind.wrap .i64 ((IntKind.wrap .i64 ((IntKind.wrap .i64 ((IntKind.wrap .i64 ((IntKind.wrap .i64 (0 + (IntKind.wrap .i64 b3))) * 256)) + (IntKind.wrap .i64 b2))) * 256)) + (IntKind.wrap .i64 b1))) * 256)) + (IntKind.wrap .i64 b0)))), (.int .i64 0)]) [.cells false [(.int .u8 b0), (.int .u8 b1), (.int .u8 b2), (.int .u8 b3)], .dead] :=
  ok_fn hmix (n := 40) (os := [.c, .c, .c, .r (.tup [(.int .i64 4), (.int .i64 (lo k)), (.int .i64 (hi k))]) [.cells false [(.int .u8 b0), (.int .u8 b1), (.int .u8 b2), (.int .u8 b3)], .dead], .c, .c, .c, .c, .c, .c, .c, .c, .c, .c, .c, .c, .c, .c, .c, .c, .c, .c, .c, .a, .c, .c, .c, .c, .c, .c, .c, .c, .c, .c, .c, .c, .c, .c, .c, .c, .c, .c, .c, .c, .c, .c, .c, .c, .c, .c, .c, .c, .c, .c, .c, .c, .c, .c, .c, .c, .c, .c, .c, .c, .c, .c, .c, .c, .c, .c, .c, .c, .c, .c, .c, .c, .c, .c, .c, .c, .c, .c, .c, .c, .c, .c, .c, .c, .c, .c, .f, .c, .c, .c, .c, .t, .c, .c, .c, .c, .c, .c, .f, .c, .c, .c]) (Eq.mp (by kernel_rfl) (And.intro (Eq.refl true) (And.intro (OK.pad (shape_is' k 4 [.cells false [(.int .u8 b0), (.int .u8 b1), (.int .u8 b2), (.int .u8 b3)]] hz)) (And.intro (Eq.refl true) (And.intro (Eq.refl true) (And.intro (Eq.refl true) (And.intro (Eq.refl true) (And.intro (Eq.refl true) (And.intro (Eq.refl true) (And.intro (Eq.refl true) (And.intro (Eq.refl true) (And.intro (Eq.refl true) (And.intro (Eq.refl true) (And.intro (Eq.refl true) (And.intro (Eq.refl true) (And.intro (Eq.refl true) (And.intro (Eq.refl true) (And.intro (Eq.refl true) (And.intro (Eq.refl true) (And.intro (Eq.refl true) (And.intro (Eq.refl true) (And.intro (Eq.refl true) (And.intro h0 (And.intro h1 (And.intro (Eq.refl true) (And.intro h0 (And.intro (Eq.refl true) (Eq.refl (((.tup [(.int .i64 (IntKind.wrap .i64 ((IntKind.wrap .i64 ((IntKind.wrap .i64 ((IntKind.wrap .i64 ((IntKind.wrap .i64 ((IntKind.wrap .i64 ((IntKind.wrap .i64 (0 + (IntKind.wrap .i64 b3))) * 256)) + (IntKind.wrap .i64 b2))) * 256)) + (IntKind.wrap .i64 b1))) * 256)) + (IntKind.wrap .i64 b0)))), (.int .i64 0)]) : V), ([.cells false [(.int .u8 b0), (.int .u8 b1), (.int .u8 b2), (.int .u8 b3)], .dead] : Heap))))))))))))))))))))))))))))))

theorem rget4b_q_1 (k b0 b1 b2 b3 : Int) (hz : sz k = 4)  : OK cfg (.fn 152 []) [(.int .i64 4)] [.cells false [(.int .u8 b0), (.int .u8 b1), (.int .u8 b2), (.int .u8 b3)], .dead] (.int .i64 4294967296) [.cells false [(.int .u8 b0), (.int .u8 b1), (.int .u8 b2), (.int .u8 b3)], .dead] :=
  ok_fn hmix (n := 40) (os := [.c, .c, .c, .a, .c, .c, .c, .c, .c, .c, .c, .c, .c, .c, .c, .c, .c, .c, .c, .c, .c, .c, .c, .c, .c, .c, .c, .c, .c, .c, .c, .c, .c, .c, .c, .c, .c, .c, .c, .c, .c, .c, .c, .c, .c, .c, .c, .c, .c, .c]) (Eq.mp (by kernel_rfl) (And.intro (Eq.refl true) (And.intro (Eq.refl true) (And.intro (Eq.refl true) (And.intro (Eq.refl true) (And.intro (Eq.refl true) (And.intro (Eq.refl true) (And.intro (Eq.refl true) (And.intro (Eq.refl true) (And.intro (Eq.refl true) (And.intro (Eq.refl true) (And.intro (Eq.refl true) (And.intro (Eq.refl true) (And.intro (Eq.refl true) (And.intro (Eq.refl true) (And.intro (Eq.refl true) (And.intro (Eq.refl true) (And.intro (Eq.refl true) (Eq.refl (((.int .i64 4294967296) : V), ([.cells false [(.int .u8 b0), (.int .u8 b1), (.int .u8 b2), (.int .u8 b3)], .dead] : Heap)))))))))))))))))))))

theorem rget4b (k b0 b1 b2 b3 : Int) (hz : sz k = 4) (h0 : (decide (((IntKind.wrap .i64 ((IntKind.wrap .i64 ((IntKind.wrap .i64 ((IntKind.wrap .i64 ((IntKind.wrap .i64 ((IntKind.wrap .i64 ((IntKind.wrap .i64 (0 + (IntKind.wrap .i64 b3))) * 256)) + (IntKind.wrap .i64 b2))) * 256)) + (IntKind.wrap .i64 b1))) * 256)) + (IntKind.wrap .i64 b0))) : Int) > (hi k))) = true) (h1 : (decide (((IntKind.wrap .i64 ((IntKind.wrap .i64 ((IntKind.wrap .i64 ((IntKind.wrap .i64 ((IntKind.wrap .i64 ((IntKind.wrap .i64 ((IntKind.wrap .i64 ((IntKind.wrap .i64 (0 + (IntKind.wrap .i64 b3))) * 256)) + (IntKind.wrap .i64 b2))) * 256)) + (IntKind.wrap .i64 b1))) * 256)) + (IntKind.wrap .i64 b0))) - 4294967296)) : Int) < (lo k))) = false) (h2 : (decide (((IntKind.wrap .i64 ((IntKind.wrap .i64 ((IntKind.wrap .i64 ((IntKind.wrap .i64 ((IntKind.wrap .i64 ((IntKind.wrap .i64 ((IntKind.wrap .i64 ((IntKind.wrap .i64 (0 + (IntKind.wrap .i64 b3))) * 256)) + (IntKind.wrap .i64 b2))) * 256)) + (IntKind.wrap .i64 b1))) * 256)) + (IntKind.wrap .i64 b0))) - 4294967296)) : Int) > (hi k))) = false) : OK cfg (.fn 123 []) [(.int .i64 k), (.sl 1 (some (0, 0)) 4)] [.cells false [(.int .u8 b0), (.int .u8 b1), (.int .u8 b2), (.int .u8 b3)]] (.tup [(.int .i64 (IntKind.wrap .i64 ((IntKind.wrap .i64 ((IntKind.wrap .i64 ((IntKind.wrap .i64 ((IntKind.wrap .i64 ((IntKind.wrap .i64 ((IntKind.wrap .i64 ((IntKind.wrap .i64 (0 + (IntKind.wrap .i64 b3))) * 256)) + (IntKind.wrap .i64 b2))) * 256)) + (IntKind.wrap .i64 b1))) * 256)) + (IntKind.wrap .i64 b0))) - 4294967296))), (.int .i64 0)]) [.cells false [(.int .u8 b0), (.int .u8 b1), (.int .u8 b2), (.int .u8 b3)], .dead, .dead] :=
  ok_fn hmix (n := 40) (os := [.c, .c, .c, .r (.tup [(.int .i64 4), (.int .i64 (lo k)), (.int .i64 (hi k))]) [.cells false [(.int .u8 b0), (.int .u8 b1), (.int .u8 b2), (.int .u8 b3)], .dead], .c, .c, .c, .c, .c, .c, .c, .c, .c, .c, .c, .c, .c, .c, .c, .c, .c, .c, .c, .a, .c, .c, .c, .c, .c, .c, .c, .c, .c, .c, .c, .c, .c, .c, .c, .c, .c, .c, .c, .c, .c, .c, .c, .c, .c, .c, .c, .c, .c, .c, .c, .c, .c, .c, .c, .c, .c, .c, .c, .c, .c, .c, .c, .c, .c, .c, .c, .c, .c, .c, .c, .c, .c, .c, .c, .c, .c, .c, .c, .c, .c, .c, .c, .c, .c, .c, .t, .c, .c, .r (.int .i64 4294967296) [.cells false [(.int .u8 b0), (.int .u8 b1), (.int .u8 b2), (.int .u8 b3)], .dead, .dead], .c, .c, .c, .c, .c, .c, .t, .c, .c, .c, .c, .c, .c, .f, .c, .c, .c]) (Eq.mp (by kernel_rfl) (And.intro (Eq.refl true) (And.intro (OK.pad (shape_is' k 4 [.cells false [(.int .u8 b0), (.int .u8 b1), (.int .u8 b2), (.int .u8 b3)]] hz)) (And.intro (Eq.refl true) (And.intro (Eq.refl true) (And.intro (Eq.refl true) (And.intro (Eq.refl true) (And.intro (Eq.refl true) (And.intro (Eq.refl true) (And.intro (Eq.refl true) (And.intro (Eq.refl true) (And.intro (Eq.refl true) (And.intro (Eq.refl true) (And.intro (Eq.refl true) (And.intro (Eq.refl true) (And.intro (Eq.refl true) (And.intro (Eq.refl true) (And.intro (Eq.refl true) (And.intro (Eq.refl true) (And.intro (Eq.refl true) (And.intro (Eq.refl true) (And.intro (Eq.refl true) (And.intro h0 (And.intro (OK.pad (rget4b_q_1 k b0 b1 b2 b3 hz)) (And.intro (Eq.refl true) (And.intro h1 (And.intro (Eq.refl true) (And.intro h2 (And.intro (Eq.refl true) (Eq.refl (((.tup [(.int .i64 (IntKind.wrap .i64 ((IntKind.wrap .i64 ((IntKind.wrap .i64 ((IntKind.wrap .i64 ((IntKind.wrap .i64 ((IntKind.wrap .i64 ((IntKind.wrap .i64 ((IntKind.wrap .i64 (0 + (IntKind.wrap .i64 b3))) * 256)) + (IntKind.wrap .i64 b2))) * 256)) + (IntKind.wrap .i64 b1))) * 256)) + (IntKind.wrap .i64 b0))) - 4294967296))), (.int .i64 0)]) : V), ([.cells false [(.int .u8 b0), (.int .u8 b1), (.int .u8 b2), (.int .u8 b3)], .dead, .dead] : Heap))))))))))))))))))))))))))))))))

theorem rget_ok1 (k b0 : Int) (hz : sz k = 1) (hb : okb [b0]) : OK cfg (.fn 123 []) [.int .i64 k, .sl 1 (some (0, 0)) 1] [.cells false [.int .u8 b0]] (.tup [.int .i64 (gets k [b0]).1, .int .i64 (gets k [b0]).2]) [.cells false [.int .u8 b0]] := by
  have h_b0 := hb b0 (by simp)
  have w_b0 : IntKind.wrap .i64 b0 = b0 := wrap_i64 (by omega)
  have e : ((IntKind.wrap .i64 (0 + (IntKind.wrap .i64 b0))) : Int) = num [b0] := by
    rw [w_b0, wrap_i64 (n := 0 + b0) (by omega)]
    simp only [num]
    omega
  have hN : 0 ≤ num [b0] ∧ num [b0] < 256 := by simp only [num]; omega
  have hw : IntKind.wrap .i64 (num [b0] - 256) = num [b0] - 256 := wrap_i64 (by omega)
  have hg : gets k [b0] = got k [b0] := by unfold gets; rw [if_neg (by omega), if_pos (by rw [hz]; rfl)]
  have hk : k = 1 ∨ k = 2 ∨ k = 5 := by have := sz_of hz (by decide); omega
  rcases hk with rfl | rfl | rfl
  · have hlo : lo 1 = 0 := by decide
    have hhi : hi 1 = 1 := by decide
    have hpw : pw 1 = 256 := by decide
    have hsz : sz 1 = 1 := by decide
    have hsg : sg 1 = false := by decide
    by_cases hh : num [b0] > 1
    · have ha : adj 1 (num [b0]) = num [b0] := by unfold adj; rw [if_neg (by rw [hsg]; rintro ⟨h1, h2⟩; cases h1)]
      have hr : gets 1 [b0] = (0, 4) := by rw [hg, got, ha, if_neg (by rw [fits_iff]; omega)]
      rw [hr]
      exact OK.ro1 (rget1c 1 b0 hz (by rw [e]; exact decide_eq_true (by omega)) (by rw [e, hw]; exact decide_eq_true (by omega))) (by rfl) rfl rfl
    · skip
      have ha : adj 1 (num [b0]) = num [b0] := by unfold adj; rw [if_neg (by rw [hhi]; rintro ⟨h1, h2⟩; rw [hsg] at h1; cases h1)]
      have hr : gets 1 [b0] = (num [b0], 0) := by rw [hg, got, ha, if_pos (fits_iff.2 (by omega))]
      rw [hr]
      exact OK.ro1 (OK.eqv (rget1a 1 b0 hz (by rw [e]; exact decide_eq_false (by omega)) (by rw [e]; exact decide_eq_false (by omega))) (by rw [e])) (by rfl) rfl rfl
  · have hlo : lo 2 = 0 := by decide
    have hhi : hi 2 = 255 := by decide
    have hpw : pw 2 = 256 := by decide
    have hsz : sz 2 = 1 := by decide
    have hsg : sg 2 = false := by decide
    have ha : adj 2 (num [b0]) = num [b0] := by unfold adj; rw [if_neg (by rw [hhi]; rintro ⟨h1, h2⟩; rw [hsg] at h1; cases h1)]
    have hr : gets 2 [b0] = (num [b0], 0) := by rw [hg, got, ha, if_pos (fits_iff.2 (by omega))]
    rw [hr]
    exact OK.ro1 (OK.eqv (rget1a 2 b0 hz (by rw [e]; exact decide_eq_false (by omega)) (by rw [e]; exact decide_eq_false (by omega))) (by rw [e])) (by rfl) rfl rfl
  · have hlo : lo 5 = -128 := by decide
    have hhi : hi 5 = 127 := by decide
    have hpw : pw 5 = 256 := by decide
    have hsz : sz 5 = 1 := by decide
    have hsg : sg 5 = true := by decide
    by_cases hh : num [b0] > 127
    · have ha : adj 5 (num [b0]) = num [b0] - 256 := by unfold adj; rw [if_pos ⟨hsg, by rw [hhi]; exact hh⟩, hpw]
      have hr : gets 5 [b0] = (num [b0] - 256, 0) := by rw [hg, got, ha, if_pos (fits_iff.2 (by omega))]
      rw [hr]
      exact OK.ro1 (OK.eqv (rget1b 5 b0 hz (by rw [e]; exact decide_eq_true (by omega)) (by rw [e, hw]; exact decide_eq_false (by omega)) (by rw [e, hw]; exact decide_eq_false (by omega))) (by rw [e, hw])) (by rfl) rfl rfl
    · skip
      have ha : adj 5 (num [b0]) = num [b0] := by unfold adj; rw [if_neg (by rw [hhi]; rintro ⟨h1, h2⟩; omega)]
      have hr : gets 5 [b0] = (num [b0], 0) := by rw [hg, got, ha, if_pos (fits_iff.2 (by omega))]
      rw [hr]
      exact OK.ro1 (OK.eqv (rget1a 5 b0 hz (by rw [e]; exact decide_eq_false (by omega)) (by rw [e]; exact decide_eq_false (by omega))) (by rw [e])) (by rfl) rfl rfl

theorem rget_ok2 (k b0 b1 : Int) (hz : sz k = 2) (hb : okb [b0, b1]) : OK cfg (.fn 123 []) [.int .i64 k, .sl 1 (some (0, 0)) 2] [.cells false [.int .u8 b0, .int .u8 b1]] (.tup [.int .i64 (gets k [b0, b1]).1, .int .i64 (gets k [b0, b1]).2]) [.cells false [.int .u8 b0, .int .u8 b1]] := by
  have h_b0 := hb b0 (by simp)
  have w_b0 : IntKind.wrap .i64 b0 = b0 := wrap_i64 (by omega)
  have h_b1 := hb b1 (by simp)
  have w_b1 : IntKind.wrap .i64 b1 = b1 := wrap_i64 (by omega)
  have e : ((IntKind.wrap .i64 ((IntKind.wrap .i64 ((IntKind.wrap .i64 (0 + (IntKind.wrap .i64 b1))) * 256)) + (IntKind.wrap .i64 b0))) : Int) = num [b0, b1] := by
    rw [w_b0, w_b1, wrap_i64 (n := 0 + b1) (by omega), wrap_i64 (n := (0 + b1) * 256) (by omega), wrap_i64 (n := (0 + b1) * 256 + b0) (by omega)]
    simp only [num]
    omega
  have hN : 0 ≤ num [b0, b1] ∧ num [b0, b1] < 65536 := by simp only [num]; omega
  have hw : IntKind.wrap .i64 (num [b0, b1] - 65536) = num [b0, b1] - 65536 := wrap_i64 (by omega)
  have hg : gets k [b0, b1] = got k [b0, b1] := by unfold gets; rw [if_neg (by omega), if_pos (by rw [hz]; rfl)]
  have hk : k = 3 ∨ k = 6 := by have := sz_of hz (by decide); omega
  rcases hk with rfl | rfl
  · have hlo : lo 3 = 0 := by decide
    have hhi : hi 3 = 65535 := by decide
    have hpw : pw 3 = 65536 := by decide
    have hsz : sz 3 = 2 := by decide
    have hsg : sg 3 = false := by decide
    have ha : adj 3 (num [b0, b1]) = num [b0, b1] := by unfold adj; rw [if_neg (by rw [hhi]; rintro ⟨h1, h2⟩; rw [hsg] at h1; cases h1)]
    have hr : gets 3 [b0, b1] = (num [b0, b1], 0) := by rw [hg, got, ha, if_pos (fits_iff.2 (by omega))]
    rw [hr]
    exact OK.ro1 (OK.eqv (rget2a 3 b0 b1 hz (by rw [e]; exact decide_eq_false (by omega)) (by rw [e]; exact decide_eq_false (by omega))) (by rw [e])) (by rfl) rfl rfl
  · have hlo : lo 6 = -32768 := by decide
    have hhi : hi 6 = 32767 := by decide
    have hpw : pw 6 = 65536 := by decide
    have hsz : sz 6 = 2 := by decide
    have hsg : sg 6 = true := by decide
    by_cases hh : num [b0, b1] > 32767
    · have ha : adj 6 (num [b0, b1]) = num [b0, b1] - 65536 := by unfold adj; rw [if_pos ⟨hsg, by rw [hhi]; exact hh⟩, hpw]
      have hr : gets 6 [b0, b1] = (num [b0, b1] - 65536, 0) := by rw [hg, got, ha, if_pos (fits_iff.2 (by omega))]
      rw [hr]
      exact OK.ro1 (OK.eqv (rget2b 6 b0 b1 hz (by rw [e]; exact decide_eq_true (by omega)) (by rw [e, hw]; exact decide_eq_false (by omega)) (by rw [e, hw]; exact decide_eq_false (by omega))) (by rw [e, hw])) (by rfl) rfl rfl
    · skip
      have ha : adj 6 (num [b0, b1]) = num [b0, b1] := by unfold adj; rw [if_neg (by rw [hhi]; rintro ⟨h1, h2⟩; omega)]
      have hr : gets 6 [b0, b1] = (num [b0, b1], 0) := by rw [hg, got, ha, if_pos (fits_iff.2 (by omega))]
      rw [hr]
      exact OK.ro1 (OK.eqv (rget2a 6 b0 b1 hz (by rw [e]; exact decide_eq_false (by omega)) (by rw [e]; exact decide_eq_false (by omega))) (by rw [e])) (by rfl) rfl rfl

theorem rget_ok4 (k b0 b1 b2 b3 : Int) (hz : sz k = 4) (hb : okb [b0, b1, b2, b3]) : OK cfg (.fn 123 []) [.int .i64 k, .sl 1 (some (0, 0)) 4] [.cells false [.int .u8 b0, .int .u8 b1, .int .u8 b2, .int .u8 b3]] (.tup [.int .i64 (gets k [b0, b1, b2, b3]).1, .int .i64 (gets k [b0, b1, b2, b3]).2]) [.cells false [.int .u8 b0, .int .u8 b1, .int .u8 b2, .int .u8 b3]] := by
  have h_b0 := hb b0 (by simp)
  have w_b0 : IntKind.wrap .i64 b0 = b0 := wrap_i64 (by omega)
  have h_b1 := hb b1 (by simp)
  have w_b1 : IntKind.wrap .i64 b1 = b1 := wrap_i64 (by omega)
  have h_b2 := hb b2 (by simp)
  have w_b2 : IntKind.wrap .i64 b2 = b2 := wrap_i64 (by omega)
  have h_b3 := hb b3 (by simp)
  have w_b3 : IntKind.wrap .i64 b3 = b3 := wrap_i64 (by omega)
  have e : ((IntKind.wrap .i64 ((IntKind.wrap .i64 ((IntKind.wrap .i64 ((IntKind.wrap .i64 ((IntKind.wrap .i64 ((IntKind.wrap .i64 ((IntKind.wrap .i64 (0 + (IntKind.wrap .i64 b3))) * 256)) + (IntKind.wrap .i64 b2))) * 256)) + (IntKind.wrap .i64 b1))) * 256)) + (IntKind.wrap .i64 b0))) : Int) = num [b0, b1, b2, b3] := by
    rw [w_b0, w_b1, w_b2, w_b3, wrap_i64 (n := 0 + b3) (by omega), wrap_i64 (n := (0 + b3) * 256) (by omega), wrap_i64 (n := (0 + b3) * 256 + b2) (by omega), wrap_i64 (n := ((0 + b3) * 256 + b2) * 256) (by omega), wrap_i64 (n := ((0 + b3) * 256 + b2) * 256 + b1) (by omega), wrap_i64 (n := (((0 + b3) * 256 + b2) * 256 + b1) * 256) (by omega), wrap_i64 (n := (((0 + b3) * 256 + b2) * 256 + b1) * 256 + b0) (by omega)]
    simp only [num]
    omega
  have hN : 0 ≤ num [b0, b1, b2, b3] ∧ num [b0, b1, b2, b3] < 4294967296 := by simp only [num]; omega
  have hw : IntKind.wrap .i64 (num [b0, b1, b2, b3] - 4294967296) = num [b0, b1, b2, b3] - 4294967296 := wrap_i64 (by omega)
  have hg : gets k [b0, b1, b2, b3] = got k [b0, b1, b2, b3] := by unfold gets; rw [if_neg (by omega), if_pos (by rw [hz]; rfl)]
  have hk : k = 4 ∨ k = 7 := by have := sz_of hz (by decide); omega
  rcases hk with rfl | rfl
  · have hlo : lo 4 = 0 := by decide
    have hhi : hi 4 = 4294967295 := by decide
    have hpw : pw 4 = 4294967296 := by decide
    have hsz : sz 4 = 4 := by decide
    have hsg : sg 4 = false := by decide
    have ha : adj 4 (num [b0, b1, b2, b3]) = num [b0, b1, b2, b3] := by unfold adj; rw [if_neg (by rw [hhi]; rintro ⟨h1, h2⟩; rw [hsg] at h1; cases h1)]
    have hr : gets 4 [b0, b1, b2, b3] = (num [b0, b1, b2, b3], 0) := by rw [hg, got, ha, if_pos (fits_iff.2 (by omega))]
    rw [hr]
    exact OK.ro1 (OK.eqv (rget4a 4 b0 b1 b2 b3 hz (by rw [e]; exact decide_eq_false (by omega)) (by rw [e]; exact decide_eq_false (by omega))) (by rw [e])) (by rfl) rfl rfl
  · have hlo : lo 7 = -2147483648 := by decide
    have hhi : hi 7 = 2147483647 := by decide
    have hpw : pw 7 = 4294967296 := by decide
    have hsz : sz 7 = 4 := by decide
    have hsg : sg 7 = true := by decide
    by_cases hh : num [b0, b1, b2, b3] > 2147483647
    · have ha : adj 7 (num [b0, b1, b2, b3]) = num [b0, b1, b2, b3] - 4294967296 := by unfold adj; rw [if_pos ⟨hsg, by rw [hhi]; exact hh⟩, hpw]
      have hr : gets 7 [b0, b1, b2, b3] = (num [b0, b1, b2, b3] - 4294967296, 0) := by rw [hg, got, ha, if_pos (fits_iff.2 (by omega))]
      rw [hr]
      exact OK.ro1 (OK.eqv (rget4b 7 b0 b1 b2 b3 hz (by rw [e]; exact decide_eq_true (by omega)) (by rw [e, hw]; exact decide_eq_false (by omega)) (by rw [e, hw]; exact decide_eq_false (by omega))) (by rw [e, hw])) (by rfl) rfl rfl
    · skip
      have ha : adj 7 (num [b0, b1, b2, b3]) = num [b0, b1, b2, b3] := by unfold adj; rw [if_neg (by rw [hhi]; rintro ⟨h1, h2⟩; omega)]
      have hr : gets 7 [b0, b1, b2, b3] = (num [b0, b1, b2, b3], 0) := by rw [hg, got, ha, if_pos (fits_iff.2 (by omega))]
      rw [hr]
      exact OK.ro1 (OK.eqv (rget4a 7 b0 b1 b2 b3 hz (by rw [e]; exact decide_eq_false (by omega)) (by rw [e]; exact decide_eq_false (by omega))) (by rw [e])) (by rfl) rfl rfl

theorem rget_ok (k : Int) (l : List Int) (hb : okb l) : OK cfg (.fn 123 []) [.int .i64 k, .sl 1 (some (0, 0)) l.length] [.cells false (l.map (V.int .u8))] (.tup [.int .i64 (gets k l).1, .int .i64 (gets k l).2]) [.cells false (l.map (V.int .u8))] := by
  by_cases h0 : sz k = 0
  · rw [show gets k l = (0, 2) by unfold gets; rw [if_pos h0]]
    exact OK.ro1 (rget_z k l h0) (plains_map _ (fun _ => rfl) _) rfl rfl
  by_cases h1 : (l.length : Int) = sz k
  · rcases sz_cases k with e | e | e | e
    · omega
    · match l, hb, h1 with
      | [a], hb, _ => exact rget_ok1 k a e hb
      | [], _, h1 => simp at h1; omega
      | _ :: _ :: _, _, h1 => simp at h1; omega
    · match l, hb, h1 with
      | [a, b], hb, _ => exact rget_ok2 k a b e hb
      | [], _, h1 => simp at h1; omega
      | [_], _, h1 => simp at h1; omega
      | _ :: _ :: _ :: _, _, h1 => simp at h1; omega
    · match l, hb, h1 with
      | [a, b, c, d], hb, _ => exact rget_ok4 k a b c d e hb
      | [], _, h1 => simp at h1; omega
      | [_], _, h1 => simp at h1; omega
      | [_, _], _, h1 => simp at h1; omega
      | [_, _, _], _, h1 => simp at h1; omega
      | _ :: _ :: _ :: _ :: _ :: _, _, h1 => simp at h1; omega
  · rw [show gets k l = (0, 11) by unfold gets; rw [if_neg h0, if_neg h1]]
    exact OK.ro1 (rget_l k l (by simpa using h0) (by simpa using h1)) (plains_map _ (fun _ => rfl) _) rfl rfl

end Go.Proofs.Ytiodgiedbgjkhaa.values
