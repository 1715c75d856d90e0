/-
  Once it has tripped, what goes out is safe: printed by ps.py, checked by the kernel.
-/
import Derived.Test.YtfhjdnekidhjnaaFf0
import Derived.Test.YtfhjdnekidhjnaaVm49
import Derived.Test.YtfhjdnekidhjnaaProg
set_option linter.unusedVariables false
set_option linter.unusedSimpArgs false
set_option maxRecDepth 100000
namespace Go.Proofs.Ytfhjdnekidhjnaa.latch
open Go Go.Vm
noncomputable def cfg : Cfg := { P := Try.prog, iso := [], masks := fun _ _ => none }
theorem hmix : cfg.P.follows .mixedOrders = true := by kernel_rfl
noncomputable def lb (f k : Nat) : Code := loopAt Try.prog f k

abbrev c1 (cs : List V) : Blk := Blk.cells true cs
abbrev t_ : V := V.tup []
abbrev i6 (n : Int) : V := V.int .i64 n
open Blk (dead) in
abbrev d_ : Blk := dead
theorem r_ : true = true := rfl

noncomputable abbrev h1b0 : Blk := c1 [(.sl 0 none 0), (i6 8), (i6 0), (i6 0), (i6 0)]
theorem live_q_2   : OK cfg (.fn 43 []) [(i6 8)] [] (.ptr (p_ 0)) [h1b0] :=
  ok_fn' hmix (n := 40) (os := (cc 7 ([]))) (by kernel_rfl) (a_ r_ (a_ r_ (Eq.refl (((.ptr (p_ 0)) : V), ([h1b0] : Heap)))))

noncomputable abbrev h1b1 : Blk := c1 [(.bool false), (i6 0), (i6 0), (.ptr (p_ 0)), (i6 0)]
theorem live_q_1   : OK cfg (.fn 19 []) [] [] (.ptr (p_ 2)) [h1b0, d_, h1b1] :=
  ok_fn' hmix (n := 40) (os := (.c :: .r (.ptr (p_ 0)) [h1b0, d_] :: cc 3 ([]))) (by kernel_rfl) (a_ r_ (a_ (OK.pad (live_q_2)) (a_ r_ (Eq.refl (((.ptr (p_ 2)) : V), ([h1b0, d_, h1b1] : Heap))))))

theorem live_q_4   : OK cfg (.fn 24 []) [(.ptr (p_ 2))] [h1b0, d_, h1b1, d_] (.bool false) [h1b0, d_, h1b1, d_] :=
  ok_fn' hmix (n := 40) (os := (cc 14 ([]))) (by kernel_rfl) (a_ r_ (a_ r_ (Eq.refl (((.bool false) : V), ([h1b0, d_, h1b1, d_] : Heap)))))

noncomputable abbrev h1h13 : Heap := [h1b0, d_, h1b1, d_, d_]
theorem live_q_5   : OK cfg (.fn 45 []) [(i6 4)] h1h13 (.bool true) h1h13 :=
  ok_fn' hmix (n := 40) (os := (cc 10 ([]))) (by kernel_rfl) (a_ r_ (a_ r_ (Eq.refl (((.bool true) : V), (h1h13 : Heap)))))

noncomputable abbrev h1b2 : Blk := c1 [(.bool true), (i6 7), (i6 4), (.ptr (p_ 0)), (i6 1)]
noncomputable abbrev h1h14 : Heap := [h1b0, d_, h1b2, d_, d_, d_]
theorem live_q_6   : OK cfg (.fn 46 []) [(.ptr (p_ 0))] h1h14 (i6 8) h1h14 :=
  ok_fn' hmix (n := 40) (os := (cc 14 ([]))) (by kernel_rfl) (a_ r_ (a_ r_ (a_ r_ (a_ r_ (Eq.refl (((i6 8) : V), (h1h14 : Heap)))))))

noncomputable abbrev h1b3 : Blk := c1 [(.sl 2 (p_ 9) 1), (i6 8), (i6 0), (i6 0), (i6 0)]
noncomputable abbrev h1h15 : Heap := [h1b3, d_, h1b2, d_, d_, d_, d_, c1 [(i6 7), (i6 4)], c1 [(i6 7), (i6 4)], c1 [(i6 0), (i6 0)]]
theorem live_q_8   : OK cfg (.fn 55 []) [(.ptr (p_ 0))] [h1b0, d_, h1b2, d_, d_, d_, d_, c1 [(i6 7), (i6 4)], c1 [(i6 7), (i6 4)]] t_ h1h15 :=
  ok_fn' hmix (n := 40) (os := (cc 30 (.a :: cc 11 ([])))) (by kernel_rfl) (a_ r_ (a_ r_ (a_ r_ (a_ r_ (a_ r_ (a_ r_ (a_ r_ (Eq.refl ((t_ : V), (h1h15 : Heap))))))))))

noncomputable abbrev h1h16 : Heap := [h1b3, d_, h1b2, d_, d_, d_, d_, c1 [(i6 7), (i6 4)], c1 [(i6 7), (i6 4)], c1 [(i6 0), (i6 0)], d_]
theorem live_q_9   : OK cfg (.fn 54 []) [(.ptr (p_ 0)), (i6 0)] h1h16 (i6 0) h1h16 :=
  ok_fn' hmix (n := 40) (os := (cc 14 ([]))) (by kernel_rfl) (a_ r_ (a_ r_ (a_ r_ (Eq.refl (((i6 0) : V), (h1h16 : Heap))))))

noncomputable abbrev h1b4 : Blk := c1 [(.sl 2 (p_ 9) 1), (i6 8), (i6 0), (i6 1), (i6 0)]
noncomputable abbrev h1h17 : Heap := [h1b4, d_, h1b2, d_, d_, d_, d_, c1 [(i6 7), (i6 4)], c1 [(i6 7), (i6 4)], c1 [(i6 7), (i6 4)], d_, d_]
theorem live_q_7   : OK cfg (.fn 48 []) [(.ptr (p_ 0)), (.sl 2 (p_ 7) 1)] [h1b0, d_, h1b2, d_, d_, d_, d_, c1 [(i6 7), (i6 4)]] (i6 1) h1h17 :=
  ok_fn' hmix (n := 40) (os := (cc 8 (.a :: cc 17 (.r t_ h1h16 :: cc 9 (.r (i6 0) [h1b3, d_, h1b2, d_, d_, d_, d_, c1 [(i6 7), (i6 4)], c1 [(i6 7), (i6 4)], c1 [(i6 0), (i6 0)], d_, d_] :: cc 20 ([])))))) (by kernel_rfl) (a_ r_ (a_ r_ (a_ r_ (a_ r_ (a_ r_ (a_ r_ (a_ r_ (a_ r_ (a_ (OK.pad (live_q_8)) (a_ r_ (a_ (OK.pad (live_q_9)) (a_ r_ (a_ r_ (a_ r_ (a_ r_ (a_ r_ (a_ r_ (a_ r_ (Eq.refl (((i6 1) : V), (h1h17 : Heap)))))))))))))))))))))

noncomputable abbrev h1h18 : Heap := [h1b4, d_, h1b2, d_, d_, d_, d_, c1 [(i6 7), (i6 4)], c1 [(i6 7), (i6 4)], c1 [(i6 7), (i6 4)], d_, d_, d_]
theorem live_q_3   : OK cfg (.fn 21 []) [(.ptr (p_ 2)), (i6 4), (i6 7)] [h1b0, d_, h1b1, d_] (.bool true) h1h18 :=
  ok_fn' hmix (n := 40) (os := (.c :: .c :: .r (.bool false) h1h13 :: cc 4 (.r (.bool true) [h1b0, d_, h1b1, d_, d_, d_] :: cc 27 (.r (i6 8) [h1b0, d_, h1b2, d_, d_, d_, d_] :: cc 11 (.r (i6 1) h1h18 :: .c :: []))))) (by kernel_rfl) (a_ r_ (a_ (OK.pad (live_q_4)) (a_ (OK.pad (live_q_5)) (a_ r_ (a_ r_ (a_ r_ (a_ (OK.pad (live_q_6)) (a_ r_ (a_ (OK.pad (live_q_7)) (a_ r_ (a_ r_ (a_ r_ (Eq.refl (((.bool true) : V), (h1h18 : Heap)))))))))))))))

noncomputable abbrev h1h19 : Heap := [h1b4, d_, h1b2, d_, d_, d_, d_, c1 [(i6 7), (i6 4)], c1 [(i6 7), (i6 4)], c1 [(i6 7), (i6 4)], d_, d_, d_, d_]
theorem live_q_11   : OK cfg (.fn 24 []) [(.ptr (p_ 2))] h1h19 (.bool true) h1h19 :=
  ok_fn' hmix (n := 40) (os := (cc 14 ([]))) (by kernel_rfl) (a_ r_ (a_ r_ (Eq.refl (((.bool true) : V), (h1h19 : Heap)))))

noncomputable abbrev h1h20 : Heap := [h1b4, d_, h1b2, d_, d_, d_, d_, c1 [(i6 7), (i6 4)], c1 [(i6 7), (i6 4)], c1 [(i6 7), (i6 4)], d_, d_, d_, d_, d_]
theorem live_q_10   : OK cfg (.fn 21 []) [(.ptr (p_ 2)), (i6 5), (i6 8)] h1h19 (.bool false) h1h20 :=
  ok_fn' hmix (n := 40) (os := (.c :: .c :: .r (.bool true) h1h20 :: cc 7 ([]))) (by kernel_rfl) (a_ r_ (a_ (OK.pad (live_q_11)) (a_ r_ (a_ r_ (Eq.refl (((.bool false) : V), (h1h20 : Heap)))))))

noncomputable abbrev h1h21 : Heap := [h1b4, d_, h1b2, d_, d_, d_, d_, c1 [(i6 7), (i6 4)], c1 [(i6 7), (i6 4)], c1 [(i6 7), (i6 4)], d_, d_, d_, d_, d_, d_]
theorem live_q_12   : OK cfg (.fn 25 []) [(.ptr (p_ 2))] h1h21 (i6 4) h1h21 :=
  ok_fn' hmix (n := 40) (os := (cc 22 ([]))) (by kernel_rfl) (a_ r_ (a_ r_ (a_ r_ (Eq.refl (((i6 4) : V), (h1h21 : Heap))))))

noncomputable abbrev h1h22 : Heap := [h1b4, d_, h1b2, d_, d_, d_, d_, c1 [(i6 7), (i6 4)], c1 [(i6 7), (i6 4)], c1 [(i6 7), (i6 4)], d_, d_, d_, d_, d_, d_, d_, d_, .cells false [(.int .u8 118)], d_, .cells false [(.int .u8 115)]]
theorem live_q_14   : OK cfg (.fn 24 []) [(.ptr (p_ 2))] h1h22 (.bool true) h1h22 :=
  ok_fn' hmix (n := 40) (os := (cc 14 ([]))) (by kernel_rfl) (a_ r_ (a_ r_ (Eq.refl (((.bool true) : V), (h1h22 : Heap)))))

noncomputable abbrev h1h23 : Heap := [h1b4, d_, h1b2, d_, d_, d_, d_, c1 [(i6 7), (i6 4)], c1 [(i6 7), (i6 4)], c1 [(i6 7), (i6 4)], d_, d_, d_, d_, d_, d_, d_, d_, .cells false [(.int .u8 118)], d_, .cells false [(.int .u8 115)], d_]
noncomputable abbrev h1h24 : Heap := [h1b4, d_, h1b2, d_, d_, d_, d_, c1 [(i6 7), (i6 4)], c1 [(i6 7), (i6 4)], c1 [(i6 7), (i6 4)], d_, d_, d_, d_, d_, d_, d_, d_, .cells false [(.int .u8 118)], d_, .cells false [(.int .u8 115)], d_, d_, c1 [(.int .u8 115)]]
theorem live_q_15   : OK cfg (.fn 44 []) [(.sl 1 (p_ 20) 1)] h1h23 (.sl 1 (p_ 23) 1) h1h24 :=
  ok_fn' hmix (n := 40) (os := (cc 8 ([]))) (by kernel_rfl) (a_ r_ (a_ r_ (a_ r_ (Eq.refl (((.sl 1 (p_ 23) 1) : V), (h1h24 : Heap))))))

noncomputable abbrev h1h25 : Heap := [h1b4, d_, h1b2, d_, d_, d_, d_, c1 [(i6 7), (i6 4)], c1 [(i6 7), (i6 4)], c1 [(i6 7), (i6 4)], d_, d_, d_, d_, d_, d_, d_, d_, .cells false [(.int .u8 118)], d_, .cells false [(.int .u8 115)], d_, d_, c1 [(.int .u8 115)], d_]
theorem live_q_13   : OK cfg (.fn 20 []) [(.ptr (p_ 2)), (.bool true), (.sl 1 (p_ 18) 1), (.sl 1 (p_ 20) 1)] h1h22 (.sl 1 (p_ 23) 1) h1h25 :=
  ok_fn' hmix (n := 40) (os := (.c :: .c :: .r (.bool true) h1h23 :: cc 13 (.r (.sl 1 (p_ 23) 1) h1h25 :: .c :: []))) (by kernel_rfl) (a_ r_ (a_ (OK.pad (live_q_14)) (a_ r_ (a_ (OK.pad (live_q_15)) (a_ r_ (Eq.refl (((.sl 1 (p_ 23) 1) : V), (h1h25 : Heap))))))))

noncomputable abbrev h1h26 : Heap := [h1b4, d_, h1b2, d_, d_, d_, d_, c1 [(i6 7), (i6 4)], c1 [(i6 7), (i6 4)], c1 [(i6 7), (i6 4)], d_, d_, d_, d_, d_, d_, d_, d_, .cells false [(.int .u8 118)], d_, .cells false [(.int .u8 115)], d_, d_, c1 [(.int .u8 115)], d_, d_]
theorem live_q_17   : OK cfg (.fn 45 []) [(i6 4)] h1h26 (.bool true) h1h26 :=
  ok_fn' hmix (n := 40) (os := (cc 10 ([]))) (by kernel_rfl) (a_ r_ (a_ r_ (Eq.refl (((.bool true) : V), (h1h26 : Heap)))))

noncomputable abbrev h1h27 : Heap := [h1b4, d_, h1b2, d_, d_, d_, d_, c1 [(i6 7), (i6 4)], c1 [(i6 7), (i6 4)], c1 [(i6 7), (i6 4)], d_, d_, d_, d_, d_, d_, d_, d_, .cells false [(.int .u8 118)], d_, .cells false [(.int .u8 115)], d_, d_, c1 [(.int .u8 115)], d_, d_, d_]
theorem live_q_16   : OK cfg (.fn 49 []) [(i6 4)] h1h26 (i6 33284) h1h27 :=
  ok_fn' hmix (n := 40) (os := (.c :: .c :: .r (.bool true) h1h27 :: cc 5 ([]))) (by kernel_rfl) (a_ r_ (a_ (OK.pad (live_q_17)) (a_ r_ (a_ r_ (Eq.refl (((i6 33284) : V), (h1h27 : Heap)))))))

noncomputable abbrev h1h28 : Heap := [h1b4, d_, h1b2, d_, d_, d_, d_, c1 [(i6 7), (i6 4)], c1 [(i6 7), (i6 4)], c1 [(i6 7), (i6 4)], d_, d_, d_, d_, d_, d_, d_, d_, .cells false [(.int .u8 118)], d_, .cells false [(.int .u8 115)], d_, d_, c1 [(.int .u8 115)], d_, d_, d_, d_]
theorem live_run   : OK cfg (.fn 23 []) [] [] (.bool true) [c1 [(.sl 2 (p_ 9) 1), (i6 8), (i6 0), (i6 1), (i6 0)], d_, c1 [(.bool true), (i6 7), (i6 4), (.ptr (p_ 0)), (i6 1)], d_, d_, d_, d_, c1 [(i6 7), (i6 4)], c1 [(i6 7), (i6 4)], c1 [(i6 7), (i6 4)], d_, d_, d_, d_, d_, d_, d_, d_, .cells false [(.int .u8 118)], d_, .cells false [(.int .u8 115)], d_, d_, c1 [(.int .u8 115)], d_, d_, d_, d_] :=
  ok_fn' hmix (n := 40) (os := (.c :: .r (.ptr (p_ 2)) [h1b0, d_, h1b1, d_] :: .c :: .c :: .r (.bool true) h1h19 :: .c :: .r (.bool false) h1h21 :: cc 13 (.r (i6 4) [h1b4, d_, h1b2, d_, d_, d_, d_, c1 [(i6 7), (i6 4)], c1 [(i6 7), (i6 4)], c1 [(i6 7), (i6 4)], d_, d_, d_, d_, d_, d_, d_] :: cc 15 (.r (.sl 1 (p_ 23) 1) h1h26 :: cc 7 (.r (i6 33284) h1h28 :: cc 4 ([])))))) (by kernel_rfl) (a_ r_ (a_ (OK.pad (live_q_1)) (a_ r_ (a_ (OK.pad (live_q_3)) (a_ (OK.pad (live_q_10)) (a_ r_ (a_ (OK.pad (live_q_12)) (a_ (OK.pad (live_q_13)) (a_ (OK.pad (live_q_16)) (a_ r_ (Eq.refl (((.bool true) : V), (h1h28 : Heap)))))))))))))

theorem live_ok (H : Heap) : OK cfg (.fn 23 []) [] H (.bool true) H := OK.anyH live_run rfl (.inl rfl) H


noncomputable abbrev h1h29 (L : List Int) : Heap := [.cells false ((L).map (V.int .u8))]
noncomputable abbrev h1h30 (L : List Int) : Heap := [.cells false ((L).map (V.int .u8)), c1 []]
theorem clE' (L : List Int) (h0 : L.length = 0) : OK cfg (.fn 44 []) [(.sl 1 (p_ 0) L.length)] [.cells false ((L).map (V.int .u8))] (.sl 1 (p_ 1) (0 + L.length)) [.cells false ((L).map (V.int .u8)), c1 []] :=
  (fun (lem : OK cfg (.fn 44 []) [(.sl 1 (p_ 0) L.length)] (h1h29 L) (.sl 1 (p_ 1) (0 + L.length)) (h1h30 L)) => (OK.at (fv1 := (.fn 44 [])) (args1 := [(.sl 1 (p_ 0) L.length)]) (v1 := (.sl 1 (p_ 1) (0 + L.length))) lem [p_ 0] [p_ 0, p_ 1] [1] (h1h29 L) (h1h30 L) (by kernel_rfl) (by kernel_rfl) ⟨⟨0, 0, false, ((L).map (V.int .u8)), rfl, rfl, rI⟩, trivial⟩ ⟨.inr (.inl ⟨rfl, by kernel_rfl⟩), ⟨.inr (.inr ⟨1, c1 [], rfl, rfl, VEL.P⟩), trivial⟩⟩ VE.R VEL.R VE.R)) (ok_fn' hmix (n := 40) (os := (cc 6 (.r (.sl 1 (p_ 1) (0 + L.length)) (h1h30 L) :: .c :: []))) (by kernel_rfl) (a_ r_ (a_ r_ (a_ (app_zero (es := 1) (bytes := 1) (n := 0) (m := L.length) (q := (p_ 0)) (H := (h1h30 L)) (p := (p_ 1)) h0) (a_ r_ (Eq.refl (((.sl 1 (p_ 1) (0 + L.length)) : V), ((h1h30 L) : Heap))))))))


noncomputable abbrev h1b9 (L : List Int) : Blk := .cells true ([] ++ (((L).map (V.int .u8)) : List V))
noncomputable abbrev h1h31 (L : List Int) : Heap := [.cells false ((L).map (V.int .u8)), d_, (h1b9 L)]
theorem clS' (L : List Int) (h0 : L.length * 1 = (((L).map (V.int .u8))).length) (h1 : (0 + L.length) * 1 ≤ 140737488355328 ∧ 0 + L.length ≤ 9223372036854775807) (h2 : L.length ≠ 0) (g0 : plains ([] ++ (((L).map (V.int .u8)) : List V)) = true) : OK cfg (.fn 44 []) [(.sl 1 (p_ 0) L.length)] [.cells false ((L).map (V.int .u8))] (.sl 1 (p_ 1) (0 + L.length)) [.cells false ((L).map (V.int .u8)), .cells true ([] ++ (((L).map (V.int .u8)) : List V))] :=
  (fun (lem : OK cfg (.fn 44 []) [(.sl 1 (p_ 0) L.length)] (h1h29 L) (.sl 1 (p_ 2) (0 + L.length)) (h1h31 L)) => (OK.at (fv1 := (.fn 44 [])) (args1 := [(.sl 1 (p_ 0) L.length)]) (v1 := (.sl 1 (p_ 1) (0 + L.length))) lem [p_ 0] [p_ 0, none, p_ 1] [2] (h1h29 L) [.cells false ((L).map (V.int .u8)), (h1b9 L)] (by kernel_rfl) (by kernel_rfl) ⟨⟨0, 0, false, ((L).map (V.int .u8)), rfl, rfl, rI⟩, trivial⟩ ⟨.inr (.inl ⟨rfl, by kernel_rfl⟩), ⟨.inr (.inr ⟨2, (h1b9 L), rfl, rfl, (VEL.plain g0)⟩), trivial⟩⟩ VE.R VEL.R VE.R)) (ok_fn' hmix (n := 40) (os := (cc 6 (.r (.sl 1 (p_ 2) (0 + L.length)) (h1h31 L) :: .c :: []))) (by kernel_rfl) (a_ r_ (a_ r_ (a_ (app_end (es := 1) (bytes := 1) (n := 0) (m := L.length) (q := (p_ 0)) (H := (h1h30 L)) (b := 1) (cs := []) (xs := ((L).map (V.int .u8))) (gs_whole' (rw := false) rfl h0) h2 h1 (ones_map _ (fun _ => rfl) _) rfl rfl) (a_ r_ (Eq.refl (((.sl 1 (p_ 2) (0 + L.length)) : V), ((h1h31 L) : Heap))))))))

theorem clone_ok (L : List Int) (n : Nat) (h : L.length ≤ 140737488355328) (hn : n = L.length) : OK cfg (.fn 44 []) [.sl 1 (p_ 0) n] [.cells false (L.map (V.int .u8))] (.sl 1 (p_ 1) n) [.cells false (L.map (V.int .u8)), .cells true (L.map (V.int .u8))] := by
  subst hn
  by_cases h0 : L.length = 0
  · obtain rfl := List.eq_nil_of_length_eq_zero h0
    exact clE' [] rfl
  · have := clS' L (by simp) (by omega) h0
    rw [Nat.zero_add, List.nil_append] at this
    exact this (plains_map _ (fun _ => rfl) _)

def knB (c : Int) : Bool := decide (1 ≤ c ∧ c ≤ 7)

theorem kp_l (c : Int) (h0 : (decide ((c : Int) ≥ 1)) = false) : OK cfg (.fn 45 []) [(i6 c)] [] (.bool false) [] :=
  ok_fn' hmix (n := 40) (os := (cc 4 (.f :: cc 3 ([])))) (by kernel_rfl) (a_ r_ (a_ h0 (a_ r_ (Eq.refl (((.bool false) : V), ([] : Heap))))))


theorem kp_y (c : Int) (h0 : (decide ((c : Int) ≥ 1)) = true) : OK cfg (.fn 45 []) [(i6 c)] [] (.bool (decide ((c : Int) ≤ 7))) [] :=
  ok_fn' hmix (n := 40) (os := (cc 4 (.t :: cc 5 ([])))) (by kernel_rfl) (a_ r_ (a_ h0 (a_ r_ (Eq.refl (((.bool (decide ((c : Int) ≤ 7))) : V), ([] : Heap))))))


theorem kp_h (c : Int) (h0 : (decide ((c : Int) ≥ 1)) = true) : OK cfg (.fn 45 []) [(i6 c)] [] (.bool (decide ((c : Int) ≤ 7))) [] :=
  ok_fn' hmix (n := 40) (os := (cc 4 (.t :: cc 5 ([])))) (by kernel_rfl) (a_ r_ (a_ h0 (a_ r_ (Eq.refl (((.bool (decide ((c : Int) ≤ 7))) : V), ([] : Heap))))))

theorem kp_ok (c : Int) (H : Heap) : OK cfg (.fn 45 []) [.int .i64 c] H (.bool (knB c)) H := by
  by_cases h1 : 1 ≤ c
  · by_cases h2 : c ≤ 7
    · exact OK.any (OK.eqv (kp_y c (by simp; omega)) (congrArg V.bool (by rw [Bool.eq_iff_iff]; simp [knB] <;> omega))) H rfl rfl
    · exact OK.any (OK.eqv (kp_h c (by simp; omega)) (congrArg V.bool (by rw [Bool.eq_iff_iff]; simp [knB] <;> omega))) H rfl rfl
  · exact OK.any (OK.eqv (kp_l c (by simp; omega)) (congrArg V.bool (by rw [Bool.eq_iff_iff]; simp [knB] <;> omega))) H rfl rfl


theorem kr_l (c : Int) (h0 : (decide ((c : Int) > 0)) = false) : OK cfg (.fn 22 []) [(i6 c)] [] (.bool false) [] :=
  ok_fn' hmix (n := 40) (os := (cc 4 (.f :: cc 3 ([])))) (by kernel_rfl) (a_ r_ (a_ h0 (a_ r_ (Eq.refl (((.bool false) : V), ([] : Heap))))))


theorem kr_y (c : Int) (h0 : (decide ((c : Int) > 0)) = true) : OK cfg (.fn 22 []) [(i6 c)] [] (.bool (decide ((c : Int) < 8))) [] :=
  ok_fn' hmix (n := 40) (os := (cc 4 (.t :: cc 5 ([])))) (by kernel_rfl) (a_ r_ (a_ h0 (a_ r_ (Eq.refl (((.bool (decide ((c : Int) < 8))) : V), ([] : Heap))))))


theorem kr_h (c : Int) (h0 : (decide ((c : Int) > 0)) = true) : OK cfg (.fn 22 []) [(i6 c)] [] (.bool (decide ((c : Int) < 8))) [] :=
  ok_fn' hmix (n := 40) (os := (cc 4 (.t :: cc 5 ([])))) (by kernel_rfl) (a_ r_ (a_ h0 (a_ r_ (Eq.refl (((.bool (decide ((c : Int) < 8))) : V), ([] : Heap))))))

theorem kr_ok (c : Int) (H : Heap) : OK cfg (.fn 22 []) [.int .i64 c] H (.bool (knB c)) H := by
  by_cases h1 : 1 ≤ c
  · by_cases h2 : c ≤ 7
    · exact OK.any (OK.eqv (kr_y c (by simp; omega)) (congrArg V.bool (by rw [Bool.eq_iff_iff]; simp [knB] <;> omega))) H rfl rfl
    · exact OK.any (OK.eqv (kr_h c (by simp; omega)) (congrArg V.bool (by rw [Bool.eq_iff_iff]; simp [knB] <;> omega))) H rfl rfl
  · exact OK.any (OK.eqv (kr_l c (by simp; omega)) (congrArg V.bool (by rw [Bool.eq_iff_iff]; simp [knB] <;> omega))) H rfl rfl

theorem nw_q_1   : OK cfg (.fn 43 []) [(i6 8)] [] (.ptr (p_ 0)) [h1b0] :=
  ok_fn' hmix (n := 40) (os := (cc 7 ([]))) (by kernel_rfl) (a_ r_ (a_ r_ (Eq.refl (((.ptr (p_ 0)) : V), ([h1b0] : Heap)))))

theorem nw'   : OK cfg (.fn 19 []) [] [] (.ptr (p_ 1)) [c1 [(.sl 0 none 0), (i6 8), (i6 0), (i6 0), (i6 0)], c1 [(.bool false), (i6 0), (i6 0), (.ptr (p_ 0)), (i6 0)]] :=
  (fun (lem : OK cfg (.fn 19 []) [] [] (.ptr (p_ 2)) [h1b0, d_, h1b1]) => (OK.at (fv1 := (.fn 19 [])) (args1 := []) (v1 := (.ptr (p_ 1))) lem [] [p_ 0, none, p_ 1] [0, 2] [] [h1b0, h1b1] (by kernel_rfl) (by kernel_rfl) trivial ⟨.inr (.inr ⟨0, h1b0, rfl, rfl, VEL.P⟩), ⟨.inr (.inr ⟨2, h1b1, rfl, rfl, VEL.R⟩), trivial⟩⟩ VE.R VEL.P VE.R)) (ok_fn' hmix (n := 40) (os := (.c :: .r (.ptr (p_ 0)) [h1b0, d_] :: cc 3 ([]))) (by kernel_rfl) (a_ r_ (a_ (OK.pad (nw_q_1)) (a_ r_ (Eq.refl (((.ptr (p_ 2)) : V), ([h1b0, d_, h1b1] : Heap)))))))


noncomputable abbrev h1b10 : Blk := .cells false [(.bool false), u_, u_, u_, u_]
theorem tr_o'   : OK cfg (.fn 24 []) [(.ptr (p_ 0))] [.cells false [(.bool false), u_, u_, u_, u_]] (.bool false) [.cells false [(.bool false), u_, u_, u_, u_]] :=
  (fun (lem : OK cfg (.fn 24 []) [(.ptr (p_ 0))] [h1b10] (.bool false) [h1b10]) => (OK.rd (fv1 := (.fn 24 [])) (args1 := [(.ptr (p_ 0))]) (v1 := (.bool false)) lem [p_ 0] [p_ 0] [h1b10] (by kernel_rfl) (by kernel_rfl) (by kernel_rfl) ⟨⟨0, 0, false, [(.bool false), u_, u_, u_, u_], rfl, rfl, VEL.get_ro VEL.R⟩, trivial⟩ VE.R VEL.R VE.R)) (ok_fn' hmix (n := 40) (os := (cc 14 ([]))) (by kernel_rfl) (a_ r_ (a_ r_ (Eq.refl (((.bool false) : V), ([h1b10] : Heap))))))


noncomputable abbrev h1b11 : Blk := .cells false [(.bool true), u_, u_, u_, u_]
theorem tr_s'   : OK cfg (.fn 24 []) [(.ptr (p_ 0))] [.cells false [(.bool true), u_, u_, u_, u_]] (.bool true) [.cells false [(.bool true), u_, u_, u_, u_]] :=
  (fun (lem : OK cfg (.fn 24 []) [(.ptr (p_ 0))] [h1b11] (.bool true) [h1b11]) => (OK.rd (fv1 := (.fn 24 [])) (args1 := [(.ptr (p_ 0))]) (v1 := (.bool true)) lem [p_ 0] [p_ 0] [h1b11] (by kernel_rfl) (by kernel_rfl) (by kernel_rfl) ⟨⟨0, 0, false, [(.bool true), u_, u_, u_, u_], rfl, rfl, VEL.get_ro VEL.R⟩, trivial⟩ VE.R VEL.R VE.R)) (ok_fn' hmix (n := 40) (os := (cc 14 ([]))) (by kernel_rfl) (a_ r_ (a_ r_ (Eq.refl (((.bool true) : V), ([h1b11] : Heap))))))

noncomputable abbrev h1b5 (now : Int) (c : Int) : Blk := c1 [(.bool true), (i6 now), (i6 c), (.ptr (p_ 0)), (i6 1)]
theorem tp_y_q_1 (c now : Int)  : OK cfg (.fn 46 []) [(.ptr (p_ 0))] [h1b0, (h1b5 now c), d_, d_] (i6 8) [h1b0, (h1b5 now c), d_, d_] :=
  ok_fn' hmix (n := 40) (os := (cc 14 ([]))) (by kernel_rfl) (a_ r_ (a_ r_ (a_ r_ (a_ r_ (Eq.refl (((i6 8) : V), ([h1b0, (h1b5 now c), d_, d_] : Heap)))))))

noncomputable abbrev h1b6 : Blk := c1 [(.sl 2 (p_ 7) 1), (i6 8), (i6 0), (i6 0), (i6 0)]
noncomputable abbrev h1h32 (now : Int) (c : Int) : Heap := [h1b6, (h1b5 now c), d_, d_, d_, c1 [(i6 now), (i6 c)], c1 [(i6 now), (i6 c)], c1 [(i6 0), (i6 0)]]
theorem tp_y_q_3 (c now : Int)  : OK cfg (.fn 55 []) [(.ptr (p_ 0))] [h1b0, (h1b5 now c), d_, d_, d_, c1 [(i6 now), (i6 c)], c1 [(i6 now), (i6 c)]] t_ (h1h32 now c) :=
  ok_fn' hmix (n := 40) (os := (cc 30 (.a :: cc 11 ([])))) (by kernel_rfl) (a_ r_ (a_ r_ (a_ r_ (a_ r_ (a_ r_ (a_ r_ (a_ r_ (Eq.refl ((t_ : V), ((h1h32 now c) : Heap))))))))))

noncomputable abbrev h1h33 (now : Int) (c : Int) : Heap := [h1b6, (h1b5 now c), d_, d_, d_, c1 [(i6 now), (i6 c)], c1 [(i6 now), (i6 c)], c1 [(i6 0), (i6 0)], d_]
theorem tp_y_q_4 (c now : Int)  : OK cfg (.fn 54 []) [(.ptr (p_ 0)), (i6 0)] (h1h33 now c) (i6 0) (h1h33 now c) :=
  ok_fn' hmix (n := 40) (os := (cc 14 ([]))) (by kernel_rfl) (a_ r_ (a_ r_ (a_ r_ (Eq.refl (((i6 0) : V), ((h1h33 now c) : Heap))))))

noncomputable abbrev h1b7 : Blk := c1 [(.sl 2 (p_ 7) 1), (i6 8), (i6 0), (i6 1), (i6 0)]
noncomputable abbrev h1h34 (now : Int) (c : Int) : Heap := [h1b7, (h1b5 now c), d_, d_, d_, c1 [(i6 now), (i6 c)], c1 [(i6 now), (i6 c)], c1 [(i6 now), (i6 c)], d_, d_]
theorem tp_y_q_2 (c now : Int)  : OK cfg (.fn 48 []) [(.ptr (p_ 0)), (.sl 2 (p_ 5) 1)] [h1b0, (h1b5 now c), d_, d_, d_, c1 [(i6 now), (i6 c)]] (i6 1) (h1h34 now c) :=
  ok_fn' hmix (n := 40) (os := (cc 8 (.a :: cc 17 (.r t_ (h1h33 now c) :: cc 9 (.r (i6 0) [h1b6, (h1b5 now c), d_, d_, d_, c1 [(i6 now), (i6 c)], c1 [(i6 now), (i6 c)], c1 [(i6 0), (i6 0)], d_, d_] :: cc 20 ([])))))) (by kernel_rfl) (a_ r_ (a_ r_ (a_ r_ (a_ r_ (a_ r_ (a_ r_ (a_ r_ (a_ r_ (a_ (OK.pad (tp_y_q_3 c now)) (a_ r_ (a_ (OK.pad (tp_y_q_4 c now)) (a_ r_ (a_ (show (((((decide ((now : Int) = now) && (decide ((c : Int) = c) && true)) && (decide ((now : Int) = now) && (decide ((c : Int) = c) && true))) && true) && true) : Bool) = true from by simp) (a_ r_ (a_ r_ (a_ r_ (a_ r_ (a_ r_ (Eq.refl (((i6 1) : V), ((h1h34 now c) : Heap)))))))))))))))))))))

noncomputable abbrev h1h35 (now : Int) (c : Int) : Heap := [h1b7, (h1b5 now c), d_, d_, d_, c1 [(i6 now), (i6 c)], c1 [(i6 now), (i6 c)], c1 [(i6 now), (i6 c)], d_, d_, d_]
theorem tp_y' (c now : Int) (h0 : (!(knB c)) = false) : OK cfg (.fn 21 []) [(.ptr (p_ 1)), (i6 c), (i6 now)] [c1 [(.sl 0 none 0), (i6 8), (i6 0), (i6 0), (i6 0)], c1 [(.bool false), (i6 0), (i6 0), (.ptr (p_ 0)), (i6 0)]] (.bool true) [c1 [(.sl 2 (p_ 2) 1), (i6 8), (i6 0), (i6 1), (i6 0)], c1 [(.bool true), (i6 now), (i6 c), (.ptr (p_ 0)), (i6 1)], c1 [(i6 now), (i6 c)]] :=
  (fun (lem : OK cfg (.fn 21 []) [(.ptr (p_ 1)), (i6 c), (i6 now)] [h1b0, h1b1] (.bool true) (h1h35 now c)) => (OK.at (fv1 := (.fn 21 [])) (args1 := [(.ptr (p_ 1)), (i6 c), (i6 now)]) (v1 := (.bool true)) lem [p_ 0, p_ 1] [p_ 0, p_ 1, none, none, none, none, none, p_ 2, none, none, none] [7] [h1b0, h1b1] [c1 [(.sl 2 (p_ 2) 1), (i6 8), (i6 0), (i6 1), (i6 0)], (h1b5 now c), c1 [(i6 now), (i6 c)]] (by kernel_rfl) (by kernel_rfl) ⟨⟨0, [(.sl 0 none 0), (i6 8), (i6 0), (i6 0), (i6 0)], rfl, rfl, VEL.P⟩, ⟨⟨1, [(.bool false), (i6 0), (i6 0), (.ptr (p_ 0)), (i6 0)], rfl, rfl, VEL.R⟩, trivial⟩⟩ ⟨.inr (.inr ⟨0, h1b7, rfl, rfl, VEL.R⟩), ⟨.inr (.inr ⟨1, (h1b5 now c), rfl, rfl, VEL.R⟩), ⟨.inr (.inr ⟨7, c1 [(i6 now), (i6 c)], rfl, rfl, VEL.P⟩), trivial⟩⟩⟩ VE.R VEL.R VE.R)) (ok_fn' hmix (n := 40) (os := (.c :: .c :: .r (.bool false) [h1b0, h1b1, d_] :: cc 4 (.r (.bool (knB c)) [h1b0, h1b1, d_, d_] :: cc 3 (.f :: cc 23 (.r (i6 8) [h1b0, (h1b5 now c), d_, d_, d_] :: cc 11 (.r (i6 1) (h1h35 now c) :: .c :: [])))))) (by kernel_rfl) (a_ r_ (a_ (OK.pad (OK.rd (fv1 := (.fn 24 [])) (args1 := [(.ptr (p_ 1))]) (v1 := (.bool false)) (tr_o' ) [p_ 1] [none] [h1b0, h1b1] (by kernel_rfl) (by kernel_rfl) (by kernel_rfl) ⟨⟨1, 0, true, [(.bool false), (i6 0), (i6 0), (.ptr (p_ 0)), (i6 0)], rfl, rfl, VEL.get_ro (.c VE.R (.c .q (.c .q (.c .q (.c .q .nil)))))⟩, trivial⟩ VE.R VEL.R VE.R)) (a_ (OK.pad (kp_ok c [h1b0, h1b1, d_])) (a_ r_ (a_ h0 (a_ r_ (a_ r_ (a_ (OK.pad (tp_y_q_1 c now)) (a_ r_ (a_ (OK.pad (tp_y_q_2 c now)) (a_ r_ (a_ r_ (a_ r_ (Eq.refl (((.bool true) : V), ((h1h35 now c) : Heap)))))))))))))))))


theorem tp_n' (c now : Int) (h0 : (!(knB c)) = true) : OK cfg (.fn 21 []) [(.ptr (p_ 0)), (i6 c), u_] [.cells false [(.bool false), u_, u_, u_, u_]] (.bool false) [.cells false [(.bool false), u_, u_, u_, u_]] :=
  (fun (lem : OK cfg (.fn 21 []) [(.ptr (p_ 0)), (i6 c), u_] [h1b10] (.bool false) [h1b10, d_, d_]) => (OK.rd (fv1 := (.fn 21 [])) (args1 := [(.ptr (p_ 0)), (i6 c), u_]) (v1 := (.bool false)) lem [p_ 0] [p_ 0, none, none] [h1b10] (by kernel_rfl) (by kernel_rfl) (by kernel_rfl) ⟨⟨0, 0, false, [(.bool false), u_, u_, u_, u_], rfl, rfl, VEL.get_ro VEL.R⟩, trivial⟩ VE.R VEL.R VE.R)) (ok_fn' hmix (n := 40) (os := (.c :: .c :: .r (.bool false) [h1b10, d_] :: cc 4 (.r (.bool (knB c)) [h1b10, d_, d_] :: cc 3 (.t :: .c :: [])))) (by kernel_rfl) (a_ r_ (a_ (OK.pad (OK.rd (fv1 := (.fn 24 [])) (args1 := [(.ptr (p_ 0))]) (v1 := (.bool false)) (tr_o' ) [p_ 0] [p_ 0] [h1b10] (by kernel_rfl) (by kernel_rfl) (by kernel_rfl) ⟨⟨0, 0, false, [(.bool false), u_, u_, u_, u_], rfl, rfl, VEL.get_ro VEL.R⟩, trivial⟩ VE.R VEL.R VE.R)) (a_ (OK.pad (kp_ok c [h1b10, d_])) (a_ r_ (a_ h0 (a_ r_ (Eq.refl (((.bool false) : V), ([h1b10, d_, d_] : Heap))))))))))


theorem tp_s'   : OK cfg (.fn 21 []) [(.ptr (p_ 0)), u_, u_] [.cells false [(.bool true), u_, u_, u_, u_]] (.bool false) [.cells false [(.bool true), u_, u_, u_, u_]] :=
  (fun (lem : OK cfg (.fn 21 []) [(.ptr (p_ 0)), u_, u_] [h1b11] (.bool false) [h1b11, d_]) => (OK.rd (fv1 := (.fn 21 [])) (args1 := [(.ptr (p_ 0)), u_, u_]) (v1 := (.bool false)) lem [p_ 0] [p_ 0, none] [h1b11] (by kernel_rfl) (by kernel_rfl) (by kernel_rfl) ⟨⟨0, 0, false, [(.bool true), u_, u_, u_, u_], rfl, rfl, VEL.get_ro VEL.R⟩, trivial⟩ VE.R VEL.R VE.R)) (ok_fn' hmix (n := 40) (os := (.c :: .c :: .r (.bool true) [h1b11, d_] :: cc 7 ([]))) (by kernel_rfl) (a_ r_ (a_ (OK.pad (OK.rd (fv1 := (.fn 24 [])) (args1 := [(.ptr (p_ 0))]) (v1 := (.bool true)) (tr_s' ) [p_ 0] [p_ 0] [h1b11] (by kernel_rfl) (by kernel_rfl) (by kernel_rfl) ⟨⟨0, 0, false, [(.bool true), u_, u_, u_, u_], rfl, rfl, VEL.get_ro VEL.R⟩, trivial⟩ VE.R VEL.R VE.R)) (a_ r_ (a_ r_ (Eq.refl (((.bool false) : V), ([h1b11, d_] : Heap))))))))


noncomputable abbrev h1b12 (now : Int) (c : Int) : Blk := .cells false [(.bool true), (i6 now), (i6 c), u_, u_]
theorem at_s' (c now : Int)  : OK cfg (.fn 26 []) [(.ptr (p_ 0))] [.cells false [(.bool true), (i6 now), (i6 c), u_, u_]] (.tup [(i6 now), (.bool true)]) [.cells false [(.bool true), (i6 now), (i6 c), u_, u_]] :=
  (fun (lem : OK cfg (.fn 26 []) [(.ptr (p_ 0))] [(h1b12 now c)] (.tup [(i6 now), (.bool true)]) [(h1b12 now c)]) => (OK.rd (fv1 := (.fn 26 [])) (args1 := [(.ptr (p_ 0))]) (v1 := (.tup [(i6 now), (.bool true)])) lem [p_ 0] [p_ 0] [(h1b12 now c)] (by kernel_rfl) (by kernel_rfl) (by kernel_rfl) ⟨⟨0, 0, false, [(.bool true), (i6 now), (i6 c), u_, u_], rfl, rfl, VEL.get_ro VEL.R⟩, trivial⟩ VE.R VEL.R VE.R)) (ok_fn' hmix (n := 40) (os := (cc 24 ([]))) (by kernel_rfl) (a_ r_ (a_ r_ (a_ r_ (Eq.refl (((.tup [(i6 now), (.bool true)]) : V), ([(h1b12 now c)] : Heap)))))))


theorem cs_s' (c now : Int)  : OK cfg (.fn 25 []) [(.ptr (p_ 0))] [.cells false [(.bool true), (i6 now), (i6 c), u_, u_]] (i6 c) [.cells false [(.bool true), (i6 now), (i6 c), u_, u_]] :=
  (fun (lem : OK cfg (.fn 25 []) [(.ptr (p_ 0))] [(h1b12 now c)] (i6 c) [(h1b12 now c)]) => (OK.rd (fv1 := (.fn 25 [])) (args1 := [(.ptr (p_ 0))]) (v1 := (i6 c)) lem [p_ 0] [p_ 0] [(h1b12 now c)] (by kernel_rfl) (by kernel_rfl) (by kernel_rfl) ⟨⟨0, 0, false, [(.bool true), (i6 now), (i6 c), u_, u_], rfl, rfl, VEL.get_ro VEL.R⟩, trivial⟩ VE.R VEL.R VE.R)) (ok_fn' hmix (n := 40) (os := (cc 22 ([]))) (by kernel_rfl) (a_ r_ (a_ r_ (a_ r_ (Eq.refl (((i6 c) : V), ([(h1b12 now c)] : Heap)))))))


noncomputable abbrev h1b8 : Blk := c1 [(.bool false), (i6 0), (i6 0), u_, u_]
theorem re_y' (c now : Int)  : OK cfg (.fn 27 []) [(.ptr (p_ 0))] [c1 [(.bool true), (i6 now), (i6 c), u_, u_]] (.bool true) [c1 [(.bool false), (i6 0), (i6 0), u_, u_]] :=
  (fun (lem : OK cfg (.fn 27 []) [(.ptr (p_ 0))] [c1 [(.bool true), (i6 now), (i6 c), u_, u_]] (.bool true) [h1b8]) => (OK.at (fv1 := (.fn 27 [])) (args1 := [(.ptr (p_ 0))]) (v1 := (.bool true)) lem [p_ 0] [p_ 0] [] [c1 [(.bool true), (i6 now), (i6 c), u_, u_]] [h1b8] (by kernel_rfl) (by kernel_rfl) ⟨⟨0, [(.bool true), (i6 now), (i6 c), u_, u_], rfl, rfl, VEL.R⟩, trivial⟩ ⟨.inr (.inr ⟨0, h1b8, rfl, rfl, VEL.R⟩), trivial⟩ VE.R VEL.R VE.R)) (ok_fn' hmix (n := 40) (os := (cc 26 ([]))) (by kernel_rfl) (a_ r_ (a_ r_ (a_ r_ (a_ r_ (Eq.refl (((.bool true) : V), ([h1b8] : Heap))))))))


theorem re_n'   : OK cfg (.fn 27 []) [(.ptr (p_ 0))] [.cells false [(.bool false), u_, u_, u_, u_]] (.bool false) [.cells false [(.bool false), u_, u_, u_, u_]] :=
  (fun (lem : OK cfg (.fn 27 []) [(.ptr (p_ 0))] [h1b10] (.bool false) [h1b10]) => (OK.rd (fv1 := (.fn 27 [])) (args1 := [(.ptr (p_ 0))]) (v1 := (.bool false)) lem [p_ 0] [p_ 0] [h1b10] (by kernel_rfl) (by kernel_rfl) (by kernel_rfl) ⟨⟨0, 0, false, [(.bool false), u_, u_, u_, u_], rfl, rfl, VEL.get_ro VEL.R⟩, trivial⟩ VE.R VEL.R VE.R)) (ok_fn' hmix (n := 40) (os := (cc 17 ([]))) (by kernel_rfl) (a_ r_ (a_ r_ (a_ r_ (Eq.refl (((.bool false) : V), ([h1b10] : Heap)))))))

theorem os_n_q_1   : OK cfg (.fn 44 []) [(.sl 1 none 0)] [h1b11, d_] (.sl 0 none 0) [h1b11, d_] :=
  ok_fn' hmix (n := 40) (os := (cc 5 ([]))) (by kernel_rfl) (a_ r_ (a_ r_ (a_ r_ (Eq.refl (((.sl 0 none 0) : V), ([h1b11, d_] : Heap))))))

theorem os_n'   : OK cfg (.fn 20 []) [(.ptr (p_ 0)), u_, u_, (.sl 1 none 0)] [.cells false [(.bool true), u_, u_, u_, u_]] (.sl 1 none 0) [.cells false [(.bool true), u_, u_, u_, u_]] :=
  (fun (lem : OK cfg (.fn 20 []) [(.ptr (p_ 0)), u_, u_, (.sl 1 none 0)] [h1b11] (.sl 1 none 0) [h1b11, d_, d_]) => (OK.rd (fv1 := (.fn 20 [])) (args1 := [(.ptr (p_ 0)), u_, u_, (.sl 1 none 0)]) (v1 := (.sl 1 none 0)) lem [p_ 0] [p_ 0, none, none] [h1b11] (by kernel_rfl) (by kernel_rfl) (by kernel_rfl) ⟨⟨0, 0, false, [(.bool true), u_, u_, u_, u_], rfl, rfl, VEL.get_ro VEL.R⟩, trivial⟩ VE.R VEL.R VE.R)) (ok_fn' hmix (n := 40) (os := (.c :: .c :: .r (.bool true) [h1b11, d_] :: cc 13 (.r (.sl 0 none 0) [h1b11, d_, d_] :: .c :: []))) (by kernel_rfl) (a_ r_ (a_ (OK.pad (OK.rd (fv1 := (.fn 24 [])) (args1 := [(.ptr (p_ 0))]) (v1 := (.bool true)) (tr_s' ) [p_ 0] [p_ 0] [h1b11] (by kernel_rfl) (by kernel_rfl) (by kernel_rfl) ⟨⟨0, 0, false, [(.bool true), u_, u_, u_, u_], rfl, rfl, VEL.get_ro VEL.R⟩, trivial⟩ VE.R VEL.R VE.R)) (a_ r_ (a_ (OK.pad (os_n_q_1)) (a_ r_ (Eq.refl (((.sl 1 none 0) : V), ([h1b11, d_, d_] : Heap)))))))))


noncomputable abbrev h1h36 (L : List Int) : Heap := [h1b11, .cells false ((L).map (V.int .u8))]
noncomputable abbrev h1h37 (L : List Int) : Heap := [h1b11, .cells false ((L).map (V.int .u8)), d_, .cells true ((L).map (V.int .u8)), d_]
theorem os_r' (L : List Int) (n : Nat) (h0 : L.length ≤ 140737488355328) (h1 : n = L.length) : OK cfg (.fn 20 []) [(.ptr (p_ 0)), u_, u_, (.sl 1 (p_ 1) n)] [.cells false [(.bool true), u_, u_, u_, u_], .cells false ((L).map (V.int .u8))] (.sl 1 (p_ 2) n) [.cells false [(.bool true), u_, u_, u_, u_], .cells false ((L).map (V.int .u8)), .cells true ((L).map (V.int .u8))] :=
  (fun (lem : OK cfg (.fn 20 []) [(.ptr (p_ 0)), u_, u_, (.sl 1 (p_ 1) n)] (h1h36 L) (.sl 1 (p_ 3) n) (h1h37 L)) => (OK.at (fv1 := (.fn 20 [])) (args1 := [(.ptr (p_ 0)), u_, u_, (.sl 1 (p_ 1) n)]) (v1 := (.sl 1 (p_ 2) n)) lem [p_ 0, p_ 1] [p_ 0, p_ 1, none, p_ 2, none] [3] (h1h36 L) [h1b11, .cells false ((L).map (V.int .u8)), .cells true ((L).map (V.int .u8))] (by kernel_rfl) (by kernel_rfl) ⟨⟨0, 0, false, [(.bool true), u_, u_, u_, u_], rfl, rfl, VEL.get_ro VEL.R⟩, ⟨⟨1, 0, false, ((L).map (V.int .u8)), rfl, rfl, rI⟩, trivial⟩⟩ (.us 2 (by kernel_rfl) (by kernel_rfl) ⟨.inr (.inr ⟨3, .cells true ((L).map (V.int .u8)), rfl, rfl, vI⟩), trivial⟩) VE.R VEL.R VE.R)) (ok_fn' hmix (n := 40) (os := (.c :: .c :: .r (.bool true) [h1b11, .cells false ((L).map (V.int .u8)), d_] :: cc 13 (.r (.sl 1 (p_ 3) n) (h1h37 L) :: .c :: []))) (by kernel_rfl) (a_ r_ (a_ (OK.pad (OK.rd (fv1 := (.fn 24 [])) (args1 := [(.ptr (p_ 0))]) (v1 := (.bool true)) (tr_s' ) [p_ 0] [p_ 0] (h1h36 L) (by kernel_rfl) (by kernel_rfl) (by kernel_rfl) ⟨⟨0, 0, false, [(.bool true), u_, u_, u_, u_], rfl, rfl, VEL.get_ro VEL.R⟩, trivial⟩ VE.R VEL.R VE.R)) (a_ r_ (a_ (OK.pad (OK.at (fv1 := (.fn 44 [])) (args1 := [(.sl 1 (p_ 1) n)]) (v1 := (.sl 1 (p_ 3) n)) (clone_ok L n h0 h1) [p_ 1] [p_ 1, p_ 3] [1] [h1b11, .cells false ((L).map (V.int .u8)), d_] [h1b11, .cells false ((L).map (V.int .u8)), d_, .cells true ((L).map (V.int .u8))] (by kernel_rfl) (by kernel_rfl) ⟨⟨1, 0, false, ((L).map (V.int .u8)), rfl, rfl, rI⟩, trivial⟩ (.us 3 (by kernel_rfl) (by kernel_rfl) ⟨.inr (.inr ⟨1, .cells true ((L).map (V.int .u8)), rfl, rfl, vI⟩), trivial⟩) VE.R VEL.R VE.R)) (a_ r_ (Eq.refl (((.sl 1 (p_ 3) n) : V), ((h1h37 L) : Heap)))))))))

theorem of_n_q_1   : OK cfg (.fn 44 []) [(.sl 1 none 0)] [h1b10, d_] (.sl 0 none 0) [h1b10, d_] :=
  ok_fn' hmix (n := 40) (os := (cc 5 ([]))) (by kernel_rfl) (a_ r_ (a_ r_ (a_ r_ (Eq.refl (((.sl 0 none 0) : V), ([h1b10, d_] : Heap))))))

theorem of_n'   : OK cfg (.fn 20 []) [(.ptr (p_ 0)), (.bool false), u_, (.sl 1 none 0)] [.cells false [(.bool false), u_, u_, u_, u_]] (.sl 1 none 0) [.cells false [(.bool false), u_, u_, u_, u_]] :=
  (fun (lem : OK cfg (.fn 20 []) [(.ptr (p_ 0)), (.bool false), u_, (.sl 1 none 0)] [h1b10] (.sl 1 none 0) [h1b10, d_, d_]) => (OK.rd (fv1 := (.fn 20 [])) (args1 := [(.ptr (p_ 0)), (.bool false), u_, (.sl 1 none 0)]) (v1 := (.sl 1 none 0)) lem [p_ 0] [p_ 0, none, none] [h1b10] (by kernel_rfl) (by kernel_rfl) (by kernel_rfl) ⟨⟨0, 0, false, [(.bool false), u_, u_, u_, u_], rfl, rfl, VEL.get_ro VEL.R⟩, trivial⟩ VE.R VEL.R VE.R)) (ok_fn' hmix (n := 40) (os := (.c :: .c :: .r (.bool false) [h1b10, d_] :: cc 15 (.r (.sl 0 none 0) [h1b10, d_, d_] :: .c :: []))) (by kernel_rfl) (a_ r_ (a_ (OK.pad (OK.rd (fv1 := (.fn 24 [])) (args1 := [(.ptr (p_ 0))]) (v1 := (.bool false)) (tr_o' ) [p_ 0] [p_ 0] [h1b10] (by kernel_rfl) (by kernel_rfl) (by kernel_rfl) ⟨⟨0, 0, false, [(.bool false), u_, u_, u_, u_], rfl, rfl, VEL.get_ro VEL.R⟩, trivial⟩ VE.R VEL.R VE.R)) (a_ r_ (a_ (OK.pad (of_n_q_1)) (a_ r_ (Eq.refl (((.sl 1 none 0) : V), ([h1b10, d_, d_] : Heap)))))))))

noncomputable abbrev h1h38 : Heap := [h1b10, .void, d_, c1 []]
theorem of_v_q_1   : OK cfg (.fn 44 []) [(.sl 1 (p_ 1) 0)] [h1b10, .void, d_] (.sl 1 (p_ 3) 0) h1h38 :=
  ok_fn' hmix (n := 40) (os := (cc 8 ([]))) (by kernel_rfl) (a_ r_ (a_ r_ (a_ r_ (Eq.refl (((.sl 1 (p_ 3) 0) : V), (h1h38 : Heap))))))

noncomputable abbrev h1h39 : Heap := [h1b10, .void, d_, c1 [], d_]
theorem of_v'   : OK cfg (.fn 20 []) [(.ptr (p_ 0)), (.bool false), u_, (.sl 1 (p_ 1) 0)] [.cells false [(.bool false), u_, u_, u_, u_], .void] (.sl 1 (p_ 2) 0) [.cells false [(.bool false), u_, u_, u_, u_], .void, c1 []] :=
  (fun (lem : OK cfg (.fn 20 []) [(.ptr (p_ 0)), (.bool false), u_, (.sl 1 (p_ 1) 0)] [h1b10, .void] (.sl 1 (p_ 3) 0) h1h39) => (OK.at (fv1 := (.fn 20 [])) (args1 := [(.ptr (p_ 0)), (.bool false), u_, (.sl 1 (p_ 1) 0)]) (v1 := (.sl 1 (p_ 2) 0)) lem [p_ 0, p_ 1] [p_ 0, p_ 1, none, p_ 2, none] [3] [h1b10, .void] [h1b10, .void, c1 []] (by kernel_rfl) (by kernel_rfl) ⟨⟨0, 0, false, [(.bool false), u_, u_, u_, u_], rfl, rfl, VEL.get_ro VEL.R⟩, ⟨⟨1, rfl, rfl⟩, trivial⟩⟩ (.us 2 (by kernel_rfl) (by kernel_rfl) ⟨.inr (.inr ⟨3, c1 [], rfl, rfl, VEL.P⟩), trivial⟩) VE.R VEL.R VE.R)) (ok_fn' hmix (n := 40) (os := (.c :: .c :: .r (.bool false) [h1b10, .void, d_] :: cc 15 (.r (.sl 1 (p_ 3) 0) h1h39 :: .c :: []))) (by kernel_rfl) (a_ r_ (a_ (OK.pad (OK.rd (fv1 := (.fn 24 [])) (args1 := [(.ptr (p_ 0))]) (v1 := (.bool false)) (tr_o' ) [p_ 0] [p_ 0] [h1b10, .void] (by kernel_rfl) (by kernel_rfl) (by kernel_rfl) ⟨⟨0, 0, false, [(.bool false), u_, u_, u_, u_], rfl, rfl, VEL.get_ro VEL.R⟩, trivial⟩ VE.R VEL.R VE.R)) (a_ r_ (a_ (OK.pad (of_v_q_1)) (a_ r_ (Eq.refl (((.sl 1 (p_ 3) 0) : V), (h1h39 : Heap)))))))))


noncomputable abbrev h1h40 (L : List Int) : Heap := [h1b10, .cells false ((L).map (V.int .u8))]
noncomputable abbrev h1h41 (L : List Int) : Heap := [h1b10, .cells false ((L).map (V.int .u8)), d_, .cells true ((L).map (V.int .u8)), d_]
theorem of_r' (L : List Int) (n : Nat) (h0 : L.length ≤ 140737488355328) (h1 : n = L.length) : OK cfg (.fn 20 []) [(.ptr (p_ 0)), (.bool false), u_, (.sl 1 (p_ 1) n)] [.cells false [(.bool false), u_, u_, u_, u_], .cells false ((L).map (V.int .u8))] (.sl 1 (p_ 2) n) [.cells false [(.bool false), u_, u_, u_, u_], .cells false ((L).map (V.int .u8)), .cells true ((L).map (V.int .u8))] :=
  (fun (lem : OK cfg (.fn 20 []) [(.ptr (p_ 0)), (.bool false), u_, (.sl 1 (p_ 1) n)] (h1h40 L) (.sl 1 (p_ 3) n) (h1h41 L)) => (OK.at (fv1 := (.fn 20 [])) (args1 := [(.ptr (p_ 0)), (.bool false), u_, (.sl 1 (p_ 1) n)]) (v1 := (.sl 1 (p_ 2) n)) lem [p_ 0, p_ 1] [p_ 0, p_ 1, none, p_ 2, none] [3] (h1h40 L) [h1b10, .cells false ((L).map (V.int .u8)), .cells true ((L).map (V.int .u8))] (by kernel_rfl) (by kernel_rfl) ⟨⟨0, 0, false, [(.bool false), u_, u_, u_, u_], rfl, rfl, VEL.get_ro VEL.R⟩, ⟨⟨1, 0, false, ((L).map (V.int .u8)), rfl, rfl, rI⟩, trivial⟩⟩ (.us 2 (by kernel_rfl) (by kernel_rfl) ⟨.inr (.inr ⟨3, .cells true ((L).map (V.int .u8)), rfl, rfl, vI⟩), trivial⟩) VE.R VEL.R VE.R)) (ok_fn' hmix (n := 40) (os := (.c :: .c :: .r (.bool false) [h1b10, .cells false ((L).map (V.int .u8)), d_] :: cc 15 (.r (.sl 1 (p_ 3) n) (h1h41 L) :: .c :: []))) (by kernel_rfl) (a_ r_ (a_ (OK.pad (OK.rd (fv1 := (.fn 24 [])) (args1 := [(.ptr (p_ 0))]) (v1 := (.bool false)) (tr_o' ) [p_ 0] [p_ 0] (h1h40 L) (by kernel_rfl) (by kernel_rfl) (by kernel_rfl) ⟨⟨0, 0, false, [(.bool false), u_, u_, u_, u_], rfl, rfl, VEL.get_ro VEL.R⟩, trivial⟩ VE.R VEL.R VE.R)) (a_ r_ (a_ (OK.pad (OK.at (fv1 := (.fn 44 [])) (args1 := [(.sl 1 (p_ 1) n)]) (v1 := (.sl 1 (p_ 3) n)) (clone_ok L n h0 h1) [p_ 1] [p_ 1, p_ 3] [1] [h1b10, .cells false ((L).map (V.int .u8)), d_] [h1b10, .cells false ((L).map (V.int .u8)), d_, .cells true ((L).map (V.int .u8))] (by kernel_rfl) (by kernel_rfl) ⟨⟨1, 0, false, ((L).map (V.int .u8)), rfl, rfl, rI⟩, trivial⟩ (.us 3 (by kernel_rfl) (by kernel_rfl) ⟨.inr (.inr ⟨1, .cells true ((L).map (V.int .u8)), rfl, rfl, vI⟩), trivial⟩) VE.R VEL.R VE.R)) (a_ r_ (Eq.refl (((.sl 1 (p_ 3) n) : V), ((h1h41 L) : Heap)))))))))

theorem oe_nn_q_1 (Rl Sf : List Int)  : OK cfg (.fn 44 []) [(.sl 1 none 0)] [h1b10, d_] (.sl 0 none 0) [h1b10, d_] :=
  ok_fn' hmix (n := 40) (os := (cc 5 ([]))) (by kernel_rfl) (a_ r_ (a_ r_ (a_ r_ (Eq.refl (((.sl 0 none 0) : V), ([h1b10, d_] : Heap))))))

theorem oe_nn' (Rl Sf : List Int)  : OK cfg (.fn 20 []) [(.ptr (p_ 0)), (.bool true), (.sl 1 none 0), (.sl 1 none 0)] [.cells false [(.bool false), u_, u_, u_, u_]] (.sl 1 none 0) [.cells false [(.bool false), u_, u_, u_, u_]] :=
  (fun (lem : OK cfg (.fn 20 []) [(.ptr (p_ 0)), (.bool true), (.sl 1 none 0), (.sl 1 none 0)] [h1b10] (.sl 1 none 0) [h1b10, d_, d_]) => (OK.rd (fv1 := (.fn 20 [])) (args1 := [(.ptr (p_ 0)), (.bool true), (.sl 1 none 0), (.sl 1 none 0)]) (v1 := (.sl 1 none 0)) lem [p_ 0] [p_ 0, none, none] [h1b10] (by kernel_rfl) (by kernel_rfl) (by kernel_rfl) ⟨⟨0, 0, false, [(.bool false), u_, u_, u_, u_], rfl, rfl, VEL.get_ro VEL.R⟩, trivial⟩ VE.R VEL.R VE.R)) (ok_fn' hmix (n := 40) (os := (.c :: .c :: .r (.bool false) [h1b10, d_] :: cc 20 (.r (.sl 0 none 0) [h1b10, d_, d_] :: .c :: []))) (by kernel_rfl) (a_ r_ (a_ (OK.pad (OK.rd (fv1 := (.fn 24 [])) (args1 := [(.ptr (p_ 0))]) (v1 := (.bool false)) (tr_o' ) [p_ 0] [p_ 0] [h1b10] (by kernel_rfl) (by kernel_rfl) (by kernel_rfl) ⟨⟨0, 0, false, [(.bool false), u_, u_, u_, u_], rfl, rfl, VEL.get_ro VEL.R⟩, trivial⟩ VE.R VEL.R VE.R)) (a_ r_ (a_ (OK.pad (oe_nn_q_1 Rl Sf)) (a_ r_ (Eq.refl (((.sl 1 none 0) : V), ([h1b10, d_, d_] : Heap)))))))))

theorem oe_nv_q_1 (Rl Sf : List Int)  : OK cfg (.fn 44 []) [(.sl 1 none 0)] [h1b10, .void, d_] (.sl 0 none 0) [h1b10, .void, d_] :=
  ok_fn' hmix (n := 40) (os := (cc 5 ([]))) (by kernel_rfl) (a_ r_ (a_ r_ (a_ r_ (Eq.refl (((.sl 0 none 0) : V), ([h1b10, .void, d_] : Heap))))))

theorem oe_nv' (Rl Sf : List Int)  : OK cfg (.fn 20 []) [(.ptr (p_ 0)), (.bool true), (.sl 1 none 0), (.sl 1 (p_ 1) 0)] [.cells false [(.bool false), u_, u_, u_, u_], .void] (.sl 1 none 0) [.cells false [(.bool false), u_, u_, u_, u_], .void] :=
  (fun (lem : OK cfg (.fn 20 []) [(.ptr (p_ 0)), (.bool true), (.sl 1 none 0), (.sl 1 (p_ 1) 0)] [h1b10, .void] (.sl 1 none 0) [h1b10, .void, d_, d_]) => (OK.rd (fv1 := (.fn 20 [])) (args1 := [(.ptr (p_ 0)), (.bool true), (.sl 1 none 0), (.sl 1 (p_ 1) 0)]) (v1 := (.sl 1 none 0)) lem [p_ 0, p_ 1] [p_ 0, p_ 1, none, none] [h1b10, .void] (by kernel_rfl) (by kernel_rfl) (by kernel_rfl) ⟨⟨0, 0, false, [(.bool false), u_, u_, u_, u_], rfl, rfl, VEL.get_ro VEL.R⟩, ⟨⟨1, rfl, rfl⟩, trivial⟩⟩ VE.R VEL.R VE.R)) (ok_fn' hmix (n := 40) (os := (.c :: .c :: .r (.bool false) [h1b10, .void, d_] :: cc 20 (.r (.sl 0 none 0) [h1b10, .void, d_, d_] :: .c :: []))) (by kernel_rfl) (a_ r_ (a_ (OK.pad (OK.rd (fv1 := (.fn 24 [])) (args1 := [(.ptr (p_ 0))]) (v1 := (.bool false)) (tr_o' ) [p_ 0] [p_ 0] [h1b10, .void] (by kernel_rfl) (by kernel_rfl) (by kernel_rfl) ⟨⟨0, 0, false, [(.bool false), u_, u_, u_, u_], rfl, rfl, VEL.get_ro VEL.R⟩, trivial⟩ VE.R VEL.R VE.R)) (a_ r_ (a_ (OK.pad (oe_nv_q_1 Rl Sf)) (a_ r_ (Eq.refl (((.sl 1 none 0) : V), ([h1b10, .void, d_, d_] : Heap)))))))))

noncomputable abbrev h1h42 (Sf : List Int) : Heap := [h1b10, .cells false ((Sf).map (V.int .u8)), d_]
theorem oe_nr_q_1 (Rl Sf : List Int)  : OK cfg (.fn 44 []) [(.sl 1 none 0)] (h1h42 Sf) (.sl 0 none 0) (h1h42 Sf) :=
  ok_fn' hmix (n := 40) (os := (cc 5 ([]))) (by kernel_rfl) (a_ r_ (a_ r_ (a_ r_ (Eq.refl (((.sl 0 none 0) : V), ((h1h42 Sf) : Heap))))))

noncomputable abbrev h1h43 (Sf : List Int) : Heap := [h1b10, .cells false ((Sf).map (V.int .u8))]
noncomputable abbrev h1h44 (Sf : List Int) : Heap := [h1b10, .cells false ((Sf).map (V.int .u8)), d_, d_]
theorem oe_nr' (Rl Sf : List Int) (h0 : ((0 : Int) != ((Sf.length : Nat) : Int)) = false) : OK cfg (.fn 20 []) [(.ptr (p_ 0)), (.bool true), (.sl 1 none 0), (.sl 1 (p_ 1) Sf.length)] [.cells false [(.bool false), u_, u_, u_, u_], .cells false ((Sf).map (V.int .u8))] (.sl 1 none 0) [.cells false [(.bool false), u_, u_, u_, u_], .cells false ((Sf).map (V.int .u8))] :=
  (fun (lem : OK cfg (.fn 20 []) [(.ptr (p_ 0)), (.bool true), (.sl 1 none 0), (.sl 1 (p_ 1) Sf.length)] (h1h43 Sf) (.sl 1 none 0) (h1h44 Sf)) => (OK.rd (fv1 := (.fn 20 [])) (args1 := [(.ptr (p_ 0)), (.bool true), (.sl 1 none 0), (.sl 1 (p_ 1) Sf.length)]) (v1 := (.sl 1 none 0)) lem [p_ 0, p_ 1] [p_ 0, p_ 1, none, none] (h1h43 Sf) (by kernel_rfl) (by kernel_rfl) (by kernel_rfl) ⟨⟨0, 0, false, [(.bool false), u_, u_, u_, u_], rfl, rfl, VEL.get_ro VEL.R⟩, ⟨⟨1, 0, false, ((Sf).map (V.int .u8)), rfl, rfl, rI⟩, trivial⟩⟩ VE.R VEL.R VE.R)) (ok_fn' hmix (n := 40) (os := (.c :: .c :: .r (.bool false) (h1h42 Sf) :: cc 18 (.f :: .c :: .r (.sl 0 none 0) (h1h44 Sf) :: .c :: []))) (by kernel_rfl) (a_ r_ (a_ (OK.pad (OK.rd (fv1 := (.fn 24 [])) (args1 := [(.ptr (p_ 0))]) (v1 := (.bool false)) (tr_o' ) [p_ 0] [p_ 0] (h1h43 Sf) (by kernel_rfl) (by kernel_rfl) (by kernel_rfl) ⟨⟨0, 0, false, [(.bool false), u_, u_, u_, u_], rfl, rfl, VEL.get_ro VEL.R⟩, trivial⟩ VE.R VEL.R VE.R)) (a_ r_ (a_ h0 (a_ (OK.pad (oe_nr_q_1 Rl Sf)) (a_ r_ (Eq.refl (((.sl 1 none 0) : V), ((h1h44 Sf) : Heap))))))))))

theorem oe_vn_q_1 (Rl Sf : List Int)  : OK cfg (.fn 44 []) [(.sl 1 (p_ 1) 0)] [h1b10, .void, d_] (.sl 1 (p_ 3) 0) h1h38 :=
  ok_fn' hmix (n := 40) (os := (cc 8 ([]))) (by kernel_rfl) (a_ r_ (a_ r_ (a_ r_ (Eq.refl (((.sl 1 (p_ 3) 0) : V), (h1h38 : Heap))))))

theorem oe_vn' (Rl Sf : List Int)  : OK cfg (.fn 20 []) [(.ptr (p_ 0)), (.bool true), (.sl 1 (p_ 1) 0), (.sl 1 none 0)] [.cells false [(.bool false), u_, u_, u_, u_], .void] (.sl 1 (p_ 2) 0) [.cells false [(.bool false), u_, u_, u_, u_], .void, c1 []] :=
  (fun (lem : OK cfg (.fn 20 []) [(.ptr (p_ 0)), (.bool true), (.sl 1 (p_ 1) 0), (.sl 1 none 0)] [h1b10, .void] (.sl 1 (p_ 3) 0) h1h39) => (OK.at (fv1 := (.fn 20 [])) (args1 := [(.ptr (p_ 0)), (.bool true), (.sl 1 (p_ 1) 0), (.sl 1 none 0)]) (v1 := (.sl 1 (p_ 2) 0)) lem [p_ 0, p_ 1] [p_ 0, p_ 1, none, p_ 2, none] [3] [h1b10, .void] [h1b10, .void, c1 []] (by kernel_rfl) (by kernel_rfl) ⟨⟨0, 0, false, [(.bool false), u_, u_, u_, u_], rfl, rfl, VEL.get_ro VEL.R⟩, ⟨⟨1, rfl, rfl⟩, trivial⟩⟩ (.us 2 (by kernel_rfl) (by kernel_rfl) ⟨.inr (.inr ⟨3, c1 [], rfl, rfl, VEL.P⟩), trivial⟩) VE.R VEL.R VE.R)) (ok_fn' hmix (n := 40) (os := (.c :: .c :: .r (.bool false) [h1b10, .void, d_] :: cc 20 (.r (.sl 1 (p_ 3) 0) h1h39 :: .c :: []))) (by kernel_rfl) (a_ r_ (a_ (OK.pad (OK.rd (fv1 := (.fn 24 [])) (args1 := [(.ptr (p_ 0))]) (v1 := (.bool false)) (tr_o' ) [p_ 0] [p_ 0] [h1b10, .void] (by kernel_rfl) (by kernel_rfl) (by kernel_rfl) ⟨⟨0, 0, false, [(.bool false), u_, u_, u_, u_], rfl, rfl, VEL.get_ro VEL.R⟩, trivial⟩ VE.R VEL.R VE.R)) (a_ r_ (a_ (OK.pad (oe_vn_q_1 Rl Sf)) (a_ r_ (Eq.refl (((.sl 1 (p_ 3) 0) : V), (h1h39 : Heap)))))))))

theorem oe_vv_q_1 (Rl Sf : List Int)  : OK cfg (.fn 44 []) [(.sl 1 (p_ 1) 0)] [h1b10, .void, .void, d_] (.sl 1 (p_ 4) 0) [h1b10, .void, .void, d_, c1 []] :=
  ok_fn' hmix (n := 40) (os := (cc 8 ([]))) (by kernel_rfl) (a_ r_ (a_ r_ (a_ r_ (Eq.refl (((.sl 1 (p_ 4) 0) : V), ([h1b10, .void, .void, d_, c1 []] : Heap))))))

noncomputable abbrev h1h45 : Heap := [h1b10, .void, .void, d_, c1 [], d_]
theorem oe_vv' (Rl Sf : List Int)  : OK cfg (.fn 20 []) [(.ptr (p_ 0)), (.bool true), (.sl 1 (p_ 1) 0), (.sl 1 (p_ 2) 0)] [.cells false [(.bool false), u_, u_, u_, u_], .void, .void] (.sl 1 (p_ 3) 0) [.cells false [(.bool false), u_, u_, u_, u_], .void, .void, c1 []] :=
  (fun (lem : OK cfg (.fn 20 []) [(.ptr (p_ 0)), (.bool true), (.sl 1 (p_ 1) 0), (.sl 1 (p_ 2) 0)] [h1b10, .void, .void] (.sl 1 (p_ 4) 0) h1h45) => (OK.at (fv1 := (.fn 20 [])) (args1 := [(.ptr (p_ 0)), (.bool true), (.sl 1 (p_ 1) 0), (.sl 1 (p_ 2) 0)]) (v1 := (.sl 1 (p_ 3) 0)) lem [p_ 0, p_ 1, p_ 2] [p_ 0, p_ 1, p_ 2, none, p_ 3, none] [4] [h1b10, .void, .void] [h1b10, .void, .void, c1 []] (by kernel_rfl) (by kernel_rfl) ⟨⟨0, 0, false, [(.bool false), u_, u_, u_, u_], rfl, rfl, VEL.get_ro VEL.R⟩, ⟨⟨1, rfl, rfl⟩, ⟨⟨2, rfl, rfl⟩, trivial⟩⟩⟩ (.us 3 (by kernel_rfl) (by kernel_rfl) ⟨.inr (.inr ⟨4, c1 [], rfl, rfl, VEL.P⟩), trivial⟩) VE.R VEL.R VE.R)) (ok_fn' hmix (n := 40) (os := (.c :: .c :: .r (.bool false) [h1b10, .void, .void, d_] :: cc 20 (.r (.sl 1 (p_ 4) 0) h1h45 :: .c :: []))) (by kernel_rfl) (a_ r_ (a_ (OK.pad (OK.rd (fv1 := (.fn 24 [])) (args1 := [(.ptr (p_ 0))]) (v1 := (.bool false)) (tr_o' ) [p_ 0] [p_ 0] [h1b10, .void, .void] (by kernel_rfl) (by kernel_rfl) (by kernel_rfl) ⟨⟨0, 0, false, [(.bool false), u_, u_, u_, u_], rfl, rfl, VEL.get_ro VEL.R⟩, trivial⟩ VE.R VEL.R VE.R)) (a_ r_ (a_ (OK.pad (oe_vv_q_1 Rl Sf)) (a_ r_ (Eq.refl (((.sl 1 (p_ 4) 0) : V), (h1h45 : Heap)))))))))

theorem oe_vr_q_1 (Rl Sf : List Int)  : OK cfg (.fn 44 []) [(.sl 1 (p_ 1) 0)] [h1b10, .void, .cells false ((Sf).map (V.int .u8)), d_] (.sl 1 (p_ 4) 0) [h1b10, .void, .cells false ((Sf).map (V.int .u8)), d_, c1 []] :=
  ok_fn' hmix (n := 40) (os := (cc 8 ([]))) (by kernel_rfl) (a_ r_ (a_ r_ (a_ r_ (Eq.refl (((.sl 1 (p_ 4) 0) : V), ([h1b10, .void, .cells false ((Sf).map (V.int .u8)), d_, c1 []] : Heap))))))

noncomputable abbrev h1h46 (Sf : List Int) : Heap := [h1b10, .void, .cells false ((Sf).map (V.int .u8))]
noncomputable abbrev h1h47 (Sf : List Int) : Heap := [h1b10, .void, .cells false ((Sf).map (V.int .u8)), d_, c1 [], d_]
theorem oe_vr' (Rl Sf : List Int) (h0 : ((0 : Int) != ((Sf.length : Nat) : Int)) = false) : OK cfg (.fn 20 []) [(.ptr (p_ 0)), (.bool true), (.sl 1 (p_ 1) 0), (.sl 1 (p_ 2) Sf.length)] [.cells false [(.bool false), u_, u_, u_, u_], .void, .cells false ((Sf).map (V.int .u8))] (.sl 1 (p_ 3) 0) [.cells false [(.bool false), u_, u_, u_, u_], .void, .cells false ((Sf).map (V.int .u8)), c1 []] :=
  (fun (lem : OK cfg (.fn 20 []) [(.ptr (p_ 0)), (.bool true), (.sl 1 (p_ 1) 0), (.sl 1 (p_ 2) Sf.length)] (h1h46 Sf) (.sl 1 (p_ 4) 0) (h1h47 Sf)) => (OK.at (fv1 := (.fn 20 [])) (args1 := [(.ptr (p_ 0)), (.bool true), (.sl 1 (p_ 1) 0), (.sl 1 (p_ 2) Sf.length)]) (v1 := (.sl 1 (p_ 3) 0)) lem [p_ 0, p_ 1, p_ 2] [p_ 0, p_ 1, p_ 2, none, p_ 3, none] [4] (h1h46 Sf) [h1b10, .void, .cells false ((Sf).map (V.int .u8)), c1 []] (by kernel_rfl) (by kernel_rfl) ⟨⟨0, 0, false, [(.bool false), u_, u_, u_, u_], rfl, rfl, VEL.get_ro VEL.R⟩, ⟨⟨1, rfl, rfl⟩, ⟨⟨2, 0, false, ((Sf).map (V.int .u8)), rfl, rfl, rI⟩, trivial⟩⟩⟩ (.us 3 (by kernel_rfl) (by kernel_rfl) ⟨.inr (.inr ⟨4, c1 [], rfl, rfl, VEL.P⟩), trivial⟩) VE.R VEL.R VE.R)) (ok_fn' hmix (n := 40) (os := (.c :: .c :: .r (.bool false) [h1b10, .void, .cells false ((Sf).map (V.int .u8)), d_] :: cc 18 (.f :: .c :: .r (.sl 1 (p_ 4) 0) (h1h47 Sf) :: .c :: []))) (by kernel_rfl) (a_ r_ (a_ (OK.pad (OK.rd (fv1 := (.fn 24 [])) (args1 := [(.ptr (p_ 0))]) (v1 := (.bool false)) (tr_o' ) [p_ 0] [p_ 0] (h1h46 Sf) (by kernel_rfl) (by kernel_rfl) (by kernel_rfl) ⟨⟨0, 0, false, [(.bool false), u_, u_, u_, u_], rfl, rfl, VEL.get_ro VEL.R⟩, trivial⟩ VE.R VEL.R VE.R)) (a_ r_ (a_ h0 (a_ (OK.pad (oe_vr_q_1 Rl Sf)) (a_ r_ (Eq.refl (((.sl 1 (p_ 4) 0) : V), ((h1h47 Sf) : Heap))))))))))


noncomputable abbrev h1h48 (Rl : List Int) : Heap := [h1b10, .cells false ((Rl).map (V.int .u8))]
noncomputable abbrev h1h49 (Rl : List Int) : Heap := [h1b10, .cells false ((Rl).map (V.int .u8)), d_, .cells true ((Rl).map (V.int .u8)), d_]
theorem oe_rn' (Rl Sf : List Int) (h0 : ((((Rl.length : Nat) : Int) : Int) != 0) = false) (h1 : Rl.length ≤ 140737488355328) : OK cfg (.fn 20 []) [(.ptr (p_ 0)), (.bool true), (.sl 1 (p_ 1) Rl.length), (.sl 1 none 0)] [.cells false [(.bool false), u_, u_, u_, u_], .cells false ((Rl).map (V.int .u8))] (.sl 1 (p_ 2) Rl.length) [.cells false [(.bool false), u_, u_, u_, u_], .cells false ((Rl).map (V.int .u8)), .cells true ((Rl).map (V.int .u8))] :=
  (fun (lem : OK cfg (.fn 20 []) [(.ptr (p_ 0)), (.bool true), (.sl 1 (p_ 1) Rl.length), (.sl 1 none 0)] (h1h48 Rl) (.sl 1 (p_ 3) Rl.length) (h1h49 Rl)) => (OK.at (fv1 := (.fn 20 [])) (args1 := [(.ptr (p_ 0)), (.bool true), (.sl 1 (p_ 1) Rl.length), (.sl 1 none 0)]) (v1 := (.sl 1 (p_ 2) Rl.length)) lem [p_ 0, p_ 1] [p_ 0, p_ 1, none, p_ 2, none] [3] (h1h48 Rl) [h1b10, .cells false ((Rl).map (V.int .u8)), .cells true ((Rl).map (V.int .u8))] (by kernel_rfl) (by kernel_rfl) ⟨⟨0, 0, false, [(.bool false), u_, u_, u_, u_], rfl, rfl, VEL.get_ro VEL.R⟩, ⟨⟨1, 0, false, ((Rl).map (V.int .u8)), rfl, rfl, rI⟩, trivial⟩⟩ (.us 2 (by kernel_rfl) (by kernel_rfl) ⟨.inr (.inr ⟨3, .cells true ((Rl).map (V.int .u8)), rfl, rfl, vI⟩), trivial⟩) VE.R VEL.R VE.R)) (ok_fn' hmix (n := 40) (os := (.c :: .c :: .r (.bool false) [h1b10, .cells false ((Rl).map (V.int .u8)), d_] :: cc 18 (.f :: .c :: .r (.sl 1 (p_ 3) Rl.length) (h1h49 Rl) :: .c :: []))) (by kernel_rfl) (a_ r_ (a_ (OK.pad (OK.rd (fv1 := (.fn 24 [])) (args1 := [(.ptr (p_ 0))]) (v1 := (.bool false)) (tr_o' ) [p_ 0] [p_ 0] (h1h48 Rl) (by kernel_rfl) (by kernel_rfl) (by kernel_rfl) ⟨⟨0, 0, false, [(.bool false), u_, u_, u_, u_], rfl, rfl, VEL.get_ro VEL.R⟩, trivial⟩ VE.R VEL.R VE.R)) (a_ r_ (a_ h0 (a_ (OK.pad (OK.at (fv1 := (.fn 44 [])) (args1 := [(.sl 1 (p_ 1) Rl.length)]) (v1 := (.sl 1 (p_ 3) Rl.length)) (clone_ok Rl (Rl.length) h1 rfl) [p_ 1] [p_ 1, p_ 3] [1] [h1b10, .cells false ((Rl).map (V.int .u8)), d_] [h1b10, .cells false ((Rl).map (V.int .u8)), d_, .cells true ((Rl).map (V.int .u8))] (by kernel_rfl) (by kernel_rfl) ⟨⟨1, 0, false, ((Rl).map (V.int .u8)), rfl, rfl, rI⟩, trivial⟩ (.us 3 (by kernel_rfl) (by kernel_rfl) ⟨.inr (.inr ⟨1, .cells true ((Rl).map (V.int .u8)), rfl, rfl, vI⟩), trivial⟩) VE.R VEL.R VE.R)) (a_ r_ (Eq.refl (((.sl 1 (p_ 3) Rl.length) : V), ((h1h49 Rl) : Heap))))))))))


noncomputable abbrev h1h50 (Rl : List Int) : Heap := [h1b10, .cells false ((Rl).map (V.int .u8)), .void]
noncomputable abbrev h1h51 (Rl : List Int) : Heap := [h1b10, .cells false ((Rl).map (V.int .u8)), .void, d_, .cells true ((Rl).map (V.int .u8)), d_]
theorem oe_rv' (Rl Sf : List Int) (h0 : ((((Rl.length : Nat) : Int) : Int) != 0) = false) (h1 : Rl.length ≤ 140737488355328) : OK cfg (.fn 20 []) [(.ptr (p_ 0)), (.bool true), (.sl 1 (p_ 1) Rl.length), (.sl 1 (p_ 2) 0)] [.cells false [(.bool false), u_, u_, u_, u_], .cells false ((Rl).map (V.int .u8)), .void] (.sl 1 (p_ 3) Rl.length) [.cells false [(.bool false), u_, u_, u_, u_], .cells false ((Rl).map (V.int .u8)), .void, .cells true ((Rl).map (V.int .u8))] :=
  (fun (lem : OK cfg (.fn 20 []) [(.ptr (p_ 0)), (.bool true), (.sl 1 (p_ 1) Rl.length), (.sl 1 (p_ 2) 0)] (h1h50 Rl) (.sl 1 (p_ 4) Rl.length) (h1h51 Rl)) => (OK.at (fv1 := (.fn 20 [])) (args1 := [(.ptr (p_ 0)), (.bool true), (.sl 1 (p_ 1) Rl.length), (.sl 1 (p_ 2) 0)]) (v1 := (.sl 1 (p_ 3) Rl.length)) lem [p_ 0, p_ 1, p_ 2] [p_ 0, p_ 1, p_ 2, none, p_ 3, none] [4] (h1h50 Rl) [h1b10, .cells false ((Rl).map (V.int .u8)), .void, .cells true ((Rl).map (V.int .u8))] (by kernel_rfl) (by kernel_rfl) ⟨⟨0, 0, false, [(.bool false), u_, u_, u_, u_], rfl, rfl, VEL.get_ro VEL.R⟩, ⟨⟨1, 0, false, ((Rl).map (V.int .u8)), rfl, rfl, rI⟩, ⟨⟨2, rfl, rfl⟩, trivial⟩⟩⟩ (.us 3 (by kernel_rfl) (by kernel_rfl) ⟨.inr (.inr ⟨4, .cells true ((Rl).map (V.int .u8)), rfl, rfl, vI⟩), trivial⟩) VE.R VEL.R VE.R)) (ok_fn' hmix (n := 40) (os := (.c :: .c :: .r (.bool false) [h1b10, .cells false ((Rl).map (V.int .u8)), .void, d_] :: cc 18 (.f :: .c :: .r (.sl 1 (p_ 4) Rl.length) (h1h51 Rl) :: .c :: []))) (by kernel_rfl) (a_ r_ (a_ (OK.pad (OK.rd (fv1 := (.fn 24 [])) (args1 := [(.ptr (p_ 0))]) (v1 := (.bool false)) (tr_o' ) [p_ 0] [p_ 0] (h1h50 Rl) (by kernel_rfl) (by kernel_rfl) (by kernel_rfl) ⟨⟨0, 0, false, [(.bool false), u_, u_, u_, u_], rfl, rfl, VEL.get_ro VEL.R⟩, trivial⟩ VE.R VEL.R VE.R)) (a_ r_ (a_ h0 (a_ (OK.pad (OK.at (fv1 := (.fn 44 [])) (args1 := [(.sl 1 (p_ 1) Rl.length)]) (v1 := (.sl 1 (p_ 4) Rl.length)) (clone_ok Rl (Rl.length) h1 rfl) [p_ 1] [p_ 1, p_ 4] [1] [h1b10, .cells false ((Rl).map (V.int .u8)), .void, d_] [h1b10, .cells false ((Rl).map (V.int .u8)), .void, d_, .cells true ((Rl).map (V.int .u8))] (by kernel_rfl) (by kernel_rfl) ⟨⟨1, 0, false, ((Rl).map (V.int .u8)), rfl, rfl, rI⟩, trivial⟩ (.us 4 (by kernel_rfl) (by kernel_rfl) ⟨.inr (.inr ⟨1, .cells true ((Rl).map (V.int .u8)), rfl, rfl, vI⟩), trivial⟩) VE.R VEL.R VE.R)) (a_ r_ (Eq.refl (((.sl 1 (p_ 4) Rl.length) : V), ((h1h51 Rl) : Heap))))))))))


noncomputable abbrev h1h52 (Rl : List Int) (Sf : List Int) : Heap := [h1b10, .cells false ((Rl).map (V.int .u8)), .cells false ((Sf).map (V.int .u8))]
noncomputable abbrev h1h53 (Rl : List Int) (Sf : List Int) : Heap := [h1b10, .cells false ((Rl).map (V.int .u8)), .cells false ((Sf).map (V.int .u8)), d_, .cells true ((Rl).map (V.int .u8)), d_]
theorem oe_rr' (Rl Sf : List Int) (h0 : ((((Rl.length : Nat) : Int) : Int) != ((Sf.length : Nat) : Int)) = false) (h1 : Rl.length ≤ 140737488355328) : OK cfg (.fn 20 []) [(.ptr (p_ 0)), (.bool true), (.sl 1 (p_ 1) Rl.length), (.sl 1 (p_ 2) Sf.length)] [.cells false [(.bool false), u_, u_, u_, u_], .cells false ((Rl).map (V.int .u8)), .cells false ((Sf).map (V.int .u8))] (.sl 1 (p_ 3) Rl.length) [.cells false [(.bool false), u_, u_, u_, u_], .cells false ((Rl).map (V.int .u8)), .cells false ((Sf).map (V.int .u8)), .cells true ((Rl).map (V.int .u8))] :=
  (fun (lem : OK cfg (.fn 20 []) [(.ptr (p_ 0)), (.bool true), (.sl 1 (p_ 1) Rl.length), (.sl 1 (p_ 2) Sf.length)] (h1h52 Rl Sf) (.sl 1 (p_ 4) Rl.length) (h1h53 Rl Sf)) => (OK.at (fv1 := (.fn 20 [])) (args1 := [(.ptr (p_ 0)), (.bool true), (.sl 1 (p_ 1) Rl.length), (.sl 1 (p_ 2) Sf.length)]) (v1 := (.sl 1 (p_ 3) Rl.length)) lem [p_ 0, p_ 1, p_ 2] [p_ 0, p_ 1, p_ 2, none, p_ 3, none] [4] (h1h52 Rl Sf) [h1b10, .cells false ((Rl).map (V.int .u8)), .cells false ((Sf).map (V.int .u8)), .cells true ((Rl).map (V.int .u8))] (by kernel_rfl) (by kernel_rfl) ⟨⟨0, 0, false, [(.bool false), u_, u_, u_, u_], rfl, rfl, VEL.get_ro VEL.R⟩, ⟨⟨1, 0, false, ((Rl).map (V.int .u8)), rfl, rfl, rI⟩, ⟨⟨2, 0, false, ((Sf).map (V.int .u8)), rfl, rfl, rI⟩, trivial⟩⟩⟩ (.us 3 (by kernel_rfl) (by kernel_rfl) ⟨.inr (.inr ⟨4, .cells true ((Rl).map (V.int .u8)), rfl, rfl, vI⟩), trivial⟩) VE.R VEL.R VE.R)) (ok_fn' hmix (n := 40) (os := (.c :: .c :: .r (.bool false) [h1b10, .cells false ((Rl).map (V.int .u8)), .cells false ((Sf).map (V.int .u8)), d_] :: cc 18 (.f :: .c :: .r (.sl 1 (p_ 4) Rl.length) (h1h53 Rl Sf) :: .c :: []))) (by kernel_rfl) (a_ r_ (a_ (OK.pad (OK.rd (fv1 := (.fn 24 [])) (args1 := [(.ptr (p_ 0))]) (v1 := (.bool false)) (tr_o' ) [p_ 0] [p_ 0] (h1h52 Rl Sf) (by kernel_rfl) (by kernel_rfl) (by kernel_rfl) ⟨⟨0, 0, false, [(.bool false), u_, u_, u_, u_], rfl, rfl, VEL.get_ro VEL.R⟩, trivial⟩ VE.R VEL.R VE.R)) (a_ r_ (a_ h0 (a_ (OK.pad (OK.at (fv1 := (.fn 44 [])) (args1 := [(.sl 1 (p_ 1) Rl.length)]) (v1 := (.sl 1 (p_ 4) Rl.length)) (clone_ok Rl (Rl.length) h1 rfl) [p_ 1] [p_ 1, p_ 4] [1] [h1b10, .cells false ((Rl).map (V.int .u8)), .cells false ((Sf).map (V.int .u8)), d_] [h1b10, .cells false ((Rl).map (V.int .u8)), .cells false ((Sf).map (V.int .u8)), d_, .cells true ((Rl).map (V.int .u8))] (by kernel_rfl) (by kernel_rfl) ⟨⟨1, 0, false, ((Rl).map (V.int .u8)), rfl, rfl, rI⟩, trivial⟩ (.us 4 (by kernel_rfl) (by kernel_rfl) ⟨.inr (.inr ⟨1, .cells true ((Rl).map (V.int .u8)), rfl, rfl, vI⟩), trivial⟩) VE.R VEL.R VE.R)) (a_ r_ (Eq.refl (((.sl 1 (p_ 4) Rl.length) : V), ((h1h53 Rl Sf) : Heap))))))))))

end Go.Proofs.Ytfhjdnekidhjnaa.latch
