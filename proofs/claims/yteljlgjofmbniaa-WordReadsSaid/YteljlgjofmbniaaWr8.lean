/-
  What is read of any bytes, up to the first error, is the document's.
-/
import Derived.Test.YteljlgjofmbniaaWr7
set_option linter.unusedVariables false
set_option linter.unusedSimpArgs false
set_option maxRecDepth 100000
namespace Go.Proofs.Yteljlgjofmbniaa.words
open Go Go.Vm

theorem w_nd_q_1 (S : List WT) (X : List V) (C : Nat → List V) (hC : ∀ k, plains (C k) = true) (hR : HR S X 20) (m rl : Nat) (hl0 : LOK cfg none (lb 3 0) (u_ :: (.sl 3 (some (20, 0)) m) :: u_ :: u_ :: u_ :: (.ptr (some (21, 0))) :: (.sl 1 none 0) :: (i6 0) :: (i6 0) :: us 146) (hA C S X [c1 [(i6 0), (.sl 1 none 0)]]) (.exit 0) (us 155) (hA C S X [d_]))  : OK cfg (.fn 8 []) [(.sl 1 none 0)] (hA C S X []) (.ptr (some (21, 0))) (hA C S X [c1 [(i6 0), (.sl 1 none 0)]]) :=
  ok_fn' hmix (n := 40) (os := [.c, .c, .c, .c, .c, .c]) (by kernel_rfl) (And.intro r_ (And.intro r_ (Eq.refl (((.ptr (some (21, 0))) : V), ((hA C S X [c1 [(i6 0), (.sl 1 none 0)]]) : Heap)))))

theorem w_nd_q_2 (S : List WT) (X : List V) (C : Nat → List V) (hC : ∀ k, plains (C k) = true) (hR : HR S X 20) (m rl : Nat) (hl0 : LOK cfg none (lb 3 0) (u_ :: (.sl 3 (some (20, 0)) m) :: u_ :: u_ :: u_ :: (.ptr (some (21, 0))) :: (.sl 1 none 0) :: (i6 0) :: (i6 0) :: us 146) (hA C S X [c1 [(i6 0), (.sl 1 none 0)]]) (.exit 0) (us 155) (hA C S X [d_]))  : OK cfg (.fn 11 []) [(.ptr none), (i6 2)] (hA C S X [d_, d_, d_]) (i6 0) (hA C S X [d_, d_, d_]) :=
  ok_fn' hmix (n := 40) (os := [.c, .c, .c, .c, .c, .c, .c, .c, .c, .c, .c, .c, .c]) (by kernel_rfl) (And.intro r_ (And.intro r_ (And.intro r_ (Eq.refl (((i6 0) : V), ((hA C S X [d_, d_, d_]) : Heap))))))

theorem w_nd_q_3 (S : List WT) (X : List V) (C : Nat → List V) (hC : ∀ k, plains (C k) = true) (hR : HR S X 20) (m rl : Nat) (hl0 : LOK cfg none (lb 3 0) (u_ :: (.sl 3 (some (20, 0)) m) :: u_ :: u_ :: u_ :: (.ptr (some (21, 0))) :: (.sl 1 none 0) :: (i6 0) :: (i6 0) :: us 146) (hA C S X [c1 [(i6 0), (.sl 1 none 0)]]) (.exit 0) (us 155) (hA C S X [d_]))  : OK cfg (.fn 9 []) [(.ptr none), (i6 1)] (hA C S X [d_, d_, d_, d_]) (.sl 0 none 0) (hA C S X [d_, d_, d_, d_]) :=
  ok_fn' hmix (n := 40) (os := [.c, .c, .c, .c, .c, .c, .c, .c, .c, .c, .c, .c, .c, .c]) (by kernel_rfl) (And.intro r_ (And.intro r_ (And.intro r_ (Eq.refl (((.sl 0 none 0) : V), ((hA C S X [d_, d_, d_, d_]) : Heap))))))

theorem w_nd_q_4 (S : List WT) (X : List V) (C : Nat → List V) (hC : ∀ k, plains (C k) = true) (hR : HR S X 20) (m rl : Nat) (hl0 : LOK cfg none (lb 3 0) (u_ :: (.sl 3 (some (20, 0)) m) :: u_ :: u_ :: u_ :: (.ptr (some (21, 0))) :: (.sl 1 none 0) :: (i6 0) :: (i6 0) :: us 146) (hA C S X [c1 [(i6 0), (.sl 1 none 0)]]) (.exit 0) (us 155) (hA C S X [d_]))  : OK cfg (.fn 15 []) [(.ptr none)] (hA C S X [d_, d_, d_, d_, d_]) (i6 0) (hA C S X [d_, d_, d_, d_, d_]) :=
  ok_fn' hmix (n := 40) (os := [.c, .c, .c, .c, .c]) (by kernel_rfl) (And.intro r_ (And.intro r_ (And.intro r_ (Eq.refl (((i6 0) : V), ((hA C S X [d_, d_, d_, d_, d_]) : Heap))))))

theorem w_nd_q_5 (S : List WT) (X : List V) (C : Nat → List V) (hC : ∀ k, plains (C k) = true) (hR : HR S X 20) (m rl : Nat) (hl0 : LOK cfg none (lb 3 0) (u_ :: (.sl 3 (some (20, 0)) m) :: u_ :: u_ :: u_ :: (.ptr (some (21, 0))) :: (.sl 1 none 0) :: (i6 0) :: (i6 0) :: us 146) (hA C S X [c1 [(i6 0), (.sl 1 none 0)]]) (.exit 0) (us 155) (hA C S X [d_]))  : OK cfg (.fn 14 []) [(.ptr none)] (hA C S X [d_, d_, d_, d_, d_, d_]) (i6 1) (hA C S X [d_, d_, d_, d_, d_, d_]) :=
  ok_fn' hmix (n := 40) (os := [.c, .c, .c, .c, .c]) (by kernel_rfl) (And.intro r_ (And.intro r_ (And.intro r_ (Eq.refl (((i6 1) : V), ((hA C S X [d_, d_, d_, d_, d_, d_]) : Heap))))))

theorem w_nd (S : List WT) (X : List V) (C : Nat → List V) (hC : ∀ k, plains (C k) = true) (hR : HR S X 20) (m rl : Nat) (hl0 : LOK cfg none (lb 3 0) (u_ :: (.sl 3 (some (20, 0)) m) :: u_ :: u_ :: u_ :: (.ptr (some (21, 0))) :: (.sl 1 none 0) :: (i6 0) :: (i6 0) :: us 146) (hA C S X [c1 [(i6 0), (.sl 1 none 0)]]) (.exit 0) (us 155) (hA C S X [d_])) (h0 : ((if 20 < ((rl : Nat) : Int) then 20 else ((rl : Nat) : Int)) : Int) = ((m : Nat) : Int)) (h1 : 0 ≤ (0 : Int) ∧ (0 : Int) ≤ ((m : Nat) : Int) ∧ (((m : Nat) : Int) : Int) ≤ ((rl : Nat) : Int)) : OK cfg (.fn 3 []) [(.sl 1 none 0), (.sl 3 (some (20, 0)) rl)] (hA C S X []) (.bool true) (hA C S X [d_, d_, d_, d_, d_, d_, d_]) :=
  ok_fn' hmix (n := 40) (os := [.c, .c, .c, .c, .c, .c, .c, .c, .v (i6 ((m : Nat) : Int)), .a, .c, .c, .r (.ptr (some (21, 0))) (hA C S X [c1 [(i6 0), (.sl 1 none 0)], d_]), .c, .c, .c, .c, .c, .l (.exit 0) (us 155) (hA C S X [d_, d_]), .c, .r (.bool true) (hA C S X [d_, d_, d_]), .c, .c, .c, .c, .r (i6 0) (hA C S X [d_, d_, d_, d_]), .c, .c, .c, .c, .c, .c, .c, .r (.sl 0 none 0) (hA C S X [d_, d_, d_, d_, d_]), .c, .c, .c, .c, .c, .c, .c, .c, .c, .r (i6 0) (hA C S X [d_, d_, d_, d_, d_, d_]), .c, .c, .c, .c, .c, .c, .c, .r (i6 1) (hA C S X [d_, d_, d_, d_, d_, d_, d_]), .c, .c, .c, .c]) (by kernel_rfl) (And.intro r_ (And.intro r_ (And.intro (fix_int (k := .i64) (H := (hA C S X [])) h0) (And.intro h1 (And.intro r_ (And.intro (OK.pad (w_nd_q_1 S X C hC hR m rl hl0)) (And.intro r_ (And.intro r_ (And.intro r_ (And.intro (LOK.at (rd := none) (rd1 := none) (st1 := ((.sl 1 none 0) :: (.sl 3 (some (20, 0)) m) :: t_ :: t_ :: (.bool false) :: (.ptr (some (21, 0))) :: (.sl 1 none 0) :: (i6 0) :: (i6 0) :: t_ :: t_ :: t_ :: t_ :: t_ :: t_ :: t_ :: t_ :: (.sl 1 none 0) :: (i6 0) :: (.bool false) :: t_ :: (.sl 3 (some (20, 0)) rl) :: (.sl 3 (some (20, 0)) rl) :: (i6 ((rl : Nat) : Int)) :: (i6 ((m : Nat) : Int)) :: (.sl 3 (some (20, 0)) m) :: (.sl 1 none 0) :: (.ptr (some (21, 0))) :: (.sl 1 none 0) :: t_ :: t_ :: t_ :: t_ :: t_ :: t_ :: t_ :: t_ :: t_ :: t_ :: t_ :: t_ :: t_ :: t_ :: t_ :: t_ :: t_ :: t_ :: t_ :: t_ :: t_ :: t_ :: t_ :: t_ :: t_ :: t_ :: t_ :: t_ :: t_ :: t_ :: t_ :: t_ :: t_ :: t_ :: t_ :: t_ :: t_ :: t_ :: t_ :: t_ :: t_ :: t_ :: t_ :: t_ :: t_ :: t_ :: t_ :: t_ :: t_ :: t_ :: t_ :: t_ :: t_ :: t_ :: t_ :: t_ :: t_ :: t_ :: t_ :: t_ :: t_ :: t_ :: t_ :: t_ :: t_ :: t_ :: t_ :: t_ :: t_ :: t_ :: t_ :: t_ :: t_ :: t_ :: t_ :: t_ :: t_ :: t_ :: t_ :: t_ :: t_ :: t_ :: t_ :: t_ :: t_ :: t_ :: t_ :: t_ :: t_ :: t_ :: t_ :: t_ :: t_ :: t_ :: t_ :: t_ :: t_ :: t_ :: t_ :: t_ :: t_ :: [t_, t_, t_, t_, t_, t_, t_, t_, t_, t_, t_, t_, t_, t_, t_, t_, t_, t_, t_, t_, t_, t_, t_, t_, t_])) (st1' := (us 155)) hl0 [some (0, 0), some (1, 0), some (2, 0), some (3, 0), some (4, 0), some (5, 0), some (6, 0), some (7, 0), some (8, 0), some (9, 0), some (10, 0), some (11, 0), some (12, 0), some (13, 0), some (14, 0), some (15, 0), some (16, 0), some (17, 0), some (18, 0), some (19, 0), some (20, 0), some (21, 0)] [some (0, 0), some (1, 0), some (2, 0), some (3, 0), some (4, 0), some (5, 0), some (6, 0), some (7, 0), some (8, 0), some (9, 0), some (10, 0), some (11, 0), some (12, 0), some (13, 0), some (14, 0), some (15, 0), some (16, 0), some (17, 0), some (18, 0), some (19, 0), some (20, 0), none] [] (hA C S X [c1 [(i6 0), (.sl 1 none 0)], d_]) (hA C S X [d_, d_]) True.intro (by kernel_rfl) (by kernel_rfl) (embA0 hC hR (sg_id (n := 21) (by kernel_rfl)) ⟨⟨21, [(i6 0), (.sl 1 none 0)], rfl, rfl, (VEL.plain (by kernel_rfl))⟩, trivial⟩) (postA0 (by kernel_rfl) ⟨.inl rfl, ⟨.inl rfl, trivial⟩⟩) (.c .q (.c (VE.ren (by kernel_rfl)) (.c .q (.c .q (.c .q (.c (VE.ren (by kernel_rfl)) (.c (VE.ren (by kernel_rfl)) (.c (VE.ren (by kernel_rfl)) (.c (VE.ren (by kernel_rfl)) (VEL.qs (by kernel_rfl))))))))))) (VEL.ren (by kernel_rfl))) (And.intro r_ (And.intro (OK.pad (live_ok (hA C S X [d_, d_]))) (And.intro (OK.pad (w_nd_q_2 S X C hC hR m rl hl0)) (And.intro (OK.pad (w_nd_q_3 S X C hC hR m rl hl0)) (And.intro (OK.pad (w_nd_q_4 S X C hC hR m rl hl0)) (And.intro (OK.pad (w_nd_q_5 S X C hC hR m rl hl0)) (And.intro r_ (Eq.refl (((.bool true) : V), ((hA C S X [d_, d_, d_, d_, d_, d_, d_]) : Heap))))))))))))))))))))

theorem w_nn_q_1   : OK cfg (.fn 8 []) [(.sl 1 none 0)] [] (.ptr (some (0, 0))) [c1 [(i6 0), (.sl 1 none 0)]] :=
  ok_fn' hmix (n := 40) (os := [.c, .c, .c, .c, .c, .c]) (by kernel_rfl) (And.intro r_ (And.intro r_ (Eq.refl (((.ptr (some (0, 0))) : V), ([c1 [(i6 0), (.sl 1 none 0)]] : Heap)))))

theorem w_nn_q_2   : OK cfg (.fn 11 []) [(.ptr none), (i6 2)] [c1 [(i6 0), (.sl 1 none 0)], d_, d_] (i6 0) [c1 [(i6 0), (.sl 1 none 0)], d_, d_] :=
  ok_fn' hmix (n := 40) (os := [.c, .c, .c, .c, .c, .c, .c, .c, .c, .c, .c, .c, .c]) (by kernel_rfl) (And.intro r_ (And.intro r_ (And.intro r_ (Eq.refl (((i6 0) : V), ([c1 [(i6 0), (.sl 1 none 0)], d_, d_] : Heap))))))

theorem w_nn_q_3   : OK cfg (.fn 9 []) [(.ptr none), (i6 1)] [c1 [(i6 0), (.sl 1 none 0)], d_, d_, d_] (.sl 0 none 0) [c1 [(i6 0), (.sl 1 none 0)], d_, d_, d_] :=
  ok_fn' hmix (n := 40) (os := [.c, .c, .c, .c, .c, .c, .c, .c, .c, .c, .c, .c, .c, .c]) (by kernel_rfl) (And.intro r_ (And.intro r_ (And.intro r_ (Eq.refl (((.sl 0 none 0) : V), ([c1 [(i6 0), (.sl 1 none 0)], d_, d_, d_] : Heap))))))

theorem w_nn_q_4   : OK cfg (.fn 15 []) [(.ptr none)] [c1 [(i6 0), (.sl 1 none 0)], d_, d_, d_, d_] (i6 0) [c1 [(i6 0), (.sl 1 none 0)], d_, d_, d_, d_] :=
  ok_fn' hmix (n := 40) (os := [.c, .c, .c, .c, .c]) (by kernel_rfl) (And.intro r_ (And.intro r_ (And.intro r_ (Eq.refl (((i6 0) : V), ([c1 [(i6 0), (.sl 1 none 0)], d_, d_, d_, d_] : Heap))))))

theorem w_nn_q_5   : OK cfg (.fn 14 []) [(.ptr none)] [c1 [(i6 0), (.sl 1 none 0)], d_, d_, d_, d_, d_] (i6 1) [c1 [(i6 0), (.sl 1 none 0)], d_, d_, d_, d_, d_] :=
  ok_fn' hmix (n := 40) (os := [.c, .c, .c, .c, .c]) (by kernel_rfl) (And.intro r_ (And.intro r_ (And.intro r_ (Eq.refl (((i6 1) : V), ([c1 [(i6 0), (.sl 1 none 0)], d_, d_, d_, d_, d_] : Heap))))))

theorem w_nn   : OK cfg (.fn 3 []) [(.sl 1 none 0), (.sl 3 none 0)] [] (.bool true) [c1 [(i6 0), (.sl 1 none 0)], d_, d_, d_, d_, d_, d_] :=
  ok_fn' hmix (n := 40) (os := [.c, .c, .c, .c, .c, .c, .c, .c, .c, .c, .c, .c, .r (.ptr (some (0, 0))) [c1 [(i6 0), (.sl 1 none 0)], d_], .c, .c, .c, .c, .c, .a, .c, .c, .c, .c, .c, .c, .r (.bool true) [c1 [(i6 0), (.sl 1 none 0)], d_, d_], .c, .c, .c, .c, .r (i6 0) [c1 [(i6 0), (.sl 1 none 0)], d_, d_, d_], .c, .c, .c, .c, .c, .c, .c, .r (.sl 0 none 0) [c1 [(i6 0), (.sl 1 none 0)], d_, d_, d_, d_], .c, .c, .c, .c, .c, .c, .c, .c, .c, .r (i6 0) [c1 [(i6 0), (.sl 1 none 0)], d_, d_, d_, d_, d_], .c, .c, .c, .c, .c, .c, .c, .r (i6 1) [c1 [(i6 0), (.sl 1 none 0)], d_, d_, d_, d_, d_, d_], .c, .c, .c, .c]) (by kernel_rfl) (And.intro r_ (And.intro r_ (And.intro r_ (And.intro (OK.pad (w_nn_q_1)) (And.intro r_ (And.intro r_ (And.intro r_ (And.intro r_ (And.intro r_ (And.intro (OK.pad (live_ok [c1 [(i6 0), (.sl 1 none 0)], d_])) (And.intro (OK.pad (w_nn_q_2)) (And.intro (OK.pad (w_nn_q_3)) (And.intro (OK.pad (w_nn_q_4)) (And.intro (OK.pad (w_nn_q_5)) (And.intro r_ (Eq.refl (((.bool true) : V), ([c1 [(i6 0), (.sl 1 none 0)], d_, d_, d_, d_, d_, d_] : Heap))))))))))))))))))

theorem w_nv_q_1   : OK cfg (.fn 8 []) [(.sl 1 none 0)] [.void] (.ptr (some (1, 0))) [.void, c1 [(i6 0), (.sl 1 none 0)]] :=
  ok_fn' hmix (n := 40) (os := [.c, .c, .c, .c, .c, .c]) (by kernel_rfl) (And.intro r_ (And.intro r_ (Eq.refl (((.ptr (some (1, 0))) : V), ([.void, c1 [(i6 0), (.sl 1 none 0)]] : Heap)))))

theorem w_nv_q_2   : OK cfg (.fn 11 []) [(.ptr none), (i6 2)] [.void, c1 [(i6 0), (.sl 1 none 0)], d_, d_] (i6 0) [.void, c1 [(i6 0), (.sl 1 none 0)], d_, d_] :=
  ok_fn' hmix (n := 40) (os := [.c, .c, .c, .c, .c, .c, .c, .c, .c, .c, .c, .c, .c]) (by kernel_rfl) (And.intro r_ (And.intro r_ (And.intro r_ (Eq.refl (((i6 0) : V), ([.void, c1 [(i6 0), (.sl 1 none 0)], d_, d_] : Heap))))))

theorem w_nv_q_3   : OK cfg (.fn 9 []) [(.ptr none), (i6 1)] [.void, c1 [(i6 0), (.sl 1 none 0)], d_, d_, d_] (.sl 0 none 0) [.void, c1 [(i6 0), (.sl 1 none 0)], d_, d_, d_] :=
  ok_fn' hmix (n := 40) (os := [.c, .c, .c, .c, .c, .c, .c, .c, .c, .c, .c, .c, .c, .c]) (by kernel_rfl) (And.intro r_ (And.intro r_ (And.intro r_ (Eq.refl (((.sl 0 none 0) : V), ([.void, c1 [(i6 0), (.sl 1 none 0)], d_, d_, d_] : Heap))))))

theorem w_nv_q_4   : OK cfg (.fn 15 []) [(.ptr none)] [.void, c1 [(i6 0), (.sl 1 none 0)], d_, d_, d_, d_] (i6 0) [.void, c1 [(i6 0), (.sl 1 none 0)], d_, d_, d_, d_] :=
  ok_fn' hmix (n := 40) (os := [.c, .c, .c, .c, .c]) (by kernel_rfl) (And.intro r_ (And.intro r_ (And.intro r_ (Eq.refl (((i6 0) : V), ([.void, c1 [(i6 0), (.sl 1 none 0)], d_, d_, d_, d_] : Heap))))))

theorem w_nv_q_5   : OK cfg (.fn 14 []) [(.ptr none)] [.void, c1 [(i6 0), (.sl 1 none 0)], d_, d_, d_, d_, d_] (i6 1) [.void, c1 [(i6 0), (.sl 1 none 0)], d_, d_, d_, d_, d_] :=
  ok_fn' hmix (n := 40) (os := [.c, .c, .c, .c, .c]) (by kernel_rfl) (And.intro r_ (And.intro r_ (And.intro r_ (Eq.refl (((i6 1) : V), ([.void, c1 [(i6 0), (.sl 1 none 0)], d_, d_, d_, d_, d_] : Heap))))))

theorem w_nv   : OK cfg (.fn 3 []) [(.sl 1 none 0), (.sl 3 (some (0, 0)) 0)] [.void] (.bool true) [.void, c1 [(i6 0), (.sl 1 none 0)], d_, d_, d_, d_, d_, d_] :=
  ok_fn' hmix (n := 40) (os := [.c, .c, .c, .c, .c, .c, .c, .c, .c, .c, .c, .c, .r (.ptr (some (1, 0))) [.void, c1 [(i6 0), (.sl 1 none 0)], d_], .c, .c, .c, .c, .c, .a, .c, .c, .c, .c, .c, .c, .r (.bool true) [.void, c1 [(i6 0), (.sl 1 none 0)], d_, d_], .c, .c, .c, .c, .r (i6 0) [.void, c1 [(i6 0), (.sl 1 none 0)], d_, d_, d_], .c, .c, .c, .c, .c, .c, .c, .r (.sl 0 none 0) [.void, c1 [(i6 0), (.sl 1 none 0)], d_, d_, d_, d_], .c, .c, .c, .c, .c, .c, .c, .c, .c, .r (i6 0) [.void, c1 [(i6 0), (.sl 1 none 0)], d_, d_, d_, d_, d_], .c, .c, .c, .c, .c, .c, .c, .r (i6 1) [.void, c1 [(i6 0), (.sl 1 none 0)], d_, d_, d_, d_, d_, d_], .c, .c, .c, .c]) (by kernel_rfl) (And.intro r_ (And.intro r_ (And.intro r_ (And.intro (OK.pad (w_nv_q_1)) (And.intro r_ (And.intro r_ (And.intro r_ (And.intro r_ (And.intro r_ (And.intro (OK.pad (live_ok [.void, c1 [(i6 0), (.sl 1 none 0)], d_])) (And.intro (OK.pad (w_nv_q_2)) (And.intro (OK.pad (w_nv_q_3)) (And.intro (OK.pad (w_nv_q_4)) (And.intro (OK.pad (w_nv_q_5)) (And.intro r_ (Eq.refl (((.bool true) : V), ([.void, c1 [(i6 0), (.sl 1 none 0)], d_, d_, d_, d_, d_, d_] : Heap))))))))))))))))))

theorem maxLen_le : maxLen ≤ 9223372036854775807 := by decide
theorem lg_all (T : List Int) (S : List WT) (X : List V) (C : Nat → List V) (hC : ∀ k, plains (C k) = true) (hR : HR S X 21) (m : Nat) (hm : S.length = m) (h20 : m ≤ 20) (hn : ∀ i, i < m → (gW S i).2.2.2 ≤ maxLen) (hT : T.length ≤ 100) (ho : okb T) : ∀ (d i o n : Nat) (e : Int), i + d = m → o + n = T.length → LOK cfg none (lb 3 0) (u_ :: (.sl 3 (some (21, 0)) m) :: u_ :: u_ :: u_ :: (.ptr (some (23, 0))) :: (.sl 1 (some (0, o)) n) :: (i6 e) :: (i6 ((i : Nat) : Int)) :: us 146) (.cells false ((T).map (V.int .u8)) :: hA C S X [.cells true ((T).map (V.int .u8)), c1 [(i6 e), (.sl 1 (some (22, o)) n)]]) (.exit 0) (us 155) (.cells false ((T).map (V.int .u8)) :: hA C S X [d_, d_]) := by
  have hM := maxLen_le
  intro d
  induction d with
  | zero =>
    intro i o n e hi hon
    exact gx T S X C hC hR m i o n 0 e (decide_eq_false (by omega))
  | succ d IH =>
    intro i o n e hi hon
    have hn1 := hn i (by omega)
    by_cases he : e = 0
    · subst he
      by_cases hk : (gW S i).1 = 8
      · by_cases h0 : (gW S i).2.2.2 = 0
        · exact gtb T S X C hC hR m i o n 0 0 (decide_eq_true (by omega)) (by omega) (by omega) (beq_iff_eq.2 hk) ((wrap_i64 (by omega)).trans (by omega)) (bne_self_eq_false _) ((wrap_i64 (by omega)).trans (by omega)) (IH (i + 1) o n 2 (by omega) hon)
        · by_cases h1 : (gW S i).2.2.2 = 1
          · exact gtd T S X C hC hR m i o n 0 0 (decide_eq_true (by omega)) (by omega) (by omega) (beq_iff_eq.2 hk) ((wrap_i64 (by omega)).trans (by omega)) (decide_eq_false (by omega)) (by omega) (by omega) (bne_self_eq_false _) ((wrap_i64 (by omega)).trans (by omega)) (IH (i + 1) o n 0 (by omega) hon)
          · obtain ⟨q, hq⟩ : ∃ q, (gW S i).2.2.2 = q + 1 := ⟨(gW S i).2.2.2 - 1, by omega⟩
            by_cases hqn : n < q
            · exact gtc T S X C hC hR m i o n q 0 (decide_eq_true (by omega)) (by omega) (by omega) (beq_iff_eq.2 hk) ((wrap_i64 (by omega)).trans (by omega)) (by omega) (decide_eq_false (by omega)) (decide_eq_true (by omega)) (bne_self_eq_false _) ((wrap_i64 (by omega)).trans (by omega)) (IH (i + 1) o n 5 (by omega) hon)
            · exact gtg T S X C hC hR m i o n q 0 (decide_eq_true (by omega)) (by omega) (by omega) (beq_iff_eq.2 hk) ((wrap_i64 (by omega)).trans (by omega)) (by omega) (by omega) (by omega) (by omega) (decide_eq_false (by omega)) (decide_eq_false (by omega)) (by omega) (by omega) (by omega) (bne_self_eq_false _) ((wrap_i64 (by omega)).trans (by omega)) (IH (i + 1) (o + (q * 1)) (n - q) 0 (by omega) (by omega))
      · by_cases hz : zn (gW S i).1 = 0
        · exact gnb T S X C hC hR m i o n 0 0 (decide_eq_true (by omega)) (by omega) (by omega) (beq_eq_false_iff_ne.2 hk) hz (by rw [hz]; rfl) (bne_self_eq_false _) ((wrap_i64 (by omega)).trans (by omega)) (IH (i + 1) o n 2 (by omega) hon)
        · by_cases hzn : n < zn (gW S i).1
          · exact gnc T S X C hC hR m i o n 0 0 (decide_eq_true (by omega)) (by omega) (by omega) (beq_eq_false_iff_ne.2 hk) (by omega) (beq_eq_false_iff_ne.2 (by omega)) (decide_eq_true (by omega)) (bne_self_eq_false _) ((wrap_i64 (by omega)).trans (by omega)) (IH (i + 1) o n 5 (by omega) hon)
          · by_cases hg : (gets (gW S i).1 (win T o (zn (gW S i).1))).2 = 0
            · exact gng T S X C hC hR m i o n 0 0 (decide_eq_true (by omega)) (by omega) (by omega) (beq_eq_false_iff_ne.2 hk) hz (by omega) (by omega) ho hg (beq_eq_false_iff_ne.2 (by omega)) (decide_eq_false (by omega)) (by omega) (by omega) (by rw [hg]; rfl) (by omega) (bne_self_eq_false _) (by rw [hg]; rfl) (bne_self_eq_false _) ((wrap_i64 (by omega)).trans (by omega)) hg (IH (i + 1) (o + (zn (gW S i).1 * 1)) (n - zn (gW S i).1) 0 (by omega) (by omega))
            · exact gnd T S X C hC hR m i o n 0 0 (decide_eq_true (by omega)) (by omega) (by omega) (beq_eq_false_iff_ne.2 hk) hz (by omega) (by omega) ho hg (beq_eq_false_iff_ne.2 (by omega)) (decide_eq_false (by omega)) (by omega) (by omega) (beq_eq_false_iff_ne.2 hg) (by rw [gets_err _ _ hg]; rfl) (bne_self_eq_false _) (bne_self_eq_false _) ((wrap_i64 (by omega)).trans (by omega)) (IH (i + 1) o n _ (by omega) hon)
    · by_cases hk : (gW S i).1 = 8
      · exact gta T S X C hC hR m i o n 0 e (decide_eq_true (by omega)) (by omega) (by omega) (beq_iff_eq.2 hk) he (by simpa using he) (bne_self_eq_false _) (bne_self_eq_false _) ((wrap_i64 (by omega)).trans (by omega)) (IH (i + 1) o n e (by omega) hon)
      · exact gna T S X C hC hR m i o n 0 e (decide_eq_true (by omega)) (by omega) (by omega) (beq_eq_false_iff_ne.2 hk) he (by simpa using he) (bne_self_eq_false _) (bne_self_eq_false _) ((wrap_i64 (by omega)).trans (by omega)) (IH (i + 1) o n e (by omega) hon)

theorem lz_all (S : List WT) (X : List V) (C : Nat → List V) (hC : ∀ k, plains (C k) = true) (hR : HR S X 21) (m : Nat) (hm : S.length = m) (h20 : m ≤ 20) (hn : ∀ i, i < m → (gW S i).2.2.2 ≤ maxLen) : ∀ (d i : Nat) (e : Int), i + d = m → LOK cfg none (lb 3 0) (u_ :: (.sl 3 (some (21, 0)) m) :: u_ :: u_ :: u_ :: (.ptr (some (22, 0))) :: (.sl 1 (some (0, 0)) 0) :: (i6 e) :: (i6 ((i : Nat) : Int)) :: us 146) (.cells false ((([] : List Int)).map (V.int .u8)) :: hA C S X [c1 [(i6 e), (.sl 1 none 0)]]) (.exit 0) (us 155) (.cells false ((([] : List Int)).map (V.int .u8)) :: hA C S X [d_]) := by
  have hM := maxLen_le
  intro d
  induction d with
  | zero =>
    intro i e hi
    exact zx [] S X C hC hR m i 0 0 0 e (decide_eq_false (by omega))
  | succ d IH =>
    intro i e hi
    have hn1 := hn i (by omega)
    by_cases he : e = 0
    · subst he
      by_cases hk : (gW S i).1 = 8
      · by_cases h0 : (gW S i).2.2.2 = 0
        · exact ztb [] S X C hC hR m i 0 0 0 0 (decide_eq_true (by omega)) (by omega) (by omega) (beq_iff_eq.2 hk) ((wrap_i64 (by omega)).trans (by omega)) ((wrap_i64 (by omega)).trans (by omega)) (IH (i + 1) 2 (by omega))
        · by_cases h1 : (gW S i).2.2.2 = 1
          · exact ztd [] S X C hC hR m i 0 0 0 0 (decide_eq_true (by omega)) (by omega) (by omega) (beq_iff_eq.2 hk) ((wrap_i64 (by omega)).trans (by omega)) ((wrap_i64 (by omega)).trans (by omega)) (IH (i + 1) 0 (by omega))
          · obtain ⟨q, hq⟩ : ∃ q, (gW S i).2.2.2 = q + 1 := ⟨(gW S i).2.2.2 - 1, by omega⟩
            exact ztc [] S X C hC hR m i 0 0 q 0 (decide_eq_true (by omega)) (by omega) (by omega) (beq_iff_eq.2 hk) ((wrap_i64 (by omega)).trans (by omega)) (by omega) (decide_eq_false (by omega)) (decide_eq_true (by omega)) ((wrap_i64 (by omega)).trans (by omega)) (IH (i + 1) 5 (by omega))
      · by_cases hz : zn (gW S i).1 = 0
        · exact znb [] S X C hC hR m i 0 0 0 0 (decide_eq_true (by omega)) (by omega) (by omega) (beq_eq_false_iff_ne.2 hk) hz (by rw [hz]; rfl) ((wrap_i64 (by omega)).trans (by omega)) (IH (i + 1) 2 (by omega))
        · exact znc [] S X C hC hR m i 0 0 0 0 (decide_eq_true (by omega)) (by omega) (by omega) (beq_eq_false_iff_ne.2 hk) hz (beq_eq_false_iff_ne.2 (by omega)) (decide_eq_true (by omega)) ((wrap_i64 (by omega)).trans (by omega)) (IH (i + 1) 5 (by omega))
    · by_cases hk : (gW S i).1 = 8
      · exact zta [] S X C hC hR m i 0 0 0 e (decide_eq_true (by omega)) (by omega) (by omega) (beq_iff_eq.2 hk) he (by simpa using he) (bne_self_eq_false _) ((wrap_i64 (by omega)).trans (by omega)) (IH (i + 1) e (by omega))
      · exact zna [] S X C hC hR m i 0 0 0 e (decide_eq_true (by omega)) (by omega) (by omega) (beq_eq_false_iff_ne.2 hk) he (by simpa using he) (bne_self_eq_false _) ((wrap_i64 (by omega)).trans (by omega)) (IH (i + 1) e (by omega))

theorem lv_all (S : List WT) (X : List V) (C : Nat → List V) (hC : ∀ k, plains (C k) = true) (hR : HR S X 21) (m : Nat) (hm : S.length = m) (h20 : m ≤ 20) (hn : ∀ i, i < m → (gW S i).2.2.2 ≤ maxLen) : ∀ (d i : Nat) (e : Int), i + d = m → LOK cfg none (lb 3 0) (u_ :: (.sl 3 (some (21, 0)) m) :: u_ :: u_ :: u_ :: (.ptr (some (22, 0))) :: (.sl 1 (some (0, 0)) 0) :: (i6 e) :: (i6 ((i : Nat) : Int)) :: us 146) (.void :: hA C S X [c1 [(i6 e), (.sl 1 none 0)]]) (.exit 0) (us 155) (.void :: hA C S X [d_]) := by
  have hM := maxLen_le
  intro d
  induction d with
  | zero =>
    intro i e hi
    exact vx [] S X C hC hR m i 0 0 0 e (decide_eq_false (by omega))
  | succ d IH =>
    intro i e hi
    have hn1 := hn i (by omega)
    by_cases he : e = 0
    · subst he
      by_cases hk : (gW S i).1 = 8
      · by_cases h0 : (gW S i).2.2.2 = 0
        · exact vtb [] S X C hC hR m i 0 0 0 0 (decide_eq_true (by omega)) (by omega) (by omega) (beq_iff_eq.2 hk) ((wrap_i64 (by omega)).trans (by omega)) ((wrap_i64 (by omega)).trans (by omega)) (IH (i + 1) 2 (by omega))
        · by_cases h1 : (gW S i).2.2.2 = 1
          · exact vtd [] S X C hC hR m i 0 0 0 0 (decide_eq_true (by omega)) (by omega) (by omega) (beq_iff_eq.2 hk) ((wrap_i64 (by omega)).trans (by omega)) ((wrap_i64 (by omega)).trans (by omega)) (IH (i + 1) 0 (by omega))
          · obtain ⟨q, hq⟩ : ∃ q, (gW S i).2.2.2 = q + 1 := ⟨(gW S i).2.2.2 - 1, by omega⟩
            exact vtc [] S X C hC hR m i 0 0 q 0 (decide_eq_true (by omega)) (by omega) (by omega) (beq_iff_eq.2 hk) ((wrap_i64 (by omega)).trans (by omega)) (by omega) (decide_eq_false (by omega)) (decide_eq_true (by omega)) ((wrap_i64 (by omega)).trans (by omega)) (IH (i + 1) 5 (by omega))
      · by_cases hz : zn (gW S i).1 = 0
        · exact vnb [] S X C hC hR m i 0 0 0 0 (decide_eq_true (by omega)) (by omega) (by omega) (beq_eq_false_iff_ne.2 hk) hz (by rw [hz]; rfl) ((wrap_i64 (by omega)).trans (by omega)) (IH (i + 1) 2 (by omega))
        · exact vnc [] S X C hC hR m i 0 0 0 0 (decide_eq_true (by omega)) (by omega) (by omega) (beq_eq_false_iff_ne.2 hk) hz (beq_eq_false_iff_ne.2 (by omega)) (decide_eq_true (by omega)) ((wrap_i64 (by omega)).trans (by omega)) (IH (i + 1) 5 (by omega))
    · by_cases hk : (gW S i).1 = 8
      · exact vta [] S X C hC hR m i 0 0 0 e (decide_eq_true (by omega)) (by omega) (by omega) (beq_iff_eq.2 hk) he (by simpa using he) (bne_self_eq_false _) ((wrap_i64 (by omega)).trans (by omega)) (IH (i + 1) e (by omega))
      · exact vna [] S X C hC hR m i 0 0 0 e (decide_eq_true (by omega)) (by omega) (by omega) (beq_eq_false_iff_ne.2 hk) he (by simpa using he) (bne_self_eq_false _) ((wrap_i64 (by omega)).trans (by omega)) (IH (i + 1) e (by omega))

theorem ln_all (S : List WT) (X : List V) (C : Nat → List V) (hC : ∀ k, plains (C k) = true) (hR : HR S X 20) (m : Nat) (hm : S.length = m) (h20 : m ≤ 20) (hn : ∀ i, i < m → (gW S i).2.2.2 ≤ maxLen) : ∀ (d i : Nat) (e : Int), i + d = m → LOK cfg none (lb 3 0) (u_ :: (.sl 3 (some (20, 0)) m) :: u_ :: u_ :: u_ :: (.ptr (some (21, 0))) :: (.sl 1 none 0) :: (i6 e) :: (i6 ((i : Nat) : Int)) :: us 146) (hA C S X [c1 [(i6 e), (.sl 1 none 0)]]) (.exit 0) (us 155) (hA C S X [d_]) := by
  have hM := maxLen_le
  intro d
  induction d with
  | zero =>
    intro i e hi
    exact nx [] S X C hC hR m i 0 0 0 e (decide_eq_false (by omega))
  | succ d IH =>
    intro i e hi
    have hn1 := hn i (by omega)
    by_cases he : e = 0
    · subst he
      by_cases hk : (gW S i).1 = 8
      · by_cases h0 : (gW S i).2.2.2 = 0
        · exact ntb [] S X C hC hR m i 0 0 0 0 (decide_eq_true (by omega)) (by omega) (by omega) (beq_iff_eq.2 hk) ((wrap_i64 (by omega)).trans (by omega)) ((wrap_i64 (by omega)).trans (by omega)) (IH (i + 1) 2 (by omega))
        · by_cases h1 : (gW S i).2.2.2 = 1
          · exact ntd [] S X C hC hR m i 0 0 0 0 (decide_eq_true (by omega)) (by omega) (by omega) (beq_iff_eq.2 hk) ((wrap_i64 (by omega)).trans (by omega)) ((wrap_i64 (by omega)).trans (by omega)) (IH (i + 1) 0 (by omega))
          · obtain ⟨q, hq⟩ : ∃ q, (gW S i).2.2.2 = q + 1 := ⟨(gW S i).2.2.2 - 1, by omega⟩
            exact ntc [] S X C hC hR m i 0 0 q 0 (decide_eq_true (by omega)) (by omega) (by omega) (beq_iff_eq.2 hk) ((wrap_i64 (by omega)).trans (by omega)) (by omega) (decide_eq_false (by omega)) (decide_eq_true (by omega)) ((wrap_i64 (by omega)).trans (by omega)) (IH (i + 1) 5 (by omega))
      · by_cases hz : zn (gW S i).1 = 0
        · exact nnb [] S X C hC hR m i 0 0 0 0 (decide_eq_true (by omega)) (by omega) (by omega) (beq_eq_false_iff_ne.2 hk) hz (by rw [hz]; rfl) ((wrap_i64 (by omega)).trans (by omega)) (IH (i + 1) 2 (by omega))
        · exact nnc [] S X C hC hR m i 0 0 0 0 (decide_eq_true (by omega)) (by omega) (by omega) (beq_eq_false_iff_ne.2 hk) hz (beq_eq_false_iff_ne.2 (by omega)) (decide_eq_true (by omega)) ((wrap_i64 (by omega)).trans (by omega)) (IH (i + 1) 5 (by omega))
    · by_cases hk : (gW S i).1 = 8
      · exact nta [] S X C hC hR m i 0 0 0 e (decide_eq_true (by omega)) (by omega) (by omega) (beq_iff_eq.2 hk) he (by simpa using he) (bne_self_eq_false _) ((wrap_i64 (by omega)).trans (by omega)) (IH (i + 1) e (by omega))
      · exact nna [] S X C hC hR m i 0 0 0 e (decide_eq_true (by omega)) (by omega) (by omega) (beq_eq_false_iff_ne.2 hk) he (by simpa using he) (bne_self_eq_false _) ((wrap_i64 (by omega)).trans (by omega)) (IH (i + 1) e (by omega))

end Go.Proofs.Yteljlgjofmbniaa.words
