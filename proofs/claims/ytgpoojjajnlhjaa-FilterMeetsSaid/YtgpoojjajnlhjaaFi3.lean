/-
  What filters let pass, one by one.
-/
import Derived.Test.YtgpoojjajnlhjaaFi2
set_option linter.unusedVariables false
set_option linter.unusedSimpArgs false
set_option maxRecDepth 100000
namespace Go.Proofs.Ytgpoojjajnlhjaa.filt
open Go Go.Vm Go.Filt


noncomputable abbrev ix_s_s (S : List FT) (m : Nat) (x : Int) (j i : Nat) : St := [(.sl 2 (some (0, 0)) m), (.fn 16 [(.ptr (some (1, 0)))]), u_, u_, u_, (i6 ((j : Nat) : Int)), u_, (i6 ((m : Nat) : Int)), (i6 (IntKind.wrap .i64 (((j : Nat) : Int) + 1))), (.bool (decide ((((j : Nat) : Int) : Int) < ((m : Nat) : Int)))), (i6 ((j : Nat) : Int)), (.fn 16 [(.ptr (some (1, 0)))]), (.sl 2 (some (0, 0)) m), (i6 ((j : Nat) : Int)), (.ptr (some (0, (0 + (j * 2))))), (.agg [(i6 (gF S j).1), (i6 (gF S j).2)]), (.bool (mP ((gF S j).1) ((gF S j).2) x)), u_, (i6 (IntKind.wrap .i64 (((j : Nat) : Int) + 1)))]
noncomputable abbrev ix_s_h (S : List FT) (m : Nat) (x : Int) (j i : Nat) : Heap := [fb S, c1 [(i6 x)], d_]
theorem ix_s (S : List FT) (m : Nat) (x : Int) (j i : Nat) (h0 : (decide ((((j : Nat) : Int) : Int) < ((m : Nat) : Int))) = true) (h1 : 0 ≤ (((j : Nat) : Int) : Int) ∧ (((j : Nat) : Int) : Int) < ((m : Nat) : Int)) (h2 : j < S.length) (h3 : (mP ((gF S j).1) ((gF S j).2) x) = false) (h4 : ((IntKind.wrap .i64 (((j : Nat) : Int) + 1)) : Int) = (((j + 1) : Nat) : Int)) (ih : LOK cfg none (lb 22 0) ((.sl 2 (some (0, 0)) m) :: (.fn 16 [(.ptr (some (1, 0)))]) :: u_ :: u_ :: u_ :: u_ :: u_ :: (i6 ((m : Nat) : Int)) :: (i6 (((j + 1) : Nat) : Int)) :: us 10) [fb S, c1 [(i6 x)]] .ret (u_ :: u_ :: u_ :: u_ :: (i6 ((i : Nat) : Int)) :: us 14) [fb S, c1 [(i6 x)]]) : LOK cfg none (lb 22 0) ((.sl 2 (some (0, 0)) m) :: (.fn 16 [(.ptr (some (1, 0)))]) :: u_ :: u_ :: u_ :: u_ :: u_ :: (i6 ((m : Nat) : Int)) :: (i6 ((j : Nat) : Int)) :: us 10) [fb S, c1 [(i6 x)]] .ret (u_ :: u_ :: u_ :: u_ :: (i6 ((i : Nat) : Int)) :: us 14) [fb S, c1 [(i6 x)]] :=
  (LOK.re (st1' := (u_ :: u_ :: u_ :: u_ :: (i6 ((i : Nat) : Int)) :: us 14)) (LOK.step (cok_of' hmix (n := 40) (rd := none) (code := (lb 22 0)) (st := ((.sl 2 (some (0, 0)) m) :: (.fn 16 [(.ptr (some (1, 0)))]) :: u_ :: u_ :: u_ :: u_ :: u_ :: (i6 ((m : Nat) : Int)) :: (i6 ((j : Nat) : Int)) :: us 10)) (H := [fb S, c1 [(i6 x)]]) (os := [.c, .t, .c, .c, .c, .c, .c, .a, .v (.agg [(i6 (gF S j).1), (i6 (gF S j).2)]), .r (.bool (mP ((gF S j).1) ((gF S j).2) x)) (ix_s_h S m x j i), .f, .c, .c]) (e := .normal) (st' := (ix_s_s S m x j i)) (H' := (ix_s_h S m x j i)) (by kernel_rfl) (And.intro r_ (And.intro h0 (And.intro r_ (And.intro h1 (And.intro (encR_agg (S := S) h2) (And.intro (OK.pad (OK.at (fv1 := (.fn 16 [(.ptr (some (1, 0)))])) (args1 := [(.agg [(i6 (gF S j).1), (i6 (gF S j).2)])]) (v1 := (.bool (mP ((gF S j).1) ((gF S j).2) x))) (clo ((gF S j).1) ((gF S j).2) x) [some (1, 0)] [some (1, 0), none, none] [] [fb S, c1 [(i6 x)]] [fb S, c1 [(i6 x)]] (by kernel_rfl) (by kernel_rfl) ⟨⟨1, [(i6 x)], rfl, rfl, (VEL.plain (by kernel_rfl))⟩, trivial⟩ ⟨.inr (.inl ⟨rfl, by kernel_rfl⟩), ⟨.inr (.inr ⟨0, c1 [(i6 x)], rfl, rfl, (VEL.plain (by kernel_rfl))⟩), trivial⟩⟩ (VE.ren (by kernel_rfl)) (VEL.ren (by kernel_rfl)) (VE.ren (by kernel_rfl)))) (And.intro r_ (And.intro h3 (And.intro r_ (Eq.refl (Ex.normal, ((ix_s_s S m x j i) : St), ((ix_s_h S m x j i) : Heap))))))))))))) (LOK.at (rd := none) (rd1 := none) (st1 := (ix_s_s S m x j i)) (st1' := (u_ :: u_ :: u_ :: u_ :: (i6 ((i : Nat) : Int)) :: us 14)) ih [some (0, 0), some (1, 0)] [some (0, 0), some (1, 0)] [] (ix_s_h S m x j i) (ix_s_h S m x j i) True.intro (by kernel_rfl) (by kernel_rfl) ⟨⟨0, 0, false, ((S.map encR).flatten), rfl, rfl, VEL.get_ro (VEL.plain (plains_flat _ encR_plains _))⟩, ⟨⟨1, [(i6 x)], rfl, rfl, (VEL.plain (by kernel_rfl))⟩, trivial⟩⟩ ⟨.inr (.inl ⟨rfl, by kernel_rfl⟩), ⟨.inr (.inr ⟨1, c1 [(i6 x)], rfl, rfl, (VEL.plain (by kernel_rfl))⟩), ⟨.inl rfl, trivial⟩⟩⟩ (.c (VE.ren (by kernel_rfl)) (.c (VE.ren (by kernel_rfl)) (.c .u (.c .u (.c .u (.c .q (.c .u (.c (VE.ren (by kernel_rfl)) (.c (VE.eqI h4) (VEL.qs (by kernel_rfl))))))))))) (VEL.ren (by kernel_rfl)))) [some (0, 0), some (1, 0)] [some (0, 0), some (1, 0), none] [] [fb S, c1 [(i6 x)]] True.intro (by kernel_rfl) (by kernel_rfl) ⟨⟨0, 0, false, ((S.map encR).flatten), rfl, rfl, VEL.get_ro (VEL.plain (plains_flat _ encR_plains _))⟩, ⟨⟨1, [(i6 x)], rfl, rfl, (VEL.plain (by kernel_rfl))⟩, trivial⟩⟩ ⟨.inr (.inl ⟨rfl, by kernel_rfl⟩), ⟨.inr (.inr ⟨1, c1 [(i6 x)], rfl, rfl, (VEL.plain (by kernel_rfl))⟩), trivial⟩⟩ (VEL.ren (by kernel_rfl)) (VEL.ren (by kernel_rfl)))


theorem ix_f (S : List FT) (m : Nat) (x : Int) (j i : Nat) (h0 : (decide ((((j : Nat) : Int) : Int) < ((m : Nat) : Int))) = true) (h1 : 0 ≤ (((j : Nat) : Int) : Int) ∧ (((j : Nat) : Int) : Int) < ((m : Nat) : Int)) (h2 : j < S.length) (h3 : (mP ((gF S j).1) ((gF S j).2) x) = true) : LOK cfg none (lb 22 0) ((.sl 2 (some (0, 0)) m) :: (.fn 16 [(.ptr (some (1, 0)))]) :: u_ :: u_ :: u_ :: u_ :: u_ :: (i6 ((m : Nat) : Int)) :: (i6 ((j : Nat) : Int)) :: us 10) [fb S, c1 [(i6 x)]] .ret (u_ :: u_ :: u_ :: u_ :: (i6 ((j : Nat) : Int)) :: us 14) [fb S, c1 [(i6 x)]] :=
  (LOK.re (st1' := (u_ :: u_ :: u_ :: u_ :: (i6 ((j : Nat) : Int)) :: us 14)) (LOK.exit (cok_of' hmix (n := 40) (rd := none) (code := (lb 22 0)) (st := ((.sl 2 (some (0, 0)) m) :: (.fn 16 [(.ptr (some (1, 0)))]) :: u_ :: u_ :: u_ :: u_ :: u_ :: (i6 ((m : Nat) : Int)) :: (i6 ((j : Nat) : Int)) :: us 10)) (H := [fb S, c1 [(i6 x)]]) (os := [.c, .t, .c, .c, .c, .c, .c, .a, .v (.agg [(i6 (gF S j).1), (i6 (gF S j).2)]), .r (.bool (mP ((gF S j).1) ((gF S j).2) x)) [fb S, c1 [(i6 x)], d_], .t, .c, .c]) (e := .ret) (st' := [(.sl 2 (some (0, 0)) m), (.fn 16 [(.ptr (some (1, 0)))]), u_, u_, (i6 ((j : Nat) : Int)), (i6 ((j : Nat) : Int)), u_, (i6 ((m : Nat) : Int)), (i6 ((j : Nat) : Int)), (.bool (decide ((((j : Nat) : Int) : Int) < ((m : Nat) : Int)))), (i6 ((j : Nat) : Int)), (.fn 16 [(.ptr (some (1, 0)))]), (.sl 2 (some (0, 0)) m), (i6 ((j : Nat) : Int)), (.ptr (some (0, (0 + (j * 2))))), (.agg [(i6 (gF S j).1), (i6 (gF S j).2)]), (.bool (mP ((gF S j).1) ((gF S j).2) x)), (i6 ((j : Nat) : Int)), u_]) (H' := [fb S, c1 [(i6 x)], d_]) (by kernel_rfl) (And.intro r_ (And.intro h0 (And.intro r_ (And.intro h1 (And.intro (encR_agg (S := S) h2) (And.intro (OK.pad (OK.at (fv1 := (.fn 16 [(.ptr (some (1, 0)))])) (args1 := [(.agg [(i6 (gF S j).1), (i6 (gF S j).2)])]) (v1 := (.bool (mP ((gF S j).1) ((gF S j).2) x))) (clo ((gF S j).1) ((gF S j).2) x) [some (1, 0)] [some (1, 0), none, none] [] [fb S, c1 [(i6 x)]] [fb S, c1 [(i6 x)]] (by kernel_rfl) (by kernel_rfl) ⟨⟨1, [(i6 x)], rfl, rfl, (VEL.plain (by kernel_rfl))⟩, trivial⟩ ⟨.inr (.inl ⟨rfl, by kernel_rfl⟩), ⟨.inr (.inr ⟨0, c1 [(i6 x)], rfl, rfl, (VEL.plain (by kernel_rfl))⟩), trivial⟩⟩ (VE.ren (by kernel_rfl)) (VEL.ren (by kernel_rfl)) (VE.ren (by kernel_rfl)))) (And.intro r_ (And.intro h3 (And.intro r_ (Eq.refl ((.ret : Ex), ([(.sl 2 (some (0, 0)) m), (.fn 16 [(.ptr (some (1, 0)))]), u_, u_, (i6 ((j : Nat) : Int)), (i6 ((j : Nat) : Int)), u_, (i6 ((m : Nat) : Int)), (i6 ((j : Nat) : Int)), (.bool (decide ((((j : Nat) : Int) : Int) < ((m : Nat) : Int)))), (i6 ((j : Nat) : Int)), (.fn 16 [(.ptr (some (1, 0)))]), (.sl 2 (some (0, 0)) m), (i6 ((j : Nat) : Int)), (.ptr (some (0, (0 + (j * 2))))), (.agg [(i6 (gF S j).1), (i6 (gF S j).2)]), (.bool (mP ((gF S j).1) ((gF S j).2) x)), (i6 ((j : Nat) : Int)), u_] : St), ([fb S, c1 [(i6 x)], d_] : Heap))))))))))))) rfl) [some (0, 0), some (1, 0)] [some (0, 0), some (1, 0), none] [] [fb S, c1 [(i6 x)]] True.intro (by kernel_rfl) (by kernel_rfl) ⟨⟨0, 0, false, ((S.map encR).flatten), rfl, rfl, VEL.get_ro (VEL.plain (plains_flat _ encR_plains _))⟩, ⟨⟨1, [(i6 x)], rfl, rfl, (VEL.plain (by kernel_rfl))⟩, trivial⟩⟩ ⟨.inr (.inl ⟨rfl, by kernel_rfl⟩), ⟨.inr (.inr ⟨1, c1 [(i6 x)], rfl, rfl, (VEL.plain (by kernel_rfl))⟩), trivial⟩⟩ (VEL.ren (by kernel_rfl)) (.c .dr (.c .dr (.c .u (.c .u (.c (VE.ren (by kernel_rfl)) (VEL.drs (by kernel_rfl))))))))


noncomputable abbrev iy_s_s (S : List FT) (m : Nat) (x : Int) (j i : Nat) : St := [(.sl 2 (some (0, 0)) m), (.fn 16 [(.ptr (some (1, 0)))]), u_, u_, u_, (i6 ((j : Nat) : Int)), u_, (i6 ((m : Nat) : Int)), (i6 (IntKind.wrap .i64 (((j : Nat) : Int) + 1))), (.bool (decide ((((j : Nat) : Int) : Int) < ((m : Nat) : Int)))), (i6 ((j : Nat) : Int)), (.fn 16 [(.ptr (some (1, 0)))]), (.sl 2 (some (0, 0)) m), (i6 ((j : Nat) : Int)), (.ptr (some (0, (0 + (j * 2))))), (.agg [(i6 (gF S j).1), (i6 (gF S j).2)]), (.bool (mP ((gF S j).1) ((gF S j).2) x)), u_, (i6 (IntKind.wrap .i64 (((j : Nat) : Int) + 1)))]
noncomputable abbrev iy_s_h (S : List FT) (m : Nat) (x : Int) (j i : Nat) : Heap := [fb S, c1 [(i6 x)], d_]
theorem iy_s (S : List FT) (m : Nat) (x : Int) (j i : Nat) (h0 : (decide ((((j : Nat) : Int) : Int) < ((m : Nat) : Int))) = true) (h1 : 0 ≤ (((j : Nat) : Int) : Int) ∧ (((j : Nat) : Int) : Int) < ((m : Nat) : Int)) (h2 : j < S.length) (h3 : (mP ((gF S j).1) ((gF S j).2) x) = false) (h4 : ((IntKind.wrap .i64 (((j : Nat) : Int) + 1)) : Int) = (((j + 1) : Nat) : Int)) (ih : LOK cfg none (lb 22 0) ((.sl 2 (some (0, 0)) m) :: (.fn 16 [(.ptr (some (1, 0)))]) :: u_ :: u_ :: u_ :: u_ :: u_ :: (i6 ((m : Nat) : Int)) :: (i6 (((j + 1) : Nat) : Int)) :: us 10) [fb S, c1 [(i6 x)]] (.exit 0) (us 19) [fb S, c1 [(i6 x)]]) : LOK cfg none (lb 22 0) ((.sl 2 (some (0, 0)) m) :: (.fn 16 [(.ptr (some (1, 0)))]) :: u_ :: u_ :: u_ :: u_ :: u_ :: (i6 ((m : Nat) : Int)) :: (i6 ((j : Nat) : Int)) :: us 10) [fb S, c1 [(i6 x)]] (.exit 0) (us 19) [fb S, c1 [(i6 x)]] :=
  (LOK.re (st1' := (us 19)) (LOK.step (cok_of' hmix (n := 40) (rd := none) (code := (lb 22 0)) (st := ((.sl 2 (some (0, 0)) m) :: (.fn 16 [(.ptr (some (1, 0)))]) :: u_ :: u_ :: u_ :: u_ :: u_ :: (i6 ((m : Nat) : Int)) :: (i6 ((j : Nat) : Int)) :: us 10)) (H := [fb S, c1 [(i6 x)]]) (os := [.c, .t, .c, .c, .c, .c, .c, .a, .v (.agg [(i6 (gF S j).1), (i6 (gF S j).2)]), .r (.bool (mP ((gF S j).1) ((gF S j).2) x)) (iy_s_h S m x j i), .f, .c, .c]) (e := .normal) (st' := (iy_s_s S m x j i)) (H' := (iy_s_h S m x j i)) (by kernel_rfl) (And.intro r_ (And.intro h0 (And.intro r_ (And.intro h1 (And.intro (encR_agg (S := S) h2) (And.intro (OK.pad (OK.at (fv1 := (.fn 16 [(.ptr (some (1, 0)))])) (args1 := [(.agg [(i6 (gF S j).1), (i6 (gF S j).2)])]) (v1 := (.bool (mP ((gF S j).1) ((gF S j).2) x))) (clo ((gF S j).1) ((gF S j).2) x) [some (1, 0)] [some (1, 0), none, none] [] [fb S, c1 [(i6 x)]] [fb S, c1 [(i6 x)]] (by kernel_rfl) (by kernel_rfl) ⟨⟨1, [(i6 x)], rfl, rfl, (VEL.plain (by kernel_rfl))⟩, trivial⟩ ⟨.inr (.inl ⟨rfl, by kernel_rfl⟩), ⟨.inr (.inr ⟨0, c1 [(i6 x)], rfl, rfl, (VEL.plain (by kernel_rfl))⟩), trivial⟩⟩ (VE.ren (by kernel_rfl)) (VEL.ren (by kernel_rfl)) (VE.ren (by kernel_rfl)))) (And.intro r_ (And.intro h3 (And.intro r_ (Eq.refl (Ex.normal, ((iy_s_s S m x j i) : St), ((iy_s_h S m x j i) : Heap))))))))))))) (LOK.at (rd := none) (rd1 := none) (st1 := (iy_s_s S m x j i)) (st1' := (us 19)) ih [some (0, 0), some (1, 0)] [some (0, 0), some (1, 0)] [] (iy_s_h S m x j i) (iy_s_h S m x j i) True.intro (by kernel_rfl) (by kernel_rfl) ⟨⟨0, 0, false, ((S.map encR).flatten), rfl, rfl, VEL.get_ro (VEL.plain (plains_flat _ encR_plains _))⟩, ⟨⟨1, [(i6 x)], rfl, rfl, (VEL.plain (by kernel_rfl))⟩, trivial⟩⟩ ⟨.inr (.inl ⟨rfl, by kernel_rfl⟩), ⟨.inr (.inr ⟨1, c1 [(i6 x)], rfl, rfl, (VEL.plain (by kernel_rfl))⟩), ⟨.inl rfl, trivial⟩⟩⟩ (.c (VE.ren (by kernel_rfl)) (.c (VE.ren (by kernel_rfl)) (.c .u (.c .u (.c .u (.c .q (.c .u (.c (VE.ren (by kernel_rfl)) (.c (VE.eqI h4) (VEL.qs (by kernel_rfl))))))))))) (VEL.ren (by kernel_rfl)))) [some (0, 0), some (1, 0)] [some (0, 0), some (1, 0), none] [] [fb S, c1 [(i6 x)]] True.intro (by kernel_rfl) (by kernel_rfl) ⟨⟨0, 0, false, ((S.map encR).flatten), rfl, rfl, VEL.get_ro (VEL.plain (plains_flat _ encR_plains _))⟩, ⟨⟨1, [(i6 x)], rfl, rfl, (VEL.plain (by kernel_rfl))⟩, trivial⟩⟩ ⟨.inr (.inl ⟨rfl, by kernel_rfl⟩), ⟨.inr (.inr ⟨1, c1 [(i6 x)], rfl, rfl, (VEL.plain (by kernel_rfl))⟩), trivial⟩⟩ (VEL.ren (by kernel_rfl)) (VEL.ren (by kernel_rfl)))


theorem iy_x (S : List FT) (m : Nat) (x : Int) (j i : Nat) (h0 : (decide ((((j : Nat) : Int) : Int) < ((m : Nat) : Int))) = false) : LOK cfg none (lb 22 0) ((.sl 2 (some (0, 0)) m) :: (.fn 16 [(.ptr (some (1, 0)))]) :: u_ :: u_ :: u_ :: u_ :: u_ :: (i6 ((m : Nat) : Int)) :: (i6 ((j : Nat) : Int)) :: us 10) [fb S, c1 [(i6 x)]] (.exit 0) (us 19) [fb S, c1 [(i6 x)]] :=
  (LOK.re (st1' := (us 19)) (LOK.exit (cok_of' hmix (n := 40) (rd := none) (code := (lb 22 0)) (st := ((.sl 2 (some (0, 0)) m) :: (.fn 16 [(.ptr (some (1, 0)))]) :: u_ :: u_ :: u_ :: u_ :: u_ :: (i6 ((m : Nat) : Int)) :: (i6 ((j : Nat) : Int)) :: us 10)) (H := [fb S, c1 [(i6 x)]]) (os := [.c, .f]) (e := (.exit 0)) (st' := [(.sl 2 (some (0, 0)) m), (.fn 16 [(.ptr (some (1, 0)))]), u_, u_, u_, u_, u_, (i6 ((m : Nat) : Int)), (i6 ((j : Nat) : Int)), (.bool (decide ((((j : Nat) : Int) : Int) < ((m : Nat) : Int)))), u_, u_, u_, u_, u_, u_, u_, u_, u_]) (H' := [fb S, c1 [(i6 x)]]) (by kernel_rfl) (And.intro r_ (And.intro h0 (Eq.refl (((.exit 0) : Ex), ([(.sl 2 (some (0, 0)) m), (.fn 16 [(.ptr (some (1, 0)))]), u_, u_, u_, u_, u_, (i6 ((m : Nat) : Int)), (i6 ((j : Nat) : Int)), (.bool (decide ((((j : Nat) : Int) : Int) < ((m : Nat) : Int)))), u_, u_, u_, u_, u_, u_, u_, u_, u_] : St), ([fb S, c1 [(i6 x)]] : Heap)))))) rfl) [some (0, 0), some (1, 0)] [some (0, 0), some (1, 0)] [] [fb S, c1 [(i6 x)]] True.intro (by kernel_rfl) (by kernel_rfl) ⟨⟨0, 0, false, ((S.map encR).flatten), rfl, rfl, VEL.get_ro (VEL.plain (plains_flat _ encR_plains _))⟩, ⟨⟨1, [(i6 x)], rfl, rfl, (VEL.plain (by kernel_rfl))⟩, trivial⟩⟩ ⟨.inr (.inl ⟨rfl, by kernel_rfl⟩), ⟨.inr (.inr ⟨1, c1 [(i6 x)], rfl, rfl, (VEL.plain (by kernel_rfl))⟩), trivial⟩⟩ (VEL.ren (by kernel_rfl)) (VEL.drs (by kernel_rfl)))

theorem ct_r_q_1 (S : List FT) (m : Nat) (x : Int) (i : Nat) (hl : LOK cfg none (lb 22 0) ((.sl 2 (some (0, 0)) m) :: (.fn 16 [(.ptr (some (1, 0)))]) :: u_ :: u_ :: u_ :: u_ :: u_ :: (i6 ((m : Nat) : Int)) :: (i6 0) :: us 10) [fb S, c1 [(i6 x)]] .ret (u_ :: u_ :: u_ :: u_ :: (i6 ((i : Nat) : Int)) :: us 14) [fb S, c1 [(i6 x)]])  : OK cfg (.fn 22 []) [(.sl 2 (some (0, 0)) m), (.fn 16 [(.ptr (some (1, 0)))])] [fb S, c1 [(i6 x)]] (i6 ((i : Nat) : Int)) [fb S, c1 [(i6 x)]] :=
  ok_fn' hmix (n := 40) (os := [.c, .c, .c, .c, .l .ret (u_ :: u_ :: u_ :: u_ :: (i6 ((i : Nat) : Int)) :: us 14) [fb S, c1 [(i6 x)]]]) (by kernel_rfl) (And.intro r_ (And.intro r_ (And.intro (LOK.at (rd := none) (rd1 := none) (st1 := [(.sl 2 (some (0, 0)) m), (.fn 16 [(.ptr (some (1, 0)))]), t_, t_, (i6 0), t_, (.sl 2 (some (0, 0)) m), (i6 ((m : Nat) : Int)), (i6 0), t_, t_, t_, t_, t_, t_, t_, t_, t_, t_]) (st1' := (u_ :: u_ :: u_ :: u_ :: (i6 ((i : Nat) : Int)) :: us 14)) hl [some (0, 0), some (1, 0)] [some (0, 0), some (1, 0)] [] [fb S, c1 [(i6 x)]] [fb S, c1 [(i6 x)]] True.intro (by kernel_rfl) (by kernel_rfl) ⟨⟨0, 0, false, ((S.map encR).flatten), rfl, rfl, VEL.get_ro (VEL.plain (plains_flat _ encR_plains _))⟩, ⟨⟨1, [(i6 x)], rfl, rfl, (VEL.plain (by kernel_rfl))⟩, trivial⟩⟩ ⟨.inr (.inl ⟨rfl, by kernel_rfl⟩), ⟨.inr (.inr ⟨1, c1 [(i6 x)], rfl, rfl, (VEL.plain (by kernel_rfl))⟩), trivial⟩⟩ (.c (VE.ren (by kernel_rfl)) (.c (VE.ren (by kernel_rfl)) (.c .q (.c .q (.c .q (.c .q (.c .q (.c (VE.ren (by kernel_rfl)) (.c (VE.ren (by kernel_rfl)) (VEL.qs (by kernel_rfl))))))))))) (VEL.ren (by kernel_rfl))) (Eq.refl (((i6 ((i : Nat) : Int)) : V), ([fb S, c1 [(i6 x)]] : Heap))))))

theorem ct_r (S : List FT) (m : Nat) (x : Int) (i : Nat) (hl : LOK cfg none (lb 22 0) ((.sl 2 (some (0, 0)) m) :: (.fn 16 [(.ptr (some (1, 0)))]) :: u_ :: u_ :: u_ :: u_ :: u_ :: (i6 ((m : Nat) : Int)) :: (i6 0) :: us 10) [fb S, c1 [(i6 x)]] .ret (u_ :: u_ :: u_ :: u_ :: (i6 ((i : Nat) : Int)) :: us 14) [fb S, c1 [(i6 x)]])  : OK cfg (.fn 15 []) [(.sl 2 (some (0, 0)) m), (.fn 16 [(.ptr (some (1, 0)))])] [fb S, c1 [(i6 x)]] (.bool (decide ((((i : Nat) : Int) : Int) ≥ 0))) [fb S, c1 [(i6 x)], d_] :=
  ok_fn' hmix (n := 40) (os := [.c, .c, .c, .r (i6 ((i : Nat) : Int)) [fb S, c1 [(i6 x)], d_], .c, .c]) (by kernel_rfl) (And.intro r_ (And.intro (OK.pad (ct_r_q_1 S m x i hl)) (And.intro r_ (Eq.refl (((.bool (decide ((((i : Nat) : Int) : Int) ≥ 0))) : V), ([fb S, c1 [(i6 x)], d_] : Heap))))))

theorem ct_x_q_1 (S : List FT) (m : Nat) (x : Int) (i : Nat) (hl : LOK cfg none (lb 22 0) ((.sl 2 (some (0, 0)) m) :: (.fn 16 [(.ptr (some (1, 0)))]) :: u_ :: u_ :: u_ :: u_ :: u_ :: (i6 ((m : Nat) : Int)) :: (i6 0) :: us 10) [fb S, c1 [(i6 x)]] (.exit 0) (us 19) [fb S, c1 [(i6 x)]])  : OK cfg (.fn 22 []) [(.sl 2 (some (0, 0)) m), (.fn 16 [(.ptr (some (1, 0)))])] [fb S, c1 [(i6 x)]] (i6 (-1)) [fb S, c1 [(i6 x)]] :=
  ok_fn' hmix (n := 40) (os := [.c, .c, .c, .c, .l (.exit 0) (us 19) [fb S, c1 [(i6 x)]], .c]) (by kernel_rfl) (And.intro r_ (And.intro r_ (And.intro (LOK.at (rd := none) (rd1 := none) (st1 := [(.sl 2 (some (0, 0)) m), (.fn 16 [(.ptr (some (1, 0)))]), t_, t_, (i6 0), t_, (.sl 2 (some (0, 0)) m), (i6 ((m : Nat) : Int)), (i6 0), t_, t_, t_, t_, t_, t_, t_, t_, t_, t_]) (st1' := (us 19)) hl [some (0, 0), some (1, 0)] [some (0, 0), some (1, 0)] [] [fb S, c1 [(i6 x)]] [fb S, c1 [(i6 x)]] True.intro (by kernel_rfl) (by kernel_rfl) ⟨⟨0, 0, false, ((S.map encR).flatten), rfl, rfl, VEL.get_ro (VEL.plain (plains_flat _ encR_plains _))⟩, ⟨⟨1, [(i6 x)], rfl, rfl, (VEL.plain (by kernel_rfl))⟩, trivial⟩⟩ ⟨.inr (.inl ⟨rfl, by kernel_rfl⟩), ⟨.inr (.inr ⟨1, c1 [(i6 x)], rfl, rfl, (VEL.plain (by kernel_rfl))⟩), trivial⟩⟩ (.c (VE.ren (by kernel_rfl)) (.c (VE.ren (by kernel_rfl)) (.c .q (.c .q (.c .q (.c .q (.c .q (.c (VE.ren (by kernel_rfl)) (.c (VE.ren (by kernel_rfl)) (VEL.qs (by kernel_rfl))))))))))) (VEL.ren (by kernel_rfl))) (And.intro r_ (Eq.refl (((i6 (-1)) : V), ([fb S, c1 [(i6 x)]] : Heap)))))))

theorem ct_x (S : List FT) (m : Nat) (x : Int) (i : Nat) (hl : LOK cfg none (lb 22 0) ((.sl 2 (some (0, 0)) m) :: (.fn 16 [(.ptr (some (1, 0)))]) :: u_ :: u_ :: u_ :: u_ :: u_ :: (i6 ((m : Nat) : Int)) :: (i6 0) :: us 10) [fb S, c1 [(i6 x)]] (.exit 0) (us 19) [fb S, c1 [(i6 x)]])  : OK cfg (.fn 15 []) [(.sl 2 (some (0, 0)) m), (.fn 16 [(.ptr (some (1, 0)))])] [fb S, c1 [(i6 x)]] (.bool false) [fb S, c1 [(i6 x)], d_] :=
  ok_fn' hmix (n := 40) (os := [.c, .c, .c, .r (i6 (-1)) [fb S, c1 [(i6 x)], d_], .c, .c]) (by kernel_rfl) (And.intro r_ (And.intro (OK.pad (ct_x_q_1 S m x i hl)) (And.intro r_ (Eq.refl (((.bool false) : V), ([fb S, c1 [(i6 x)], d_] : Heap))))))

theorem first (p : Nat → Bool) : ∀ n, (∀ j, j < n → p j = false) ∨ ∃ i, i < n ∧ p i = true ∧ ∀ j, j < i → p j = false
  | 0 => .inl fun j h => by omega
  | n + 1 => by
    rcases first p n with h | ⟨i, h1, h2, h3⟩
    · cases e : p n with
      | false =>
        refine .inl fun j hj => ?_
        by_cases hj' : j = n
        · rw [hj']; exact e
        · exact h j (by omega)
      | true => exact .inr ⟨n, by omega, e, h⟩
    · exact .inr ⟨i, by omega, h2, h3⟩
theorem any_t {p : Nat → Bool} {n i : Nat} (h : i < n) (hp : p i = true) : (List.range n).any p = true := List.any_eq_true.2 ⟨i, List.mem_range.2 h, hp⟩
theorem any_f {p : Nat → Bool} {n : Nat} (h : ∀ j, j < n → p j = false) : (List.range n).any p = false := by
  rw [List.any_eq_false]
  intro j hj
  rw [h j (List.mem_range.1 hj)]
  decide
theorem ixf_all (S : List FT) (m : Nat) (x : Int) (i : Nat) (hm : m ≤ S.length) (h9 : m ≤ 1000) (hi : i < m) (hy : mP (gF S i).1 (gF S i).2 x = true) : ∀ (d j : Nat), j + d = i → (∀ j', j ≤ j' → j' < i → mP (gF S j').1 (gF S j').2 x = false) → LOK cfg none (lb 22 0) ((.sl 2 (some (0, 0)) m) :: (.fn 16 [(.ptr (some (1, 0)))]) :: u_ :: u_ :: u_ :: u_ :: u_ :: (i6 ((m : Nat) : Int)) :: (i6 ((j : Nat) : Int)) :: us 10) [fb S, c1 [(i6 x)]] .ret (u_ :: u_ :: u_ :: u_ :: (i6 ((i : Nat) : Int)) :: us 14) [fb S, c1 [(i6 x)]] := by
  intro d
  induction d with
  | zero =>
    intro j hj hn
    have : j = i := by omega
    subst this
    have hp := hy
    exact ix_f S m x j 0 (decide_eq_true (by omega)) (by omega) (by omega) hp
  | succ d IH =>
    intro j hj hn
    have hp := hn j (by omega) (by omega)
    exact ix_s S m x j i (decide_eq_true (by omega)) (by omega) (by omega) hp ((wrap_i64 (by omega)).trans (by omega)) (IH (j + 1) (by omega) (fun j' a b => hn j' (by omega) b))
theorem ixn_all (S : List FT) (m : Nat) (x : Int) (hm : m ≤ S.length) (h9 : m ≤ 1000) (hn : ∀ j', j' < m → mP (gF S j').1 (gF S j').2 x = false) : ∀ (d j : Nat), j + d = m → LOK cfg none (lb 22 0) ((.sl 2 (some (0, 0)) m) :: (.fn 16 [(.ptr (some (1, 0)))]) :: u_ :: u_ :: u_ :: u_ :: u_ :: (i6 ((m : Nat) : Int)) :: (i6 ((j : Nat) : Int)) :: us 10) [fb S, c1 [(i6 x)]] (.exit 0) (us 19) [fb S, c1 [(i6 x)]] := by
  intro d
  induction d with
  | zero =>
    intro j hj
    exact iy_x S m x j 0 (decide_eq_false (by omega))
  | succ d IH =>
    intro j hj
    have hp := hn j (by omega)
    exact iy_s S m x j 0 (decide_eq_true (by omega)) (by omega) (by omega) hp ((wrap_i64 (by omega)).trans (by omega)) (IH (j + 1) (by omega))
/-- Does one of some filters let an identifier pass? -/
def anV (S : List FT) (m : Nat) (x : Int) : Bool := (List.range m).any fun j => mP (gF S j).1 (gF S j).2 x
def isV (x : Int) : Bool := decide (0 ≤ x) && decide (x ≤ 2047)
def psV (S : List FT) (m : Nat) (x : Int) : Bool := isV x && anV S m x
theorem cont_ok (S : List FT) (m : Nat) (x : Int) (hm : m ≤ S.length) (h9 : m ≤ 1000) : OK cfg (.fn 15 []) [.sl 2 (some (0, 0)) m, .fn 16 [.ptr (some (1, 0))]] [fb S, c1 [(i6 x)]] (.bool (anV S m x)) [fb S, c1 [(i6 x)], d_] := by
  rcases first (fun j => mP (gF S j).1 (gF S j).2 x) m with h | ⟨i, h1, h2, h3⟩
  · have := ct_x S m x 0 (ixn_all S m x hm h9 h m 0 (by omega))
    exact OK.eqv this (by rw [anV, any_f h])
  · have := ct_r S m x i (ixf_all S m x i hm h9 h1 h2 i 0 (by omega) (fun j _ hj => h3 j hj))
    exact OK.eqv this (by rw [anV, any_t h1 h2, decide_eq_true (by omega)])


theorem is_n (x : Int) (h0 : (decide ((x : Int) ≥ 0)) = false) : OK cfg (.fn 14 []) [(i6 x)] [] (.bool false) [] :=
  ok_fn' hmix (n := 40) (os := [.c, .c, .c, .c, .f, .c, .c, .c]) (by kernel_rfl) (And.intro r_ (And.intro h0 (And.intro r_ (Eq.refl (((.bool false) : V), ([] : Heap))))))

theorem is_n' (x : Int) (h0 : (decide ((x : Int) ≥ 0)) = false) : OK cfg (.fn 14 []) [(i6 x)] [] (.bool false) [] :=
  (OK.at (fv1 := (.fn 14 [])) (args1 := [(i6 x)]) (v1 := (.bool false)) (is_n x h0) [] [] [] [] [] (by kernel_rfl) (by kernel_rfl) trivial trivial (VE.ren (by kernel_rfl)) (VEL.plain (by kernel_rfl)) (VE.ren (by kernel_rfl)))


theorem is_y (x : Int) (h0 : (decide ((x : Int) ≥ 0)) = true) : OK cfg (.fn 14 []) [(i6 x)] [] (.bool (decide ((x : Int) ≤ 2047))) [] :=
  ok_fn' hmix (n := 40) (os := [.c, .c, .c, .c, .t, .c, .c, .c, .c, .c]) (by kernel_rfl) (And.intro r_ (And.intro h0 (And.intro r_ (Eq.refl (((.bool (decide ((x : Int) ≤ 2047))) : V), ([] : Heap))))))

theorem is_y' (x : Int) (h0 : (decide ((x : Int) ≥ 0)) = true) : OK cfg (.fn 14 []) [(i6 x)] [] (.bool (decide ((x : Int) ≤ 2047))) [] :=
  (OK.at (fv1 := (.fn 14 [])) (args1 := [(i6 x)]) (v1 := (.bool (decide ((x : Int) ≤ 2047)))) (is_y x h0) [] [] [] [] [] (by kernel_rfl) (by kernel_rfl) trivial trivial (VE.ren (by kernel_rfl)) (VEL.plain (by kernel_rfl)) (VE.ren (by kernel_rfl)))

theorem is_ok (x : Int) (H : Heap) : OK cfg (.fn 14 []) [.int .i64 x] H (.bool (isV x)) H := by
  by_cases h : 0 ≤ x
  · exact OK.any (OK.eqv (is_y' x (decide_eq_true (by omega))) (by unfold isV; rw [decide_eq_true h]; rfl)) H rfl rfl
  · exact OK.any (OK.eqv (is_n' x (decide_eq_false (by omega))) (by unfold isV; rw [decide_eq_false h]; rfl)) H rfl rfl


theorem ps_n (S : List FT) (m : Nat) (x : Int) (h0 : (isV x) = false) : OK cfg (.fn 6 []) [(i6 x), (.sl 2 (some (0, 0)) m)] [fb S] (.bool false) [fb S, c1 [(i6 x)], d_] :=
  ok_fn' hmix (n := 40) (os := [.c, .c, .c, .r (.bool (isV x)) [fb S, c1 [(i6 x)], d_], .c, .f, .c, .c, .c, .c]) (by kernel_rfl) (And.intro r_ (And.intro (OK.pad (is_ok x [fb S, c1 [(i6 x)]])) (And.intro h0 (And.intro r_ (Eq.refl (((.bool false) : V), ([fb S, c1 [(i6 x)], d_] : Heap)))))))

theorem ps_n' (S : List FT) (m : Nat) (x : Int) (h0 : (isV x) = false) : OK cfg (.fn 6 []) [(i6 x), (.sl 2 (some (0, 0)) m)] [fb S] (.bool false) [fb S] :=
  (OK.at (fv1 := (.fn 6 [])) (args1 := [(i6 x), (.sl 2 (some (0, 0)) m)]) (v1 := (.bool false)) (ps_n S m x h0) [some (0, 0)] [some (0, 0), none, none] [] [fb S] [fb S] (by kernel_rfl) (by kernel_rfl) ⟨⟨0, 0, false, ((S.map encR).flatten), rfl, rfl, VEL.get_ro (VEL.plain (plains_flat _ encR_plains _))⟩, trivial⟩ ⟨.inr (.inl ⟨rfl, by kernel_rfl⟩), trivial⟩ (VE.ren (by kernel_rfl)) (VEL.ren (by kernel_rfl)) (VE.ren (by kernel_rfl)))


theorem ps_y (S : List FT) (m : Nat) (x : Int) (h0 : (isV x) = true) (h1 : m ≤ S.length) (h2 : m ≤ 1000) : OK cfg (.fn 6 []) [(i6 x), (.sl 2 (some (0, 0)) m)] [fb S] (.bool (anV S m x)) [fb S, c1 [(i6 x)], d_, d_] :=
  ok_fn' hmix (n := 40) (os := [.c, .c, .c, .r (.bool (isV x)) [fb S, c1 [(i6 x)], d_], .c, .t, .c, .c, .c, .c, .r (.bool (anV S m x)) [fb S, c1 [(i6 x)], d_, d_], .c, .c]) (by kernel_rfl) (And.intro r_ (And.intro (OK.pad (is_ok x [fb S, c1 [(i6 x)]])) (And.intro h0 (And.intro (OK.pad (OK.at (fv1 := (.fn 15 [])) (args1 := [(.sl 2 (some (0, 0)) m), (.fn 16 [(.ptr (some (1, 0)))])]) (v1 := (.bool (anV S m x))) (cont_ok S m x h1 h2) [some (0, 0), some (1, 0)] [some (0, 0), some (1, 0), none] [] [fb S, c1 [(i6 x)], d_] [fb S, c1 [(i6 x)], d_] (by kernel_rfl) (by kernel_rfl) ⟨⟨0, 0, false, ((S.map encR).flatten), rfl, rfl, VEL.get_ro (VEL.plain (plains_flat _ encR_plains _))⟩, ⟨⟨1, [(i6 x)], rfl, rfl, (VEL.plain (by kernel_rfl))⟩, trivial⟩⟩ ⟨.inr (.inl ⟨rfl, by kernel_rfl⟩), ⟨.inr (.inr ⟨1, c1 [(i6 x)], rfl, rfl, (VEL.plain (by kernel_rfl))⟩), ⟨.inl rfl, trivial⟩⟩⟩ (VE.ren (by kernel_rfl)) (VEL.ren (by kernel_rfl)) (VE.ren (by kernel_rfl)))) (And.intro r_ (Eq.refl (((.bool (anV S m x)) : V), ([fb S, c1 [(i6 x)], d_, d_] : Heap))))))))

theorem ps_y' (S : List FT) (m : Nat) (x : Int) (h0 : (isV x) = true) (h1 : m ≤ S.length) (h2 : m ≤ 1000) : OK cfg (.fn 6 []) [(i6 x), (.sl 2 (some (0, 0)) m)] [fb S] (.bool (anV S m x)) [fb S] :=
  (OK.at (fv1 := (.fn 6 [])) (args1 := [(i6 x), (.sl 2 (some (0, 0)) m)]) (v1 := (.bool (anV S m x))) (ps_y S m x h0 h1 h2) [some (0, 0)] [some (0, 0), none, none, none] [] [fb S] [fb S] (by kernel_rfl) (by kernel_rfl) ⟨⟨0, 0, false, ((S.map encR).flatten), rfl, rfl, VEL.get_ro (VEL.plain (plains_flat _ encR_plains _))⟩, trivial⟩ ⟨.inr (.inl ⟨rfl, by kernel_rfl⟩), trivial⟩ (VE.ren (by kernel_rfl)) (VEL.ren (by kernel_rfl)) (VE.ren (by kernel_rfl)))

theorem pass_ok (S : List FT) (m : Nat) (x : Int) (hm : m ≤ S.length) (h9 : m ≤ 1000) : OK cfg (.fn 6 []) [.int .i64 x, .sl 2 (some (0, 0)) m] [fb S] (.bool (psV S m x)) [fb S] := by
  unfold psV
  cases h : isV x with
  | true => exact ps_y' S m x h (by omega) (by omega)
  | false => exact ps_n' S m x h


noncomputable abbrev rq_r_s (S : List FT) (m : Nat) (x : Int) (j i : Nat) : St := [(i6 x), (.sl 2 (some (0, 0)) m), u_, u_, u_, (i6 (IntKind.wrap .i64 (((j : Nat) : Int) + 1))), (i6 ((j : Nat) : Int)), (.sl 2 (some (0, 0)) m), (i6 ((m : Nat) : Int)), (.bool (decide ((((j : Nat) : Int) : Int) < ((m : Nat) : Int)))), (i6 ((j : Nat) : Int)), (i6 (IntKind.wrap .i64 (((j : Nat) : Int) + 1))), (.sl 2 (some (0, 0)) m), (i6 ((j : Nat) : Int)), (.ptr (some (0, (0 + (j * 2))))), (.agg [(i6 (gF S j).1), (i6 (gF S j).2)]), (i6 x), (.bool (oV ((gF S j).1) ((gF S j).2) x))]
noncomputable abbrev rq_r_h (S : List FT) (m : Nat) (x : Int) (j i : Nat) : Heap := [fb S, d_]
theorem rq_r (S : List FT) (m : Nat) (x : Int) (j i : Nat) (h0 : (decide ((((j : Nat) : Int) : Int) < ((m : Nat) : Int))) = true) (h1 : 0 ≤ (((j : Nat) : Int) : Int) ∧ (((j : Nat) : Int) : Int) < ((m : Nat) : Int)) (h2 : j < S.length) (h3 : (oV ((gF S j).1) ((gF S j).2) x) = false) (h4 : ((IntKind.wrap .i64 (((j : Nat) : Int) + 1)) : Int) = (((j + 1) : Nat) : Int)) (ih : LOK cfg none (lb 7 0) ((i6 x) :: (.sl 2 (some (0, 0)) m) :: u_ :: u_ :: u_ :: (i6 (((j + 1) : Nat) : Int)) :: us 12) [fb S] .ret (u_ :: u_ :: u_ :: u_ :: (.bool true) :: us 13) [fb S]) : LOK cfg none (lb 7 0) ((i6 x) :: (.sl 2 (some (0, 0)) m) :: u_ :: u_ :: u_ :: (i6 ((j : Nat) : Int)) :: us 12) [fb S] .ret (u_ :: u_ :: u_ :: u_ :: (.bool true) :: us 13) [fb S] :=
  (LOK.re (st1' := (u_ :: u_ :: u_ :: u_ :: (.bool true) :: us 13)) (LOK.step (cok_of' hmix (n := 40) (rd := none) (code := (lb 7 0)) (st := ((i6 x) :: (.sl 2 (some (0, 0)) m) :: u_ :: u_ :: u_ :: (i6 ((j : Nat) : Int)) :: us 12)) (H := [fb S]) (os := [.c, .c, .c, .c, .t, .c, .c, .a, .v (.agg [(i6 (gF S j).1), (i6 (gF S j).2)]), .c, .r (.bool (oV ((gF S j).1) ((gF S j).2) x)) (rq_r_h S m x j i), .f, .c, .c, .c]) (e := .normal) (st' := (rq_r_s S m x j i)) (H' := (rq_r_h S m x j i)) (by kernel_rfl) (And.intro r_ (And.intro h0 (And.intro h1 (And.intro (encR_agg (S := S) h2) (And.intro (OK.pad (one_ok ((gF S j).1) ((gF S j).2) x [fb S])) (And.intro r_ (And.intro h3 (And.intro r_ (Eq.refl (Ex.normal, ((rq_r_s S m x j i) : St), ((rq_r_h S m x j i) : Heap)))))))))))) (LOK.at (rd := none) (rd1 := none) (st1 := (rq_r_s S m x j i)) (st1' := (u_ :: u_ :: u_ :: u_ :: (.bool true) :: us 13)) ih [some (0, 0)] [some (0, 0)] [] (rq_r_h S m x j i) (rq_r_h S m x j i) True.intro (by kernel_rfl) (by kernel_rfl) ⟨⟨0, 0, false, ((S.map encR).flatten), rfl, rfl, VEL.get_ro (VEL.plain (plains_flat _ encR_plains _))⟩, trivial⟩ ⟨.inr (.inl ⟨rfl, by kernel_rfl⟩), ⟨.inl rfl, trivial⟩⟩ (.c (VE.ren (by kernel_rfl)) (.c (VE.ren (by kernel_rfl)) (.c .u (.c .u (.c .u (.c (VE.eqI h4) (VEL.qs (by kernel_rfl)))))))) (VEL.ren (by kernel_rfl)))) [some (0, 0)] [some (0, 0), none] [] [fb S] True.intro (by kernel_rfl) (by kernel_rfl) ⟨⟨0, 0, false, ((S.map encR).flatten), rfl, rfl, VEL.get_ro (VEL.plain (plains_flat _ encR_plains _))⟩, trivial⟩ ⟨.inr (.inl ⟨rfl, by kernel_rfl⟩), trivial⟩ (VEL.ren (by kernel_rfl)) (VEL.ren (by kernel_rfl)))


noncomputable abbrev rq_x_s (S : List FT) (m : Nat) (x : Int) (j i : Nat) : St := [(i6 x), (.sl 2 (some (0, 0)) m), u_, u_, u_, (i6 (IntKind.wrap .i64 (((j : Nat) : Int) + 1))), (i6 ((j : Nat) : Int)), (.sl 2 (some (0, 0)) m), (i6 ((m : Nat) : Int)), (.bool (decide ((((j : Nat) : Int) : Int) < ((m : Nat) : Int)))), (i6 ((j : Nat) : Int)), (i6 (IntKind.wrap .i64 (((j : Nat) : Int) + 1))), (.sl 2 (some (0, 0)) m), (i6 ((j : Nat) : Int)), (.ptr (some (0, (0 + (j * 2))))), (.agg [(i6 (gF S j).1), (i6 (gF S j).2)]), (i6 x), (.bool (oV ((gF S j).1) ((gF S j).2) x))]
noncomputable abbrev rq_x_h (S : List FT) (m : Nat) (x : Int) (j i : Nat) : Heap := [fb S, d_]
theorem rq_x (S : List FT) (m : Nat) (x : Int) (j i : Nat) (h0 : (decide ((((j : Nat) : Int) : Int) < ((m : Nat) : Int))) = true) (h1 : 0 ≤ (((j : Nat) : Int) : Int) ∧ (((j : Nat) : Int) : Int) < ((m : Nat) : Int)) (h2 : j < S.length) (h3 : (oV ((gF S j).1) ((gF S j).2) x) = false) (h4 : ((IntKind.wrap .i64 (((j : Nat) : Int) + 1)) : Int) = (((j + 1) : Nat) : Int)) (ih : LOK cfg none (lb 7 0) ((i6 x) :: (.sl 2 (some (0, 0)) m) :: u_ :: u_ :: u_ :: (i6 (((j + 1) : Nat) : Int)) :: us 12) [fb S] (.exit 0) (us 18) [fb S]) : LOK cfg none (lb 7 0) ((i6 x) :: (.sl 2 (some (0, 0)) m) :: u_ :: u_ :: u_ :: (i6 ((j : Nat) : Int)) :: us 12) [fb S] (.exit 0) (us 18) [fb S] :=
  (LOK.re (st1' := (us 18)) (LOK.step (cok_of' hmix (n := 40) (rd := none) (code := (lb 7 0)) (st := ((i6 x) :: (.sl 2 (some (0, 0)) m) :: u_ :: u_ :: u_ :: (i6 ((j : Nat) : Int)) :: us 12)) (H := [fb S]) (os := [.c, .c, .c, .c, .t, .c, .c, .a, .v (.agg [(i6 (gF S j).1), (i6 (gF S j).2)]), .c, .r (.bool (oV ((gF S j).1) ((gF S j).2) x)) (rq_x_h S m x j i), .f, .c, .c, .c]) (e := .normal) (st' := (rq_x_s S m x j i)) (H' := (rq_x_h S m x j i)) (by kernel_rfl) (And.intro r_ (And.intro h0 (And.intro h1 (And.intro (encR_agg (S := S) h2) (And.intro (OK.pad (one_ok ((gF S j).1) ((gF S j).2) x [fb S])) (And.intro r_ (And.intro h3 (And.intro r_ (Eq.refl (Ex.normal, ((rq_x_s S m x j i) : St), ((rq_x_h S m x j i) : Heap)))))))))))) (LOK.at (rd := none) (rd1 := none) (st1 := (rq_x_s S m x j i)) (st1' := (us 18)) ih [some (0, 0)] [some (0, 0)] [] (rq_x_h S m x j i) (rq_x_h S m x j i) True.intro (by kernel_rfl) (by kernel_rfl) ⟨⟨0, 0, false, ((S.map encR).flatten), rfl, rfl, VEL.get_ro (VEL.plain (plains_flat _ encR_plains _))⟩, trivial⟩ ⟨.inr (.inl ⟨rfl, by kernel_rfl⟩), ⟨.inl rfl, trivial⟩⟩ (.c (VE.ren (by kernel_rfl)) (.c (VE.ren (by kernel_rfl)) (.c .u (.c .u (.c .u (.c (VE.eqI h4) (VEL.qs (by kernel_rfl)))))))) (VEL.ren (by kernel_rfl)))) [some (0, 0)] [some (0, 0), none] [] [fb S] True.intro (by kernel_rfl) (by kernel_rfl) ⟨⟨0, 0, false, ((S.map encR).flatten), rfl, rfl, VEL.get_ro (VEL.plain (plains_flat _ encR_plains _))⟩, trivial⟩ ⟨.inr (.inl ⟨rfl, by kernel_rfl⟩), trivial⟩ (VEL.ren (by kernel_rfl)) (VEL.ren (by kernel_rfl)))


theorem rq_f (S : List FT) (m : Nat) (x : Int) (j i : Nat) (h0 : (decide ((((j : Nat) : Int) : Int) < ((m : Nat) : Int))) = true) (h1 : 0 ≤ (((j : Nat) : Int) : Int) ∧ (((j : Nat) : Int) : Int) < ((m : Nat) : Int)) (h2 : j < S.length) (h3 : (oV ((gF S j).1) ((gF S j).2) x) = true) : LOK cfg none (lb 7 0) ((i6 x) :: (.sl 2 (some (0, 0)) m) :: u_ :: u_ :: u_ :: (i6 ((j : Nat) : Int)) :: us 12) [fb S] .ret (u_ :: u_ :: u_ :: u_ :: (.bool true) :: us 13) [fb S] :=
  (LOK.re (st1' := (u_ :: u_ :: u_ :: u_ :: (.bool true) :: us 13)) (LOK.exit (cok_of' hmix (n := 40) (rd := none) (code := (lb 7 0)) (st := ((i6 x) :: (.sl 2 (some (0, 0)) m) :: u_ :: u_ :: u_ :: (i6 ((j : Nat) : Int)) :: us 12)) (H := [fb S]) (os := [.c, .c, .c, .c, .t, .c, .c, .a, .v (.agg [(i6 (gF S j).1), (i6 (gF S j).2)]), .c, .r (.bool (oV ((gF S j).1) ((gF S j).2) x)) [fb S, d_], .t, .c]) (e := .ret) (st' := [(i6 x), (.sl 2 (some (0, 0)) m), u_, u_, (.bool true), (i6 ((j : Nat) : Int)), (i6 ((j : Nat) : Int)), (.sl 2 (some (0, 0)) m), (i6 ((m : Nat) : Int)), (.bool (decide ((((j : Nat) : Int) : Int) < ((m : Nat) : Int)))), u_, u_, (.sl 2 (some (0, 0)) m), (i6 ((j : Nat) : Int)), (.ptr (some (0, (0 + (j * 2))))), (.agg [(i6 (gF S j).1), (i6 (gF S j).2)]), (i6 x), (.bool (oV ((gF S j).1) ((gF S j).2) x))]) (H' := [fb S, d_]) (by kernel_rfl) (And.intro r_ (And.intro h0 (And.intro h1 (And.intro (encR_agg (S := S) h2) (And.intro (OK.pad (one_ok ((gF S j).1) ((gF S j).2) x [fb S])) (And.intro r_ (And.intro h3 (And.intro r_ (Eq.refl ((.ret : Ex), ([(i6 x), (.sl 2 (some (0, 0)) m), u_, u_, (.bool true), (i6 ((j : Nat) : Int)), (i6 ((j : Nat) : Int)), (.sl 2 (some (0, 0)) m), (i6 ((m : Nat) : Int)), (.bool (decide ((((j : Nat) : Int) : Int) < ((m : Nat) : Int)))), u_, u_, (.sl 2 (some (0, 0)) m), (i6 ((j : Nat) : Int)), (.ptr (some (0, (0 + (j * 2))))), (.agg [(i6 (gF S j).1), (i6 (gF S j).2)]), (i6 x), (.bool (oV ((gF S j).1) ((gF S j).2) x))] : St), ([fb S, d_] : Heap)))))))))))) rfl) [some (0, 0)] [some (0, 0), none] [] [fb S] True.intro (by kernel_rfl) (by kernel_rfl) ⟨⟨0, 0, false, ((S.map encR).flatten), rfl, rfl, VEL.get_ro (VEL.plain (plains_flat _ encR_plains _))⟩, trivial⟩ ⟨.inr (.inl ⟨rfl, by kernel_rfl⟩), trivial⟩ (VEL.ren (by kernel_rfl)) (.c .dr (.c .dr (.c .u (.c .u (.c (VE.ren (by kernel_rfl)) (VEL.drs (by kernel_rfl))))))))


theorem rq_e (S : List FT) (m : Nat) (x : Int) (j i : Nat) (h0 : (decide ((((j : Nat) : Int) : Int) < ((m : Nat) : Int))) = false) : LOK cfg none (lb 7 0) ((i6 x) :: (.sl 2 (some (0, 0)) m) :: u_ :: u_ :: u_ :: (i6 ((j : Nat) : Int)) :: us 12) [fb S] (.exit 0) (us 18) [fb S] :=
  (LOK.re (st1' := (us 18)) (LOK.exit (cok_of' hmix (n := 40) (rd := none) (code := (lb 7 0)) (st := ((i6 x) :: (.sl 2 (some (0, 0)) m) :: u_ :: u_ :: u_ :: (i6 ((j : Nat) : Int)) :: us 12)) (H := [fb S]) (os := [.c, .c, .c, .c, .f]) (e := (.exit 0)) (st' := [(i6 x), (.sl 2 (some (0, 0)) m), u_, u_, u_, (i6 ((j : Nat) : Int)), (i6 ((j : Nat) : Int)), (.sl 2 (some (0, 0)) m), (i6 ((m : Nat) : Int)), (.bool (decide ((((j : Nat) : Int) : Int) < ((m : Nat) : Int)))), u_, u_, u_, u_, u_, u_, u_, u_]) (H' := [fb S]) (by kernel_rfl) (And.intro r_ (And.intro h0 (Eq.refl (((.exit 0) : Ex), ([(i6 x), (.sl 2 (some (0, 0)) m), u_, u_, u_, (i6 ((j : Nat) : Int)), (i6 ((j : Nat) : Int)), (.sl 2 (some (0, 0)) m), (i6 ((m : Nat) : Int)), (.bool (decide ((((j : Nat) : Int) : Int) < ((m : Nat) : Int)))), u_, u_, u_, u_, u_, u_, u_, u_] : St), ([fb S] : Heap)))))) rfl) [some (0, 0)] [some (0, 0)] [] [fb S] True.intro (by kernel_rfl) (by kernel_rfl) ⟨⟨0, 0, false, ((S.map encR).flatten), rfl, rfl, VEL.get_ro (VEL.plain (plains_flat _ encR_plains _))⟩, trivial⟩ ⟨.inr (.inl ⟨rfl, by kernel_rfl⟩), trivial⟩ (VEL.ren (by kernel_rfl)) (VEL.drs (by kernel_rfl)))


theorem rp_r (S : List FT) (m : Nat) (x : Int) (hl : LOK cfg none (lb 7 0) ((i6 x) :: (.sl 2 (some (0, 0)) m) :: u_ :: u_ :: u_ :: (i6 0) :: us 12) [fb S] .ret (u_ :: u_ :: u_ :: u_ :: (.bool true) :: us 13) [fb S])  : OK cfg (.fn 7 []) [(i6 x), (.sl 2 (some (0, 0)) m)] [fb S] (.bool true) [fb S] :=
  ok_fn' hmix (n := 40) (os := [.c, .c, .l .ret (u_ :: u_ :: u_ :: u_ :: (.bool true) :: us 13) [fb S]]) (by kernel_rfl) (And.intro r_ (And.intro r_ (And.intro (LOK.at (rd := none) (rd1 := none) (st1 := [(i6 x), (.sl 2 (some (0, 0)) m), t_, t_, (.bool false), (i6 0), t_, t_, t_, t_, t_, t_, t_, t_, t_, t_, t_, t_]) (st1' := (u_ :: u_ :: u_ :: u_ :: (.bool true) :: us 13)) hl [some (0, 0)] [some (0, 0)] [] [fb S] [fb S] True.intro (by kernel_rfl) (by kernel_rfl) ⟨⟨0, 0, false, ((S.map encR).flatten), rfl, rfl, VEL.get_ro (VEL.plain (plains_flat _ encR_plains _))⟩, trivial⟩ ⟨.inr (.inl ⟨rfl, by kernel_rfl⟩), trivial⟩ (.c (VE.ren (by kernel_rfl)) (.c (VE.ren (by kernel_rfl)) (.c .q (.c .q (.c .q (.c (VE.ren (by kernel_rfl)) (VEL.qs (by kernel_rfl)))))))) (VEL.ren (by kernel_rfl))) (Eq.refl (((.bool true) : V), ([fb S] : Heap))))))

theorem rp_r' (S : List FT) (m : Nat) (x : Int) (hl : LOK cfg none (lb 7 0) ((i6 x) :: (.sl 2 (some (0, 0)) m) :: u_ :: u_ :: u_ :: (i6 0) :: us 12) [fb S] .ret (u_ :: u_ :: u_ :: u_ :: (.bool true) :: us 13) [fb S])  : OK cfg (.fn 7 []) [(i6 x), (.sl 2 (some (0, 0)) m)] [fb S] (.bool true) [fb S] :=
  (OK.at (fv1 := (.fn 7 [])) (args1 := [(i6 x), (.sl 2 (some (0, 0)) m)]) (v1 := (.bool true)) (rp_r S m x hl) [some (0, 0)] [some (0, 0)] [] [fb S] [fb S] (by kernel_rfl) (by kernel_rfl) ⟨⟨0, 0, false, ((S.map encR).flatten), rfl, rfl, VEL.get_ro (VEL.plain (plains_flat _ encR_plains _))⟩, trivial⟩ ⟨.inr (.inl ⟨rfl, by kernel_rfl⟩), trivial⟩ (VE.ren (by kernel_rfl)) (VEL.ren (by kernel_rfl)) (VE.ren (by kernel_rfl)))


theorem rp_x (S : List FT) (m : Nat) (x : Int) (hl : LOK cfg none (lb 7 0) ((i6 x) :: (.sl 2 (some (0, 0)) m) :: u_ :: u_ :: u_ :: (i6 0) :: us 12) [fb S] (.exit 0) (us 18) [fb S])  : OK cfg (.fn 7 []) [(i6 x), (.sl 2 (some (0, 0)) m)] [fb S] (.bool false) [fb S] :=
  ok_fn' hmix (n := 40) (os := [.c, .c, .l (.exit 0) (us 18) [fb S], .c]) (by kernel_rfl) (And.intro r_ (And.intro r_ (And.intro (LOK.at (rd := none) (rd1 := none) (st1 := [(i6 x), (.sl 2 (some (0, 0)) m), t_, t_, (.bool false), (i6 0), t_, t_, t_, t_, t_, t_, t_, t_, t_, t_, t_, t_]) (st1' := (us 18)) hl [some (0, 0)] [some (0, 0)] [] [fb S] [fb S] True.intro (by kernel_rfl) (by kernel_rfl) ⟨⟨0, 0, false, ((S.map encR).flatten), rfl, rfl, VEL.get_ro (VEL.plain (plains_flat _ encR_plains _))⟩, trivial⟩ ⟨.inr (.inl ⟨rfl, by kernel_rfl⟩), trivial⟩ (.c (VE.ren (by kernel_rfl)) (.c (VE.ren (by kernel_rfl)) (.c .q (.c .q (.c .q (.c (VE.ren (by kernel_rfl)) (VEL.qs (by kernel_rfl)))))))) (VEL.ren (by kernel_rfl))) (And.intro r_ (Eq.refl (((.bool false) : V), ([fb S] : Heap)))))))

theorem rp_x' (S : List FT) (m : Nat) (x : Int) (hl : LOK cfg none (lb 7 0) ((i6 x) :: (.sl 2 (some (0, 0)) m) :: u_ :: u_ :: u_ :: (i6 0) :: us 12) [fb S] (.exit 0) (us 18) [fb S])  : OK cfg (.fn 7 []) [(i6 x), (.sl 2 (some (0, 0)) m)] [fb S] (.bool false) [fb S] :=
  (OK.at (fv1 := (.fn 7 [])) (args1 := [(i6 x), (.sl 2 (some (0, 0)) m)]) (v1 := (.bool false)) (rp_x S m x hl) [some (0, 0)] [some (0, 0)] [] [fb S] [fb S] (by kernel_rfl) (by kernel_rfl) ⟨⟨0, 0, false, ((S.map encR).flatten), rfl, rfl, VEL.get_ro (VEL.plain (plains_flat _ encR_plains _))⟩, trivial⟩ ⟨.inr (.inl ⟨rfl, by kernel_rfl⟩), trivial⟩ (VE.ren (by kernel_rfl)) (VEL.ren (by kernel_rfl)) (VE.ren (by kernel_rfl)))

theorem rq_all (S : List FT) (m : Nat) (x : Int) (hm : m ≤ S.length) (h9 : m ≤ 1000) : ∀ (d j : Nat), j + d = m → ((∀ j', j ≤ j' → j' < m → oV (gF S j').1 (gF S j').2 x = false) → LOK cfg none (lb 7 0) ((i6 x) :: (.sl 2 (some (0, 0)) m) :: u_ :: u_ :: u_ :: (i6 ((j : Nat) : Int)) :: us 12) [fb S] (.exit 0) (us 18) [fb S]) ∧ ((∃ j', j ≤ j' ∧ j' < m ∧ oV (gF S j').1 (gF S j').2 x = true) → LOK cfg none (lb 7 0) ((i6 x) :: (.sl 2 (some (0, 0)) m) :: u_ :: u_ :: u_ :: (i6 ((j : Nat) : Int)) :: us 12) [fb S] .ret (u_ :: u_ :: u_ :: u_ :: (.bool true) :: us 13) [fb S]) := by
  intro d
  induction d with
  | zero =>
    intro j hj
    exact ⟨fun _ => rq_e S m x j 0 (decide_eq_false (by omega)), fun ⟨j', h1, h2, _⟩ => by omega⟩
  | succ d IH =>
    intro j hj
    obtain ⟨i1, i2⟩ := IH (j + 1) (by omega)
    cases hp : oV (gF S j).1 (gF S j).2 x with
    | true => exact ⟨fun h => absurd (h j (by omega) (by omega)) (by rw [hp]; decide), fun _ => rq_f S m x j 0 (decide_eq_true (by omega)) (by omega) (by omega) hp⟩
    | false =>
      refine ⟨fun h => rq_x S m x j 0 (decide_eq_true (by omega)) (by omega) (by omega) hp ((wrap_i64 (by omega)).trans (by omega)) (i1 fun j' a b => h j' (by omega) b), fun ⟨j', h1, h2, h3⟩ => rq_r S m x j 0 (decide_eq_true (by omega)) (by omega) (by omega) hp ((wrap_i64 (by omega)).trans (by omega)) (i2 ⟨j', ?_, h2, h3⟩)⟩
      by_cases e : j' = j
      · subst e; rw [hp] at h3; cases h3
      · omega
theorem oV_is (c m x : Int) : oV c m x = (isV x && mP c m x) := by
  unfold oV isV
  rw [Bool.eq_iff_iff]
  simp only [Bool.and_eq_true, decide_eq_true_eq]
  constructor
  · rintro ⟨h1, h2, h3⟩; exact ⟨⟨h2, by omega⟩, h1⟩
  · rintro ⟨⟨h1, h2⟩, h3⟩; exact ⟨h3, h1, by omega⟩
theorem rpass_ok (S : List FT) (m : Nat) (x : Int) (hm : m ≤ S.length) (h9 : m ≤ 1000) : OK cfg (.fn 7 []) [.int .i64 x, .sl 2 (some (0, 0)) m] [fb S] (.bool (psV S m x)) [fb S] := by
  obtain ⟨h1, h2⟩ := rq_all S m x hm h9 m 0 (by omega)
  rcases first (fun j => oV (gF S j).1 (gF S j).2 x) m with h | ⟨i, g1, g2, g3⟩
  · have e : psV S m x = false := by
      unfold psV
      cases hi : isV x with
      | false => rfl
      | true =>
        rw [Bool.true_and]
        refine any_f fun j hj => ?_
        have := h j hj
        rw [oV_is, hi, Bool.true_and] at this
        exact this
    rw [e]
    exact rp_x' S m x (h1 fun j' _ b => h j' b) 
  · have e : psV S m x = true := by
      have g4 := g2
      simp only [oV_is, Bool.and_eq_true] at g4
      unfold psV
      rw [g4.1, Bool.true_and]
      exact any_t g1 g4.2
    rw [e]
    exact rp_r' S m x (h2 ⟨i, Nat.zero_le _, g1, g2⟩) 

end Go.Proofs.Ytgpoojjajnlhjaa.filt
