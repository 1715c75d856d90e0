/-
  What filters let pass: printed by ps.py, checked by the kernel.
-/
import Derived.Test.YtgpoojjajnlhjaaFi1b
import Derived.Test.YtgpoojjajnlhjaaProg
set_option linter.unusedVariables false
set_option linter.unusedSimpArgs false
set_option maxRecDepth 100000
namespace Go.Proofs.Ytgpoojjajnlhjaa.filt
open Go Go.Vm Go.Filt
noncomputable def cfg : Cfg := { P := Try.prog, iso := [], masks := fun _ _ => none }
theorem hmix : cfg.P.follows .mixedOrders = true := by kernel_rfl
noncomputable def lb (f k : Nat) : Code := loopAt Try.prog f k

abbrev c1 (cs : List V) : Blk := Blk.cells true cs
abbrev t_ : V := V.tup []
abbrev i6 (n : Int) : V := V.int .i64 n
open Blk (dead) in
abbrev d_ : Blk := dead
theorem r_ : true = true := rfl
abbrev FT := Int × Int
abbrev gF (S : List FT) (i : Nat) : FT := S.getD i (0, 0)
def encR (x : FT) : List V := [.int .i64 x.1, .int .i64 x.2]
abbrev fb (S : List FT) : Blk := .cells  false ((S.map encR).flatten)
theorem encR_len (x) : (encR x).length = 2 := rfl
theorem encR_plains (x) : plains (encR x) = true := rfl
theorem encR_0 {S : List (FT)} {i : Nat} (h : i < S.length) : (((((S.map encR).flatten)[0 + i * 2 + 0]?).bind (asI .i64)).bind fun n => some (V.int .i64 n)) = some (V.int .i64 (gF S i).1) := ld_at_int (by rw [fm_get encR 2 encR_len (0, 0) S i 0 h (by decide)]; rfl)
theorem encR_1 {S : List (FT)} {i : Nat} (h : i < S.length) : (((((S.map encR).flatten)[0 + i * 2 + 1]?).bind (asI .i64)).bind fun n => some (V.int .i64 n)) = some (V.int .i64 (gF S i).2) := ld_at_int (by rw [fm_get encR 2 encR_len (0, 0) S i 1 h (by decide)]; rfl)
theorem encR_agg {S : List (FT)} {i : Nat} (h : i < S.length) : (((((S.map encR).flatten)[0 + i * 2]?).bind (asI .i64)).bind fun n0 => (((((S.map encR).flatten)[0 + i * 2 + 1]?).bind (asI .i64)).bind fun n1 => some (V.agg [V.int .i64 n0, V.int .i64 n1]))) = some (V.agg [V.int .i64 (gF S i).1, V.int .i64 (gF S i).2]) := by
  have e := fun j hj => fm_get encR 2 encR_len (0, 0) S i j h hj
  rw [show (((S.map encR).flatten)[0 + i * 2]?) = _ from e 0 (by decide)]
  rw [show (((S.map encR).flatten)[0 + i * 2 + 1]?) = _ from e 1 (by decide)]
  rfl

theorem btr (n : Int) (k : Nat) (h0 : 0 ≤ (IntKind.wrap .u64 ((k : Nat) : Int))) : OK cfg (.fn 23 []) [(i6 n), (i6 ((k : Nat) : Int))] [] (i6 (bits .and .i64 (Int.fdiv n (2 ^ min (Int.toNat (IntKind.wrap .u64 ((k : Nat) : Int))) (IntKind.bits .i64))) 1)) [] :=
  ok_fn' hmix (n := 40) (os := [.c, .c, .c, .c, .a, .c, .c]) (by kernel_rfl) (And.intro r_ (And.intro h0 (And.intro r_ (Eq.refl (((i6 (bits .and .i64 (Int.fdiv n (2 ^ min (Int.toNat (IntKind.wrap .u64 ((k : Nat) : Int))) (IntKind.bits .i64))) 1)) : V), ([] : Heap))))))

theorem btr' (n : Int) (k : Nat) (h0 : 0 ≤ (IntKind.wrap .u64 ((k : Nat) : Int))) : OK cfg (.fn 23 []) [(i6 n), (i6 ((k : Nat) : Int))] [] (i6 (bits .and .i64 (Int.fdiv n (2 ^ min (Int.toNat (IntKind.wrap .u64 ((k : Nat) : Int))) (IntKind.bits .i64))) 1)) [] :=
  (OK.at (fv1 := (.fn 23 [])) (args1 := [(i6 n), (i6 ((k : Nat) : Int))]) (v1 := (i6 (bits .and .i64 (Int.fdiv n (2 ^ min (Int.toNat (IntKind.wrap .u64 ((k : Nat) : Int))) (IntKind.bits .i64))) 1))) (btr n k h0) [] [] [] [] [] (by kernel_rfl) (by kernel_rfl) trivial trivial (VE.ren (by kernel_rfl)) (VEL.plain (by kernel_rfl)) (VE.ren (by kernel_rfl)))

/-- A bit, as a number. -/
def bV (n : Int) (k : Nat) : Int := if bt n k = true then 1 else 0
theorem bit_ok (n : Int) (k : Nat) (hk : k < 11) (H : Heap) : OK cfg (.fn 23 []) [.int .i64 n, .int .i64 ((k : Nat) : Int)] H (i6 (bV n k)) H := by
  have e : IntKind.wrap .u64 ((k : Nat) : Int) = (k : Int) := by
    simp [IntKind.wrap, IntKind.bits, IntKind.signed]
    omega
  have e2 : min k (IntKind.bits .i64) = k := Nat.min_eq_left (Nat.le_trans (by omega) (show 11 ≤ IntKind.bits .i64 by decide))
  have := btr n k (by rw [e]; omega)
  rw [e, Int.toNat_natCast, e2, bit_ref n k (by omega)] at this
  exact OK.any this H rfl rfl
/-- Does a filter of the document let an identifier pass? -/
def oV (c m x : Int) : Bool := mP c m x && (decide (0 ≤ x) && decide (x < 2048))

noncomputable abbrev o_n_s (c m x : Int) (k : Nat) : St := (u_ :: (i6 x) :: (.ptr (some (0, 0))) :: u_ :: u_ :: (i6 (IntKind.wrap .i64 (((k : Nat) : Int) + 1))) :: [(i6 ((k : Nat) : Int)), (.bool (decide ((((k : Nat) : Int) : Int) < 11))), (i6 ((k : Nat) : Int)), (i6 (IntKind.wrap .i64 (((k : Nat) : Int) + 1))), (.ptr (some (0, 1))), (i6 m), (i6 ((k : Nat) : Int)), (i6 (bV m k)), (.bool (((bV m k) : Int) == 1)), (.bool false), t_, t_, t_, t_, t_, t_, t_, t_, (.bool false), u_, u_, u_, u_, u_, u_])
noncomputable abbrev o_n_h (c m x : Int) (k : Nat) : Heap := [c1 [(i6 c), (i6 m)], d_]
theorem o_n (c m x : Int) (k : Nat) (h0 : (decide ((((k : Nat) : Int) : Int) < 11)) = true) (h1 : k < 11) (h2 : (((bV m k) : Int) == 1) = false) (h3 : ((IntKind.wrap .i64 (((k : Nat) : Int) + 1)) : Int) = (((k + 1) : Nat) : Int)) (ih : LOK cfg none (lb 18 0) (u_ :: (i6 x) :: (.ptr (some (0, 0))) :: u_ :: u_ :: (i6 (((k + 1) : Nat) : Int)) :: us 25) [c1 [(i6 c), (i6 m)]] (.exit 0) (u_ :: (i6 x) :: us 29) [d_]) : LOK cfg none (lb 18 0) (u_ :: (i6 x) :: (.ptr (some (0, 0))) :: u_ :: u_ :: (i6 ((k : Nat) : Int)) :: us 25) [c1 [(i6 c), (i6 m)]] (.exit 0) (u_ :: (i6 x) :: us 29) [d_] :=
  (LOK.re (st1' := (u_ :: (i6 x) :: us 29)) (LOK.step (cok_of' hmix (n := 40) (rd := none) (code := (lb 18 0)) (st := (u_ :: (i6 x) :: (.ptr (some (0, 0))) :: u_ :: u_ :: (i6 ((k : Nat) : Int)) :: us 25)) (H := [c1 [(i6 c), (i6 m)]]) (os := [.c, .c, .t, .c, .c, .c, .r (i6 (bV m k)) (o_n_h c m x k), .c, .c, .f, .c, .c, .c, .c, .c, .c, .c, .c, .c, .c, .c, .c]) (e := .normal) (st' := (o_n_s c m x k)) (H' := (o_n_h c m x k)) (by kernel_rfl) (And.intro r_ (And.intro h0 (And.intro (OK.pad (bit_ok m k h1 [c1 [(i6 c), (i6 m)]])) (And.intro h2 (And.intro r_ (And.intro r_ (Eq.refl (Ex.normal, ((o_n_s c m x k) : St), ((o_n_h c m x k) : Heap)))))))))) (LOK.at (rd := none) (rd1 := none) (st1 := (o_n_s c m x k)) (st1' := (u_ :: (i6 x) :: us 29)) ih [some (0, 0)] [none] [] (o_n_h c m x k) [d_, d_] True.intro (by kernel_rfl) (by kernel_rfl) ⟨⟨0, [(i6 c), (i6 m)], rfl, rfl, (VEL.plain (by kernel_rfl))⟩, trivial⟩ ⟨.inl rfl, ⟨.inl rfl, trivial⟩⟩ (.c .u (.c (VE.ren (by kernel_rfl)) (.c (VE.ren (by kernel_rfl)) (.c .u (.c .u (.c (VE.eqI h3) (VEL.qs (by kernel_rfl)))))))) (VEL.ren (by kernel_rfl)))) [some (0, 0)] [none, none] [] [d_] True.intro (by kernel_rfl) (by kernel_rfl) ⟨⟨0, [(i6 c), (i6 m)], rfl, rfl, (VEL.plain (by kernel_rfl))⟩, trivial⟩ ⟨.inl rfl, trivial⟩ (VEL.ren (by kernel_rfl)) (VEL.ren (by kernel_rfl)))


noncomputable abbrev o_e_s (c m x : Int) (k : Nat) : St := (u_ :: (i6 x) :: (.ptr (some (0, 0))) :: u_ :: u_ :: (i6 (IntKind.wrap .i64 (((k : Nat) : Int) + 1))) :: [(i6 ((k : Nat) : Int)), (.bool (decide ((((k : Nat) : Int) : Int) < 11))), (i6 ((k : Nat) : Int)), (i6 (IntKind.wrap .i64 (((k : Nat) : Int) + 1))), (.ptr (some (0, 1))), (i6 m), (i6 ((k : Nat) : Int)), (i6 (bV m k)), (.bool (((bV m k) : Int) == 1)), (.bool true), (.ptr (some (0, 0))), (i6 c), (i6 ((k : Nat) : Int)), (i6 (bV c k)), (i6 x), (i6 ((k : Nat) : Int)), (i6 (bV x k)), (.bool (((bV c k) : Int) != (bV x k))), (.bool (((bV c k) : Int) != (bV x k))), u_, u_, u_, u_, u_, u_])
noncomputable abbrev o_e_h (c m x : Int) (k : Nat) : Heap := [c1 [(i6 c), (i6 m)], d_, d_, d_]
theorem o_e (c m x : Int) (k : Nat) (h0 : (decide ((((k : Nat) : Int) : Int) < 11)) = true) (h1 : k < 11) (h2 : (((bV m k) : Int) == 1) = true) (h3 : (((bV c k) : Int) != (bV x k)) = false) (h4 : ((IntKind.wrap .i64 (((k : Nat) : Int) + 1)) : Int) = (((k + 1) : Nat) : Int)) (ih : LOK cfg none (lb 18 0) (u_ :: (i6 x) :: (.ptr (some (0, 0))) :: u_ :: u_ :: (i6 (((k + 1) : Nat) : Int)) :: us 25) [c1 [(i6 c), (i6 m)]] (.exit 0) (u_ :: (i6 x) :: us 29) [d_]) : LOK cfg none (lb 18 0) (u_ :: (i6 x) :: (.ptr (some (0, 0))) :: u_ :: u_ :: (i6 ((k : Nat) : Int)) :: us 25) [c1 [(i6 c), (i6 m)]] (.exit 0) (u_ :: (i6 x) :: us 29) [d_] :=
  (LOK.re (st1' := (u_ :: (i6 x) :: us 29)) (LOK.step (cok_of' hmix (n := 40) (rd := none) (code := (lb 18 0)) (st := (u_ :: (i6 x) :: (.ptr (some (0, 0))) :: u_ :: u_ :: (i6 ((k : Nat) : Int)) :: us 25)) (H := [c1 [(i6 c), (i6 m)]]) (os := [.c, .c, .t, .c, .c, .c, .r (i6 (bV m k)) [c1 [(i6 c), (i6 m)], d_], .c, .c, .t, .c, .c, .c, .c, .c, .c, .r (i6 (bV c k)) [c1 [(i6 c), (i6 m)], d_, d_], .c, .c, .c, .c, .c, .r (i6 (bV x k)) (o_e_h c m x k), .c, .c, .c, .f, .c, .c, .c]) (e := .normal) (st' := (o_e_s c m x k)) (H' := (o_e_h c m x k)) (by kernel_rfl) (And.intro r_ (And.intro h0 (And.intro (OK.pad (bit_ok m k h1 [c1 [(i6 c), (i6 m)]])) (And.intro h2 (And.intro (OK.pad (bit_ok c k h1 [c1 [(i6 c), (i6 m)], d_])) (And.intro (OK.pad (bit_ok x k h1 [c1 [(i6 c), (i6 m)], d_, d_])) (And.intro r_ (And.intro h3 (And.intro r_ (Eq.refl (Ex.normal, ((o_e_s c m x k) : St), ((o_e_h c m x k) : Heap))))))))))))) (LOK.at (rd := none) (rd1 := none) (st1 := (o_e_s c m x k)) (st1' := (u_ :: (i6 x) :: us 29)) ih [some (0, 0)] [none] [] (o_e_h c m x k) [d_, d_, d_, d_] True.intro (by kernel_rfl) (by kernel_rfl) ⟨⟨0, [(i6 c), (i6 m)], rfl, rfl, (VEL.plain (by kernel_rfl))⟩, trivial⟩ ⟨.inl rfl, ⟨.inl rfl, ⟨.inl rfl, ⟨.inl rfl, trivial⟩⟩⟩⟩ (.c .u (.c (VE.ren (by kernel_rfl)) (.c (VE.ren (by kernel_rfl)) (.c .u (.c .u (.c (VE.eqI h4) (VEL.qs (by kernel_rfl)))))))) (VEL.ren (by kernel_rfl)))) [some (0, 0)] [none, none, none, none] [] [d_] True.intro (by kernel_rfl) (by kernel_rfl) ⟨⟨0, [(i6 c), (i6 m)], rfl, rfl, (VEL.plain (by kernel_rfl))⟩, trivial⟩ ⟨.inl rfl, trivial⟩ (VEL.ren (by kernel_rfl)) (VEL.ren (by kernel_rfl)))


noncomputable abbrev p_n_s (c m x : Int) (k : Nat) : St := (u_ :: (i6 x) :: (.ptr (some (0, 0))) :: u_ :: u_ :: (i6 (IntKind.wrap .i64 (((k : Nat) : Int) + 1))) :: [(i6 ((k : Nat) : Int)), (.bool (decide ((((k : Nat) : Int) : Int) < 11))), (i6 ((k : Nat) : Int)), (i6 (IntKind.wrap .i64 (((k : Nat) : Int) + 1))), (.ptr (some (0, 1))), (i6 m), (i6 ((k : Nat) : Int)), (i6 (bV m k)), (.bool (((bV m k) : Int) == 1)), (.bool false), t_, t_, t_, t_, t_, t_, t_, t_, (.bool false), u_, u_, u_, u_, u_, u_])
noncomputable abbrev p_n_h (c m x : Int) (k : Nat) : Heap := [c1 [(i6 c), (i6 m)], d_]
theorem p_n (c m x : Int) (k : Nat) (h0 : (decide ((((k : Nat) : Int) : Int) < 11)) = true) (h1 : k < 11) (h2 : (((bV m k) : Int) == 1) = false) (h3 : ((IntKind.wrap .i64 (((k : Nat) : Int) + 1)) : Int) = (((k + 1) : Nat) : Int)) (ih : LOK cfg none (lb 18 0) (u_ :: (i6 x) :: (.ptr (some (0, 0))) :: u_ :: u_ :: (i6 (((k + 1) : Nat) : Int)) :: us 25) [c1 [(i6 c), (i6 m)]] .ret (u_ :: u_ :: u_ :: u_ :: (.bool false) :: us 26) [d_]) : LOK cfg none (lb 18 0) (u_ :: (i6 x) :: (.ptr (some (0, 0))) :: u_ :: u_ :: (i6 ((k : Nat) : Int)) :: us 25) [c1 [(i6 c), (i6 m)]] .ret (u_ :: u_ :: u_ :: u_ :: (.bool false) :: us 26) [d_] :=
  (LOK.re (st1' := (u_ :: u_ :: u_ :: u_ :: (.bool false) :: us 26)) (LOK.step (cok_of' hmix (n := 40) (rd := none) (code := (lb 18 0)) (st := (u_ :: (i6 x) :: (.ptr (some (0, 0))) :: u_ :: u_ :: (i6 ((k : Nat) : Int)) :: us 25)) (H := [c1 [(i6 c), (i6 m)]]) (os := [.c, .c, .t, .c, .c, .c, .r (i6 (bV m k)) (p_n_h c m x k), .c, .c, .f, .c, .c, .c, .c, .c, .c, .c, .c, .c, .c, .c, .c]) (e := .normal) (st' := (p_n_s c m x k)) (H' := (p_n_h c m x k)) (by kernel_rfl) (And.intro r_ (And.intro h0 (And.intro (OK.pad (bit_ok m k h1 [c1 [(i6 c), (i6 m)]])) (And.intro h2 (And.intro r_ (And.intro r_ (Eq.refl (Ex.normal, ((p_n_s c m x k) : St), ((p_n_h c m x k) : Heap)))))))))) (LOK.at (rd := none) (rd1 := none) (st1 := (p_n_s c m x k)) (st1' := (u_ :: u_ :: u_ :: u_ :: (.bool false) :: us 26)) ih [some (0, 0)] [none] [] (p_n_h c m x k) [d_, d_] True.intro (by kernel_rfl) (by kernel_rfl) ⟨⟨0, [(i6 c), (i6 m)], rfl, rfl, (VEL.plain (by kernel_rfl))⟩, trivial⟩ ⟨.inl rfl, ⟨.inl rfl, trivial⟩⟩ (.c .u (.c (VE.ren (by kernel_rfl)) (.c (VE.ren (by kernel_rfl)) (.c .u (.c .u (.c (VE.eqI h3) (VEL.qs (by kernel_rfl)))))))) (VEL.ren (by kernel_rfl)))) [some (0, 0)] [none, none] [] [d_] True.intro (by kernel_rfl) (by kernel_rfl) ⟨⟨0, [(i6 c), (i6 m)], rfl, rfl, (VEL.plain (by kernel_rfl))⟩, trivial⟩ ⟨.inl rfl, trivial⟩ (VEL.ren (by kernel_rfl)) (VEL.ren (by kernel_rfl)))


noncomputable abbrev p_e_s (c m x : Int) (k : Nat) : St := (u_ :: (i6 x) :: (.ptr (some (0, 0))) :: u_ :: u_ :: (i6 (IntKind.wrap .i64 (((k : Nat) : Int) + 1))) :: [(i6 ((k : Nat) : Int)), (.bool (decide ((((k : Nat) : Int) : Int) < 11))), (i6 ((k : Nat) : Int)), (i6 (IntKind.wrap .i64 (((k : Nat) : Int) + 1))), (.ptr (some (0, 1))), (i6 m), (i6 ((k : Nat) : Int)), (i6 (bV m k)), (.bool (((bV m k) : Int) == 1)), (.bool true), (.ptr (some (0, 0))), (i6 c), (i6 ((k : Nat) : Int)), (i6 (bV c k)), (i6 x), (i6 ((k : Nat) : Int)), (i6 (bV x k)), (.bool (((bV c k) : Int) != (bV x k))), (.bool (((bV c k) : Int) != (bV x k))), u_, u_, u_, u_, u_, u_])
noncomputable abbrev p_e_h (c m x : Int) (k : Nat) : Heap := [c1 [(i6 c), (i6 m)], d_, d_, d_]
theorem p_e (c m x : Int) (k : Nat) (h0 : (decide ((((k : Nat) : Int) : Int) < 11)) = true) (h1 : k < 11) (h2 : (((bV m k) : Int) == 1) = true) (h3 : (((bV c k) : Int) != (bV x k)) = false) (h4 : ((IntKind.wrap .i64 (((k : Nat) : Int) + 1)) : Int) = (((k + 1) : Nat) : Int)) (ih : LOK cfg none (lb 18 0) (u_ :: (i6 x) :: (.ptr (some (0, 0))) :: u_ :: u_ :: (i6 (((k + 1) : Nat) : Int)) :: us 25) [c1 [(i6 c), (i6 m)]] .ret (u_ :: u_ :: u_ :: u_ :: (.bool false) :: us 26) [d_]) : LOK cfg none (lb 18 0) (u_ :: (i6 x) :: (.ptr (some (0, 0))) :: u_ :: u_ :: (i6 ((k : Nat) : Int)) :: us 25) [c1 [(i6 c), (i6 m)]] .ret (u_ :: u_ :: u_ :: u_ :: (.bool false) :: us 26) [d_] :=
  (LOK.re (st1' := (u_ :: u_ :: u_ :: u_ :: (.bool false) :: us 26)) (LOK.step (cok_of' hmix (n := 40) (rd := none) (code := (lb 18 0)) (st := (u_ :: (i6 x) :: (.ptr (some (0, 0))) :: u_ :: u_ :: (i6 ((k : Nat) : Int)) :: us 25)) (H := [c1 [(i6 c), (i6 m)]]) (os := [.c, .c, .t, .c, .c, .c, .r (i6 (bV m k)) [c1 [(i6 c), (i6 m)], d_], .c, .c, .t, .c, .c, .c, .c, .c, .c, .r (i6 (bV c k)) [c1 [(i6 c), (i6 m)], d_, d_], .c, .c, .c, .c, .c, .r (i6 (bV x k)) (p_e_h c m x k), .c, .c, .c, .f, .c, .c, .c]) (e := .normal) (st' := (p_e_s c m x k)) (H' := (p_e_h c m x k)) (by kernel_rfl) (And.intro r_ (And.intro h0 (And.intro (OK.pad (bit_ok m k h1 [c1 [(i6 c), (i6 m)]])) (And.intro h2 (And.intro (OK.pad (bit_ok c k h1 [c1 [(i6 c), (i6 m)], d_])) (And.intro (OK.pad (bit_ok x k h1 [c1 [(i6 c), (i6 m)], d_, d_])) (And.intro r_ (And.intro h3 (And.intro r_ (Eq.refl (Ex.normal, ((p_e_s c m x k) : St), ((p_e_h c m x k) : Heap))))))))))))) (LOK.at (rd := none) (rd1 := none) (st1 := (p_e_s c m x k)) (st1' := (u_ :: u_ :: u_ :: u_ :: (.bool false) :: us 26)) ih [some (0, 0)] [none] [] (p_e_h c m x k) [d_, d_, d_, d_] True.intro (by kernel_rfl) (by kernel_rfl) ⟨⟨0, [(i6 c), (i6 m)], rfl, rfl, (VEL.plain (by kernel_rfl))⟩, trivial⟩ ⟨.inl rfl, ⟨.inl rfl, ⟨.inl rfl, ⟨.inl rfl, trivial⟩⟩⟩⟩ (.c .u (.c (VE.ren (by kernel_rfl)) (.c (VE.ren (by kernel_rfl)) (.c .u (.c .u (.c (VE.eqI h4) (VEL.qs (by kernel_rfl)))))))) (VEL.ren (by kernel_rfl)))) [some (0, 0)] [none, none, none, none] [] [d_] True.intro (by kernel_rfl) (by kernel_rfl) ⟨⟨0, [(i6 c), (i6 m)], rfl, rfl, (VEL.plain (by kernel_rfl))⟩, trivial⟩ ⟨.inl rfl, trivial⟩ (VEL.ren (by kernel_rfl)) (VEL.ren (by kernel_rfl)))


theorem o_x (c m x : Int) (k : Nat) (h0 : (decide ((((k : Nat) : Int) : Int) < 11)) = false) : LOK cfg none (lb 18 0) (u_ :: (i6 x) :: (.ptr (some (0, 0))) :: u_ :: u_ :: (i6 ((k : Nat) : Int)) :: us 25) [c1 [(i6 c), (i6 m)]] (.exit 0) (u_ :: (i6 x) :: us 29) [d_] :=
  (LOK.re (st1' := (u_ :: (i6 x) :: us 29)) (LOK.exit (cok_of' hmix (n := 40) (rd := none) (code := (lb 18 0)) (st := (u_ :: (i6 x) :: (.ptr (some (0, 0))) :: u_ :: u_ :: (i6 ((k : Nat) : Int)) :: us 25)) (H := [c1 [(i6 c), (i6 m)]]) (os := [.c, .c, .f]) (e := (.exit 0)) (st' := (u_ :: (i6 x) :: (.ptr (some (0, 0))) :: u_ :: u_ :: (i6 ((k : Nat) : Int)) :: (i6 ((k : Nat) : Int)) :: (.bool (decide ((((k : Nat) : Int) : Int) < 11))) :: us 23)) (H' := [c1 [(i6 c), (i6 m)]]) (by kernel_rfl) (And.intro r_ (And.intro h0 (Eq.refl (((.exit 0) : Ex), ((u_ :: (i6 x) :: (.ptr (some (0, 0))) :: u_ :: u_ :: (i6 ((k : Nat) : Int)) :: (i6 ((k : Nat) : Int)) :: (.bool (decide ((((k : Nat) : Int) : Int) < 11))) :: us 23) : St), ([c1 [(i6 c), (i6 m)]] : Heap)))))) rfl) [some (0, 0)] [none] [] [d_] True.intro (by kernel_rfl) (by kernel_rfl) ⟨⟨0, [(i6 c), (i6 m)], rfl, rfl, (VEL.plain (by kernel_rfl))⟩, trivial⟩ ⟨.inl rfl, trivial⟩ (VEL.ren (by kernel_rfl)) (.c .u (.c (VE.ren (by kernel_rfl)) (.c .dr (.c .u (.c .u (.c .dr (.c .dr (.c .dr (VEL.us' 23))))))))))


theorem p_x (c m x : Int) (k : Nat) (h0 : (decide ((((k : Nat) : Int) : Int) < 11)) = true) (h1 : k < 11) (h2 : (((bV m k) : Int) == 1) = true) (h3 : (((bV c k) : Int) != (bV x k)) = true) : LOK cfg none (lb 18 0) (u_ :: (i6 x) :: (.ptr (some (0, 0))) :: u_ :: u_ :: (i6 ((k : Nat) : Int)) :: us 25) [c1 [(i6 c), (i6 m)]] .ret (u_ :: u_ :: u_ :: u_ :: (.bool false) :: us 26) [d_] :=
  (LOK.re (st1' := (u_ :: u_ :: u_ :: u_ :: (.bool false) :: us 26)) (LOK.exit (cok_of' hmix (n := 40) (rd := none) (code := (lb 18 0)) (st := (u_ :: (i6 x) :: (.ptr (some (0, 0))) :: u_ :: u_ :: (i6 ((k : Nat) : Int)) :: us 25)) (H := [c1 [(i6 c), (i6 m)]]) (os := [.c, .c, .t, .c, .c, .c, .r (i6 (bV m k)) [c1 [(i6 c), (i6 m)], d_], .c, .c, .t, .c, .c, .c, .c, .c, .c, .r (i6 (bV c k)) [c1 [(i6 c), (i6 m)], d_, d_], .c, .c, .c, .c, .c, .r (i6 (bV x k)) [c1 [(i6 c), (i6 m)], d_, d_, d_], .c, .c, .c, .t, .c]) (e := .ret) (st' := (u_ :: (i6 x) :: (.ptr (some (0, 0))) :: u_ :: (.bool false) :: (i6 ((k : Nat) : Int)) :: [(i6 ((k : Nat) : Int)), (.bool (decide ((((k : Nat) : Int) : Int) < 11))), u_, u_, (.ptr (some (0, 1))), (i6 m), (i6 ((k : Nat) : Int)), (i6 (bV m k)), (.bool (((bV m k) : Int) == 1)), (.bool true), (.ptr (some (0, 0))), (i6 c), (i6 ((k : Nat) : Int)), (i6 (bV c k)), (i6 x), (i6 ((k : Nat) : Int)), (i6 (bV x k)), (.bool (((bV c k) : Int) != (bV x k))), (.bool (((bV c k) : Int) != (bV x k))), u_, u_, u_, u_, u_, u_])) (H' := [c1 [(i6 c), (i6 m)], d_, d_, d_]) (by kernel_rfl) (And.intro r_ (And.intro h0 (And.intro (OK.pad (bit_ok m k h1 [c1 [(i6 c), (i6 m)]])) (And.intro h2 (And.intro (OK.pad (bit_ok c k h1 [c1 [(i6 c), (i6 m)], d_])) (And.intro (OK.pad (bit_ok x k h1 [c1 [(i6 c), (i6 m)], d_, d_])) (And.intro r_ (And.intro h3 (And.intro r_ (Eq.refl ((.ret : Ex), ((u_ :: (i6 x) :: (.ptr (some (0, 0))) :: u_ :: (.bool false) :: (i6 ((k : Nat) : Int)) :: [(i6 ((k : Nat) : Int)), (.bool (decide ((((k : Nat) : Int) : Int) < 11))), u_, u_, (.ptr (some (0, 1))), (i6 m), (i6 ((k : Nat) : Int)), (i6 (bV m k)), (.bool (((bV m k) : Int) == 1)), (.bool true), (.ptr (some (0, 0))), (i6 c), (i6 ((k : Nat) : Int)), (i6 (bV c k)), (i6 x), (i6 ((k : Nat) : Int)), (i6 (bV x k)), (.bool (((bV c k) : Int) != (bV x k))), (.bool (((bV c k) : Int) != (bV x k))), u_, u_, u_, u_, u_, u_]) : St), ([c1 [(i6 c), (i6 m)], d_, d_, d_] : Heap))))))))))))) rfl) [some (0, 0)] [none, none, none, none] [] [d_] True.intro (by kernel_rfl) (by kernel_rfl) ⟨⟨0, [(i6 c), (i6 m)], rfl, rfl, (VEL.plain (by kernel_rfl))⟩, trivial⟩ ⟨.inl rfl, trivial⟩ (VEL.ren (by kernel_rfl)) (.c .u (.c .dr (.c .dr (.c .u (.c (VE.ren (by kernel_rfl)) (VEL.drs (by kernel_rfl))))))))


theorem one_r (c m x : Int) (hl : LOK cfg none (lb 18 0) (u_ :: (i6 x) :: (.ptr (some (0, 0))) :: u_ :: u_ :: (i6 0) :: us 25) [c1 [(i6 c), (i6 m)]] .ret (u_ :: u_ :: u_ :: u_ :: (.bool false) :: us 26) [d_])  : OK cfg (.fn 18 []) [(.agg [(i6 c), (i6 m)]), (i6 x)] [] (.bool false) [d_] :=
  ok_fn' hmix (n := 40) (os := [.c, .c, .c, .l .ret (u_ :: u_ :: u_ :: u_ :: (.bool false) :: us 26) [d_]]) (by kernel_rfl) (And.intro r_ (And.intro r_ (And.intro (LOK.at (rd := none) (rd1 := none) (st1 := ((.agg [(i6 c), (i6 m)]) :: (i6 x) :: (.ptr (some (0, 0))) :: t_ :: (.bool false) :: (i6 0) :: [t_, t_, t_, t_, t_, t_, t_, t_, t_, t_, t_, t_, t_, t_, t_, t_, t_, t_, t_, t_, t_, t_, t_, t_, t_])) (st1' := (u_ :: u_ :: u_ :: u_ :: (.bool false) :: us 26)) hl [some (0, 0)] [none] [] [c1 [(i6 c), (i6 m)]] [d_] True.intro (by kernel_rfl) (by kernel_rfl) ⟨⟨0, [(i6 c), (i6 m)], rfl, rfl, (VEL.plain (by kernel_rfl))⟩, trivial⟩ ⟨.inl rfl, trivial⟩ (.c .q (.c (VE.ren (by kernel_rfl)) (.c (VE.ren (by kernel_rfl)) (.c .q (.c .q (.c (VE.ren (by kernel_rfl)) (VEL.qs (by kernel_rfl)))))))) (VEL.ren (by kernel_rfl))) (Eq.refl (((.bool false) : V), ([d_] : Heap))))))

theorem one_r' (c m x : Int) (hl : LOK cfg none (lb 18 0) (u_ :: (i6 x) :: (.ptr (some (0, 0))) :: u_ :: u_ :: (i6 0) :: us 25) [c1 [(i6 c), (i6 m)]] .ret (u_ :: u_ :: u_ :: u_ :: (.bool false) :: us 26) [d_])  : OK cfg (.fn 18 []) [(.agg [(i6 c), (i6 m)]), (i6 x)] [] (.bool false) [] :=
  (OK.at (fv1 := (.fn 18 [])) (args1 := [(.agg [(i6 c), (i6 m)]), (i6 x)]) (v1 := (.bool false)) (one_r c m x hl) [] [none] [] [] [] (by kernel_rfl) (by kernel_rfl) trivial trivial (VE.ren (by kernel_rfl)) (VEL.ren (by kernel_rfl)) (VE.ren (by kernel_rfl)))


theorem one_n (c m x : Int) (hl : LOK cfg none (lb 18 0) (u_ :: (i6 x) :: (.ptr (some (0, 0))) :: u_ :: u_ :: (i6 0) :: us 25) [c1 [(i6 c), (i6 m)]] (.exit 0) (u_ :: (i6 x) :: us 29) [d_]) (h0 : (decide ((x : Int) ≥ 0)) = false) : OK cfg (.fn 18 []) [(.agg [(i6 c), (i6 m)]), (i6 x)] [] (.bool false) [d_] :=
  ok_fn' hmix (n := 40) (os := [.c, .c, .c, .l (.exit 0) (u_ :: (i6 x) :: us 29) [d_], .c, .c, .c, .f, .c, .c, .c]) (by kernel_rfl) (And.intro r_ (And.intro r_ (And.intro (LOK.at (rd := none) (rd1 := none) (st1 := ((.agg [(i6 c), (i6 m)]) :: (i6 x) :: (.ptr (some (0, 0))) :: t_ :: (.bool false) :: (i6 0) :: [t_, t_, t_, t_, t_, t_, t_, t_, t_, t_, t_, t_, t_, t_, t_, t_, t_, t_, t_, t_, t_, t_, t_, t_, t_])) (st1' := (u_ :: (i6 x) :: us 29)) hl [some (0, 0)] [none] [] [c1 [(i6 c), (i6 m)]] [d_] True.intro (by kernel_rfl) (by kernel_rfl) ⟨⟨0, [(i6 c), (i6 m)], rfl, rfl, (VEL.plain (by kernel_rfl))⟩, trivial⟩ ⟨.inl rfl, trivial⟩ (.c .q (.c (VE.ren (by kernel_rfl)) (.c (VE.ren (by kernel_rfl)) (.c .q (.c .q (.c (VE.ren (by kernel_rfl)) (VEL.qs (by kernel_rfl)))))))) (VEL.ren (by kernel_rfl))) (And.intro h0 (And.intro r_ (Eq.refl (((.bool false) : V), ([d_] : Heap))))))))

theorem one_n' (c m x : Int) (hl : LOK cfg none (lb 18 0) (u_ :: (i6 x) :: (.ptr (some (0, 0))) :: u_ :: u_ :: (i6 0) :: us 25) [c1 [(i6 c), (i6 m)]] (.exit 0) (u_ :: (i6 x) :: us 29) [d_]) (h0 : (decide ((x : Int) ≥ 0)) = false) : OK cfg (.fn 18 []) [(.agg [(i6 c), (i6 m)]), (i6 x)] [] (.bool false) [] :=
  (OK.at (fv1 := (.fn 18 [])) (args1 := [(.agg [(i6 c), (i6 m)]), (i6 x)]) (v1 := (.bool false)) (one_n c m x hl h0) [] [none] [] [] [] (by kernel_rfl) (by kernel_rfl) trivial trivial (VE.ren (by kernel_rfl)) (VEL.ren (by kernel_rfl)) (VE.ren (by kernel_rfl)))


theorem one_y (c m x : Int) (hl : LOK cfg none (lb 18 0) (u_ :: (i6 x) :: (.ptr (some (0, 0))) :: u_ :: u_ :: (i6 0) :: us 25) [c1 [(i6 c), (i6 m)]] (.exit 0) (u_ :: (i6 x) :: us 29) [d_]) (h0 : (decide ((x : Int) ≥ 0)) = true) : OK cfg (.fn 18 []) [(.agg [(i6 c), (i6 m)]), (i6 x)] [] (.bool (decide ((x : Int) < 2048))) [d_] :=
  ok_fn' hmix (n := 40) (os := [.c, .c, .c, .l (.exit 0) (u_ :: (i6 x) :: us 29) [d_], .c, .c, .c, .t, .c, .c, .c, .c, .c]) (by kernel_rfl) (And.intro r_ (And.intro r_ (And.intro (LOK.at (rd := none) (rd1 := none) (st1 := ((.agg [(i6 c), (i6 m)]) :: (i6 x) :: (.ptr (some (0, 0))) :: t_ :: (.bool false) :: (i6 0) :: [t_, t_, t_, t_, t_, t_, t_, t_, t_, t_, t_, t_, t_, t_, t_, t_, t_, t_, t_, t_, t_, t_, t_, t_, t_])) (st1' := (u_ :: (i6 x) :: us 29)) hl [some (0, 0)] [none] [] [c1 [(i6 c), (i6 m)]] [d_] True.intro (by kernel_rfl) (by kernel_rfl) ⟨⟨0, [(i6 c), (i6 m)], rfl, rfl, (VEL.plain (by kernel_rfl))⟩, trivial⟩ ⟨.inl rfl, trivial⟩ (.c .q (.c (VE.ren (by kernel_rfl)) (.c (VE.ren (by kernel_rfl)) (.c .q (.c .q (.c (VE.ren (by kernel_rfl)) (VEL.qs (by kernel_rfl)))))))) (VEL.ren (by kernel_rfl))) (And.intro h0 (And.intro r_ (Eq.refl (((.bool (decide ((x : Int) < 2048))) : V), ([d_] : Heap))))))))

theorem one_y' (c m x : Int) (hl : LOK cfg none (lb 18 0) (u_ :: (i6 x) :: (.ptr (some (0, 0))) :: u_ :: u_ :: (i6 0) :: us 25) [c1 [(i6 c), (i6 m)]] (.exit 0) (u_ :: (i6 x) :: us 29) [d_]) (h0 : (decide ((x : Int) ≥ 0)) = true) : OK cfg (.fn 18 []) [(.agg [(i6 c), (i6 m)]), (i6 x)] [] (.bool (decide ((x : Int) < 2048))) [] :=
  (OK.at (fv1 := (.fn 18 [])) (args1 := [(.agg [(i6 c), (i6 m)]), (i6 x)]) (v1 := (.bool (decide ((x : Int) < 2048)))) (one_y c m x hl h0) [] [none] [] [] [] (by kernel_rfl) (by kernel_rfl) trivial trivial (VE.ren (by kernel_rfl)) (VEL.ren (by kernel_rfl)) (VE.ren (by kernel_rfl)))

theorem bV_eq (a b : Int) (k : Nat) : (bV a k != bV b k) = !(bt a k == bt b k) := by
  unfold bV
  cases bt a k <;> cases bt b k <;> rfl
theorem one_all (c m x : Int) : ∀ (d k : Nat), k + d = 11 → ((∀ j, k ≤ j → j < 11 → (!(bt m j) || (bt c j == bt x j)) = true) → LOK cfg none (lb 18 0) (u_ :: (i6 x) :: (.ptr (some (0, 0))) :: u_ :: u_ :: (i6 ((k : Nat) : Int)) :: us 25) [c1 [(i6 c), (i6 m)]] (.exit 0) (u_ :: (i6 x) :: us 29) [d_]) ∧ ((∃ j, k ≤ j ∧ j < 11 ∧ (!(bt m j) || (bt c j == bt x j)) = false) → LOK cfg none (lb 18 0) (u_ :: (i6 x) :: (.ptr (some (0, 0))) :: u_ :: u_ :: (i6 ((k : Nat) : Int)) :: us 25) [c1 [(i6 c), (i6 m)]] .ret (u_ :: u_ :: u_ :: u_ :: (.bool false) :: us 26) [d_]) := by
  intro d
  induction d with
  | zero =>
    intro k hk
    have : k = 11 := by omega
    subst this
    exact ⟨fun _ => o_x c m x 11 (decide_eq_false (by omega)), fun ⟨j, h1, h2, _⟩ => by omega⟩
  | succ d IH =>
    intro k hk
    obtain ⟨i1, i2⟩ := IH (k + 1) (by omega)
    cases hb : bt m k with
    | false =>
      have hm : bV m k = 0 := by unfold bV; rw [hb]; rfl
      refine ⟨fun h => o_n c m x k (decide_eq_true (by omega)) (by omega) (by rw [hm]; rfl) ((wrap_i64 (by omega)).trans (by omega)) (i1 fun j h1 h2 => h j (by omega) h2), fun ⟨j, h1, h2, h3⟩ => p_n c m x k (decide_eq_true (by omega)) (by omega) (by rw [hm]; rfl) ((wrap_i64 (by omega)).trans (by omega)) (i2 ⟨j, ?_, h2, h3⟩)⟩
      by_cases e : j = k
      · subst e; rw [hb] at h3; cases h3
      · omega
    | true =>
      have hm : bV m k = 1 := by unfold bV; rw [hb]; rfl
      cases hq : (bt c k == bt x k) with
      | true =>
        have he : (bV c k != bV x k) = false := by rw [bV_eq, hq]; rfl
        refine ⟨fun h => o_e c m x k (decide_eq_true (by omega)) (by omega) (by rw [hm]; rfl) he ((wrap_i64 (by omega)).trans (by omega)) (i1 fun j h1 h2 => h j (by omega) h2), fun ⟨j, h1, h2, h3⟩ => p_e c m x k (decide_eq_true (by omega)) (by omega) (by rw [hm]; rfl) he ((wrap_i64 (by omega)).trans (by omega)) (i2 ⟨j, ?_, h2, h3⟩)⟩
        by_cases e : j = k
        · subst e; rw [hb, hq] at h3; cases h3
        · omega
      | false =>
        have he : (bV c k != bV x k) = true := by rw [bV_eq, hq]; rfl
        refine ⟨fun h => ?_, fun _ => p_x c m x k (decide_eq_true (by omega)) (by omega) (by rw [hm]; rfl) he⟩
        have := h k (by omega) (by omega)
        rw [hb, hq] at this
        cases this
theorem one_ok (c m x : Int) (H : Heap) : OK cfg (.fn 18 []) [.agg [.int .i64 c, .int .i64 m], .int .i64 x] H (.bool (oV c m x)) H := by
  obtain ⟨h1, h2⟩ := one_all c m x 11 0 (by omega)
  cases hm : mP c m x with
  | true =>
    have l := h1 fun j _ hj => by
      unfold mP at hm
      rw [List.all_eq_true] at hm
      exact hm j (List.mem_range.2 hj)
    by_cases hx : 0 ≤ x
    · exact OK.any (OK.eqv (one_y' c m x l (decide_eq_true (by omega))) (by unfold oV; rw [hm, decide_eq_true hx]; rfl)) H rfl rfl
    · exact OK.any (OK.eqv (one_n' c m x l (decide_eq_false (by omega))) (by unfold oV; rw [hm, decide_eq_false hx]; rfl)) H rfl rfl
  | false =>
    have l := h2 (by
      unfold mP at hm
      rw [List.all_eq_false] at hm
      obtain ⟨j, h3, h4⟩ := hm
      exact ⟨j, Nat.zero_le _, List.mem_range.1 h3, by simpa using h4⟩)
    exact OK.any (OK.eqv (one_r' c m x l ) (by unfold oV; rw [hm]; rfl)) H rfl rfl


theorem psr (c m x : Int)  : OK cfg (.fn 17 []) [(.agg [(i6 c), (i6 m)]), (i6 x)] [] (.bool (((bits .and .i64 (bits .and .i64 (bits .xor .i64 x c) m) 2047) : Int) == 0)) [c1 [(i6 c), (i6 m)]] :=
  ok_fn' hmix (n := 40) (os := [.c, .c, .c, .c, .c, .c, .c, .c, .c, .c, .c, .c]) (by kernel_rfl) (And.intro r_ (And.intro r_ (Eq.refl (((.bool (((bits .and .i64 (bits .and .i64 (bits .xor .i64 x c) m) 2047) : Int) == 0)) : V), ([c1 [(i6 c), (i6 m)]] : Heap)))))

theorem psr' (c m x : Int)  : OK cfg (.fn 17 []) [(.agg [(i6 c), (i6 m)]), (i6 x)] [] (.bool (((bits .and .i64 (bits .and .i64 (bits .xor .i64 x c) m) 2047) : Int) == 0)) [] :=
  (OK.at (fv1 := (.fn 17 [])) (args1 := [(.agg [(i6 c), (i6 m)]), (i6 x)]) (v1 := (.bool (((bits .and .i64 (bits .and .i64 (bits .xor .i64 x c) m) 2047) : Int) == 0))) (psr c m x) [] [none] [] [] [] (by kernel_rfl) (by kernel_rfl) trivial trivial (VE.ren (by kernel_rfl)) (VEL.ren (by kernel_rfl)) (VE.ren (by kernel_rfl)))

theorem passes_ok (c m x : Int) (H : Heap) : OK cfg (.fn 17 []) [.agg [.int .i64 c, .int .i64 m], .int .i64 x] H (.bool (mP c m x)) H := by
  have e : ((bits .and .i64 (bits .and .i64 (bits .xor .i64 x c) m) 2047) == 0) = mP c m x := by
    rw [Bool.eq_iff_iff, beq_iff_eq]
    exact pass_bits c m x
  exact OK.any (OK.eqv (psr' c m x) (by rw [← e])) H rfl rfl


theorem clo (c m x : Int)  : OK cfg (.fn 16 [(.ptr (some (0, 0)))]) [(.agg [(i6 c), (i6 m)])] [c1 [(i6 x)]] (.bool (mP c m x)) [c1 [(i6 x)], c1 [(i6 c), (i6 m)], d_] :=
  ok_fn' hmix (n := 40) (os := [.c, .c, .c, .c, .r (.bool (mP c m x)) [c1 [(i6 x)], c1 [(i6 c), (i6 m)], d_], .c]) (by kernel_rfl) (And.intro r_ (And.intro (OK.pad (passes_ok c m x [c1 [(i6 x)], c1 [(i6 c), (i6 m)]])) (And.intro r_ (Eq.refl (((.bool (mP c m x)) : V), ([c1 [(i6 x)], c1 [(i6 c), (i6 m)], d_] : Heap))))))

end Go.Proofs.Ytgpoojjajnlhjaa.filt
