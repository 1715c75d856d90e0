/-
  Who sends what in which round: ways printed by ps.py, checked by the kernel.
-/
import Derived.Test.YtklnecknoadhjaaBFrame3
import Derived.Laws.BitsLemmas
set_option linter.unusedVariables false
set_option linter.unusedSimpArgs false
set_option maxRecDepth 100000
namespace Go.Proofs.Ytklnecknoadhjaa.arb
open Go Go.Vm

/-- The rank of a frame that may be. -/
def rkV (i : Int) (r : Bool) : Int := if r = true then 2 * i + 1 else 2 * i

theorem rk_r (i : Int) (r : Bool) (n d0 d1 d2 d3 d4 d5 d6 d7 : Int) (h0 : (((chk i true n d0 d1 d2 d3 d4 d5 d6 d7) : Int) != 0) = false) : OK cfg (.fn 45 []) [(.agg [(.int .i64 i), (.bool true), (.int .i64 n), (.int .u8 d0), (.int .u8 d1), (.int .u8 d2), (.int .u8 d3), (.int .u8 d4), (.int .u8 d5), (.int .u8 d6), (.int .u8 d7)])] [] (.int .i64 (IntKind.wrap .i64 ((IntKind.wrap .i64 (2 * i)) + 1))) [.cells true [(.int .i64 i), (.bool true), (.int .i64 n), (.int .u8 d0), (.int .u8 d1), (.int .u8 d2), (.int .u8 d3), (.int .u8 d4), (.int .u8 d5), (.int .u8 d6), (.int .u8 d7)], .dead] :=
  ok_fn' hmix (n := 40) (os := [.c, .c, .c, .r (.int .i64 (chk i true n d0 d1 d2 d3 d4 d5 d6 d7)) [.cells true [(.int .i64 i), (.bool true), (.int .i64 n), (.int .u8 d0), (.int .u8 d1), (.int .u8 d2), (.int .u8 d3), (.int .u8 d4), (.int .u8 d5), (.int .u8 d6), (.int .u8 d7)], .dead], .c, .c, .f, .c, .c, .c, .c, .c, .c, .c, .c, .c]) (by kernel_rfl) (And.intro (Eq.refl true) (And.intro (OK.pad (check_ok i true n d0 d1 d2 d3 d4 d5 d6 d7 [.cells true [(.int .i64 i), (.bool true), (.int .i64 n), (.int .u8 d0), (.int .u8 d1), (.int .u8 d2), (.int .u8 d3), (.int .u8 d4), (.int .u8 d5), (.int .u8 d6), (.int .u8 d7)]])) (And.intro (Eq.refl true) (And.intro h0 (And.intro (Eq.refl true) (And.intro (Eq.refl true) (Eq.refl (((.int .i64 (IntKind.wrap .i64 ((IntKind.wrap .i64 (2 * i)) + 1))) : V), ([.cells true [(.int .i64 i), (.bool true), (.int .i64 n), (.int .u8 d0), (.int .u8 d1), (.int .u8 d2), (.int .u8 d3), (.int .u8 d4), (.int .u8 d5), (.int .u8 d6), (.int .u8 d7)], .dead] : Heap)))))))))

theorem rk_r' (i : Int) (r : Bool) (n d0 d1 d2 d3 d4 d5 d6 d7 : Int) (h0 : (((chk i true n d0 d1 d2 d3 d4 d5 d6 d7) : Int) != 0) = false) : OK cfg (.fn 45 []) [(.agg [(.int .i64 i), (.bool true), (.int .i64 n), (.int .u8 d0), (.int .u8 d1), (.int .u8 d2), (.int .u8 d3), (.int .u8 d4), (.int .u8 d5), (.int .u8 d6), (.int .u8 d7)])] [] (.int .i64 (IntKind.wrap .i64 ((IntKind.wrap .i64 (2 * i)) + 1))) [] :=
  (OK.at (fv1 := (.fn 45 [])) (args1 := [(.agg [(.int .i64 i), (.bool true), (.int .i64 n), (.int .u8 d0), (.int .u8 d1), (.int .u8 d2), (.int .u8 d3), (.int .u8 d4), (.int .u8 d5), (.int .u8 d6), (.int .u8 d7)])]) (v1 := (.int .i64 (IntKind.wrap .i64 ((IntKind.wrap .i64 (2 * i)) + 1)))) (rk_r i r n d0 d1 d2 d3 d4 d5 d6 d7 h0) [] [none, none] [] [] [] (by kernel_rfl) (by kernel_rfl) trivial trivial (VE.ren (by kernel_rfl)) (VEL.ren (by kernel_rfl)) (VE.ren (by kernel_rfl)))


theorem rk_p (i : Int) (r : Bool) (n d0 d1 d2 d3 d4 d5 d6 d7 : Int) (h0 : (((chk i false n d0 d1 d2 d3 d4 d5 d6 d7) : Int) != 0) = false) : OK cfg (.fn 45 []) [(.agg [(.int .i64 i), (.bool false), (.int .i64 n), (.int .u8 d0), (.int .u8 d1), (.int .u8 d2), (.int .u8 d3), (.int .u8 d4), (.int .u8 d5), (.int .u8 d6), (.int .u8 d7)])] [] (.int .i64 (IntKind.wrap .i64 (2 * i))) [.cells true [(.int .i64 i), (.bool false), (.int .i64 n), (.int .u8 d0), (.int .u8 d1), (.int .u8 d2), (.int .u8 d3), (.int .u8 d4), (.int .u8 d5), (.int .u8 d6), (.int .u8 d7)], .dead] :=
  ok_fn' hmix (n := 40) (os := [.c, .c, .c, .r (.int .i64 (chk i false n d0 d1 d2 d3 d4 d5 d6 d7)) [.cells true [(.int .i64 i), (.bool false), (.int .i64 n), (.int .u8 d0), (.int .u8 d1), (.int .u8 d2), (.int .u8 d3), (.int .u8 d4), (.int .u8 d5), (.int .u8 d6), (.int .u8 d7)], .dead], .c, .c, .f, .c, .c, .c, .c, .c, .c, .c, .c]) (by kernel_rfl) (And.intro (Eq.refl true) (And.intro (OK.pad (check_ok i false n d0 d1 d2 d3 d4 d5 d6 d7 [.cells true [(.int .i64 i), (.bool false), (.int .i64 n), (.int .u8 d0), (.int .u8 d1), (.int .u8 d2), (.int .u8 d3), (.int .u8 d4), (.int .u8 d5), (.int .u8 d6), (.int .u8 d7)]])) (And.intro (Eq.refl true) (And.intro h0 (And.intro (Eq.refl true) (And.intro (Eq.refl true) (Eq.refl (((.int .i64 (IntKind.wrap .i64 (2 * i))) : V), ([.cells true [(.int .i64 i), (.bool false), (.int .i64 n), (.int .u8 d0), (.int .u8 d1), (.int .u8 d2), (.int .u8 d3), (.int .u8 d4), (.int .u8 d5), (.int .u8 d6), (.int .u8 d7)], .dead] : Heap)))))))))

theorem rk_p' (i : Int) (r : Bool) (n d0 d1 d2 d3 d4 d5 d6 d7 : Int) (h0 : (((chk i false n d0 d1 d2 d3 d4 d5 d6 d7) : Int) != 0) = false) : OK cfg (.fn 45 []) [(.agg [(.int .i64 i), (.bool false), (.int .i64 n), (.int .u8 d0), (.int .u8 d1), (.int .u8 d2), (.int .u8 d3), (.int .u8 d4), (.int .u8 d5), (.int .u8 d6), (.int .u8 d7)])] [] (.int .i64 (IntKind.wrap .i64 (2 * i))) [] :=
  (OK.at (fv1 := (.fn 45 [])) (args1 := [(.agg [(.int .i64 i), (.bool false), (.int .i64 n), (.int .u8 d0), (.int .u8 d1), (.int .u8 d2), (.int .u8 d3), (.int .u8 d4), (.int .u8 d5), (.int .u8 d6), (.int .u8 d7)])]) (v1 := (.int .i64 (IntKind.wrap .i64 (2 * i)))) (rk_p i r n d0 d1 d2 d3 d4 d5 d6 d7 h0) [] [none, none] [] [] [] (by kernel_rfl) (by kernel_rfl) trivial trivial (VE.ren (by kernel_rfl)) (VEL.ren (by kernel_rfl)) (VE.ren (by kernel_rfl)))

theorem chk_zero (i : Int) (r : Bool) (n d0 d1 d2 d3 d4 d5 d6 d7 : Int) : chk i r n d0 d1 d2 d3 d4 d5 d6 d7 = 0 ↔ 0 ≤ i ∧ i ≤ 2047 ∧ 0 ≤ n ∧ n ≤ 8 ∧ dataOk r n d0 d1 d2 d3 d4 d5 d6 d7 := by
  unfold chk
  split
  · constructor
    · intro h; cases h
    · intro h; omega
  · split
    · constructor
      · intro h; cases h
      · intro h; omega
    · split
      · rename_i h; exact ⟨fun _ => ⟨by omega, by omega, by omega, by omega, h⟩, fun _ => rfl⟩
      · rename_i h; exact ⟨fun h => (by cases h), fun k => absurd k.2.2.2.2 h⟩
theorem rank_ok (i : Int) (r : Bool) (n d0 d1 d2 d3 d4 d5 d6 d7 : Int) (h : chk i r n d0 d1 d2 d3 d4 d5 d6 d7 = 0) (H : Heap) : OK cfg (.fn 45 []) [.agg [.int .i64 i, .bool r, .int .i64 n, .int .u8 d0, .int .u8 d1, .int .u8 d2, .int .u8 d3, .int .u8 d4, .int .u8 d5, .int .u8 d6, .int .u8 d7]] H (.int .i64 (rkV i r)) H := by
  suffices hs : ∃ H', OK cfg (.fn 45 []) [.agg [.int .i64 i, .bool r, .int .i64 n, .int .u8 d0, .int .u8 d1, .int .u8 d2, .int .u8 d3, .int .u8 d4, .int .u8 d5, .int .u8 d6, .int .u8 d7]] [] (.int .i64 (rkV i r)) H' by
    obtain ⟨H', h⟩ := hs
    exact OK.any h H rfl rfl
  obtain ⟨h1, h2, _⟩ := (chk_zero i r n d0 d1 d2 d3 d4 d5 d6 d7).1 h
  have e1 : IntKind.wrap .i64 (2 * i) = 2 * i := wrap_i64 (by omega)
  have e2 : IntKind.wrap .i64 (2 * i + 1) = 2 * i + 1 := wrap_i64 (by omega)
  cases r with
  | true => exact ⟨_, OK.eqv (rk_r i true n d0 d1 d2 d3 d4 d5 d6 d7 (by simpa using h)) (by rw [e1, e2]; rfl)⟩
  | false => exact ⟨_, OK.eqv (rk_p i false n d0 d1 d2 d3 d4 d5 d6 d7 (by simpa using h)) (by rw [e1]; rfl)⟩

abbrev FT := Int × Bool × Int × Int × Int × Int × Int × Int × Int × Int × Int
abbrev gF (S : List FT) (j : Nat) : FT := S.getD  j (0, false, 0, 0, 0, 0, 0, 0, 0, 0, 0)
def encF (x : FT) : List V := [.int .i64 x.1, .bool x.2.1, .int .i64 x.2.2.1, .int .u8 x.2.2.2.1, .int .u8 x.2.2.2.2.1, .int .u8 x.2.2.2.2.2.1, .int .u8 x.2.2.2.2.2.2.1, .int .u8 x.2.2.2.2.2.2.2.1, .int .u8 x.2.2.2.2.2.2.2.2.1, .int .u8 x.2.2.2.2.2.2.2.2.2.1, .int .u8 x.2.2.2.2.2.2.2.2.2.2]
theorem encF_len (x) : (encF x).length = 11 := rfl
theorem encF_plains (x) : plains (encF x) = true := rfl
theorem encF_0 {S : List (FT)} {i : Nat} (h : i < S.length) : (((((S.map encF).flatten)[0 + i * 11 + 0]?).bind (asI .i64)).bind fun n => some (V.int .i64 n)) = some (V.int .i64 (S.getD i (0, false, 0, 0, 0, 0, 0, 0, 0, 0, 0)).1) := ld_at_int (by rw [fm_get encF 11 encF_len (0, false, 0, 0, 0, 0, 0, 0, 0, 0, 0) S i 0 h (by decide)]; rfl)
theorem encF_1 {S : List (FT)} {i : Nat} (h : i < S.length) : (((((S.map encF).flatten)[0 + i * 11 + 1]?).bind asB).bind fun n => some (V.bool n)) = some (V.bool (S.getD i (0, false, 0, 0, 0, 0, 0, 0, 0, 0, 0)).2.1) := ld_at_bool (by rw [fm_get encF 11 encF_len (0, false, 0, 0, 0, 0, 0, 0, 0, 0, 0) S i 1 h (by decide)]; rfl)
theorem encF_2 {S : List (FT)} {i : Nat} (h : i < S.length) : (((((S.map encF).flatten)[0 + i * 11 + 2]?).bind (asI .i64)).bind fun n => some (V.int .i64 n)) = some (V.int .i64 (S.getD i (0, false, 0, 0, 0, 0, 0, 0, 0, 0, 0)).2.2.1) := ld_at_int (by rw [fm_get encF 11 encF_len (0, false, 0, 0, 0, 0, 0, 0, 0, 0, 0) S i 2 h (by decide)]; rfl)
theorem encF_3 {S : List (FT)} {i : Nat} (h : i < S.length) : (((((S.map encF).flatten)[0 + i * 11 + 3]?).bind (asI .u8)).bind fun n => some (V.int .u8 n)) = some (V.int .u8 (S.getD i (0, false, 0, 0, 0, 0, 0, 0, 0, 0, 0)).2.2.2.1) := ld_at_int (by rw [fm_get encF 11 encF_len (0, false, 0, 0, 0, 0, 0, 0, 0, 0, 0) S i 3 h (by decide)]; rfl)
theorem encF_4 {S : List (FT)} {i : Nat} (h : i < S.length) : (((((S.map encF).flatten)[0 + i * 11 + 4]?).bind (asI .u8)).bind fun n => some (V.int .u8 n)) = some (V.int .u8 (S.getD i (0, false, 0, 0, 0, 0, 0, 0, 0, 0, 0)).2.2.2.2.1) := ld_at_int (by rw [fm_get encF 11 encF_len (0, false, 0, 0, 0, 0, 0, 0, 0, 0, 0) S i 4 h (by decide)]; rfl)
theorem encF_5 {S : List (FT)} {i : Nat} (h : i < S.length) : (((((S.map encF).flatten)[0 + i * 11 + 5]?).bind (asI .u8)).bind fun n => some (V.int .u8 n)) = some (V.int .u8 (S.getD i (0, false, 0, 0, 0, 0, 0, 0, 0, 0, 0)).2.2.2.2.2.1) := ld_at_int (by rw [fm_get encF 11 encF_len (0, false, 0, 0, 0, 0, 0, 0, 0, 0, 0) S i 5 h (by decide)]; rfl)
theorem encF_6 {S : List (FT)} {i : Nat} (h : i < S.length) : (((((S.map encF).flatten)[0 + i * 11 + 6]?).bind (asI .u8)).bind fun n => some (V.int .u8 n)) = some (V.int .u8 (S.getD i (0, false, 0, 0, 0, 0, 0, 0, 0, 0, 0)).2.2.2.2.2.2.1) := ld_at_int (by rw [fm_get encF 11 encF_len (0, false, 0, 0, 0, 0, 0, 0, 0, 0, 0) S i 6 h (by decide)]; rfl)
theorem encF_7 {S : List (FT)} {i : Nat} (h : i < S.length) : (((((S.map encF).flatten)[0 + i * 11 + 7]?).bind (asI .u8)).bind fun n => some (V.int .u8 n)) = some (V.int .u8 (S.getD i (0, false, 0, 0, 0, 0, 0, 0, 0, 0, 0)).2.2.2.2.2.2.2.1) := ld_at_int (by rw [fm_get encF 11 encF_len (0, false, 0, 0, 0, 0, 0, 0, 0, 0, 0) S i 7 h (by decide)]; rfl)
theorem encF_8 {S : List (FT)} {i : Nat} (h : i < S.length) : (((((S.map encF).flatten)[0 + i * 11 + 8]?).bind (asI .u8)).bind fun n => some (V.int .u8 n)) = some (V.int .u8 (S.getD i (0, false, 0, 0, 0, 0, 0, 0, 0, 0, 0)).2.2.2.2.2.2.2.2.1) := ld_at_int (by rw [fm_get encF 11 encF_len (0, false, 0, 0, 0, 0, 0, 0, 0, 0, 0) S i 8 h (by decide)]; rfl)
theorem encF_9 {S : List (FT)} {i : Nat} (h : i < S.length) : (((((S.map encF).flatten)[0 + i * 11 + 9]?).bind (asI .u8)).bind fun n => some (V.int .u8 n)) = some (V.int .u8 (S.getD i (0, false, 0, 0, 0, 0, 0, 0, 0, 0, 0)).2.2.2.2.2.2.2.2.2.1) := ld_at_int (by rw [fm_get encF 11 encF_len (0, false, 0, 0, 0, 0, 0, 0, 0, 0, 0) S i 9 h (by decide)]; rfl)
theorem encF_10 {S : List (FT)} {i : Nat} (h : i < S.length) : (((((S.map encF).flatten)[0 + i * 11 + 10]?).bind (asI .u8)).bind fun n => some (V.int .u8 n)) = some (V.int .u8 (S.getD i (0, false, 0, 0, 0, 0, 0, 0, 0, 0, 0)).2.2.2.2.2.2.2.2.2.2) := ld_at_int (by rw [fm_get encF 11 encF_len (0, false, 0, 0, 0, 0, 0, 0, 0, 0, 0) S i 10 h (by decide)]; rfl)
theorem encF_agg {S : List (FT)} {i : Nat} (h : i < S.length) : (((((S.map encF).flatten)[0 + i * 11]?).bind (asI .i64)).bind fun n0 => (((((S.map encF).flatten)[0 + i * 11 + 1]?).bind asB).bind fun n1 => (((((S.map encF).flatten)[0 + i * 11 + 1 + 1]?).bind (asI .i64)).bind fun n2 => (((((S.map encF).flatten)[0 + i * 11 + 1 + 1 + 1]?).bind (asI .u8)).bind fun n3 => (((((S.map encF).flatten)[0 + i * 11 + 1 + 1 + 1 + 1]?).bind (asI .u8)).bind fun n4 => (((((S.map encF).flatten)[0 + i * 11 + 1 + 1 + 1 + 1 + 1]?).bind (asI .u8)).bind fun n5 => (((((S.map encF).flatten)[0 + i * 11 + 1 + 1 + 1 + 1 + 1 + 1]?).bind (asI .u8)).bind fun n6 => (((((S.map encF).flatten)[0 + i * 11 + 1 + 1 + 1 + 1 + 1 + 1 + 1]?).bind (asI .u8)).bind fun n7 => (((((S.map encF).flatten)[0 + i * 11 + 1 + 1 + 1 + 1 + 1 + 1 + 1 + 1]?).bind (asI .u8)).bind fun n8 => (((((S.map encF).flatten)[0 + i * 11 + 1 + 1 + 1 + 1 + 1 + 1 + 1 + 1 + 1]?).bind (asI .u8)).bind fun n9 => (((((S.map encF).flatten)[0 + i * 11 + 1 + 1 + 1 + 1 + 1 + 1 + 1 + 1 + 1 + 1]?).bind (asI .u8)).bind fun n10 => some (V.agg [V.int .i64 n0, V.bool n1, V.int .i64 n2, V.int .u8 n3, V.int .u8 n4, V.int .u8 n5, V.int .u8 n6, V.int .u8 n7, V.int .u8 n8, V.int .u8 n9, V.int .u8 n10])))))))))))) = some (V.agg [V.int .i64 (S.getD i (0, false, 0, 0, 0, 0, 0, 0, 0, 0, 0)).1, V.bool (S.getD i (0, false, 0, 0, 0, 0, 0, 0, 0, 0, 0)).2.1, V.int .i64 (S.getD i (0, false, 0, 0, 0, 0, 0, 0, 0, 0, 0)).2.2.1, V.int .u8 (S.getD i (0, false, 0, 0, 0, 0, 0, 0, 0, 0, 0)).2.2.2.1, V.int .u8 (S.getD i (0, false, 0, 0, 0, 0, 0, 0, 0, 0, 0)).2.2.2.2.1, V.int .u8 (S.getD i (0, false, 0, 0, 0, 0, 0, 0, 0, 0, 0)).2.2.2.2.2.1, V.int .u8 (S.getD i (0, false, 0, 0, 0, 0, 0, 0, 0, 0, 0)).2.2.2.2.2.2.1, V.int .u8 (S.getD i (0, false, 0, 0, 0, 0, 0, 0, 0, 0, 0)).2.2.2.2.2.2.2.1, V.int .u8 (S.getD i (0, false, 0, 0, 0, 0, 0, 0, 0, 0, 0)).2.2.2.2.2.2.2.2.1, V.int .u8 (S.getD i (0, false, 0, 0, 0, 0, 0, 0, 0, 0, 0)).2.2.2.2.2.2.2.2.2.1, V.int .u8 (S.getD i (0, false, 0, 0, 0, 0, 0, 0, 0, 0, 0)).2.2.2.2.2.2.2.2.2.2]) := by
  have e := fun j hj => fm_get encF 11 encF_len (0, false, 0, 0, 0, 0, 0, 0, 0, 0, 0) S i j h hj
  rw [show (((S.map encF).flatten)[0 + i * 11]?) = _ from e 0 (by decide)]
  rw [show (((S.map encF).flatten)[0 + i * 11 + 1]?) = _ from e 1 (by decide)]
  rw [show (((S.map encF).flatten)[0 + i * 11 + 1 + 1]?) = _ from e 2 (by decide)]
  rw [show (((S.map encF).flatten)[0 + i * 11 + 1 + 1 + 1]?) = _ from e 3 (by decide)]
  rw [show (((S.map encF).flatten)[0 + i * 11 + 1 + 1 + 1 + 1]?) = _ from e 4 (by decide)]
  rw [show (((S.map encF).flatten)[0 + i * 11 + 1 + 1 + 1 + 1 + 1]?) = _ from e 5 (by decide)]
  rw [show (((S.map encF).flatten)[0 + i * 11 + 1 + 1 + 1 + 1 + 1 + 1]?) = _ from e 6 (by decide)]
  rw [show (((S.map encF).flatten)[0 + i * 11 + 1 + 1 + 1 + 1 + 1 + 1 + 1]?) = _ from e 7 (by decide)]
  rw [show (((S.map encF).flatten)[0 + i * 11 + 1 + 1 + 1 + 1 + 1 + 1 + 1 + 1]?) = _ from e 8 (by decide)]
  rw [show (((S.map encF).flatten)[0 + i * 11 + 1 + 1 + 1 + 1 + 1 + 1 + 1 + 1 + 1]?) = _ from e 9 (by decide)]
  rw [show (((S.map encF).flatten)[0 + i * 11 + 1 + 1 + 1 + 1 + 1 + 1 + 1 + 1 + 1 + 1]?) = _ from e 10 (by decide)]
  rfl

theorem rr_r (i : Int) (r : Bool) (n d0 d1 d2 d3 d4 d5 d6 d7 : Int) (h0 : (((chk i true n d0 d1 d2 d3 d4 d5 d6 d7) : Int) != 0) = false) : OK cfg (.fn 30 []) [(.agg [(.int .i64 i), (.bool true), (.int .i64 n), (.int .u8 d0), (.int .u8 d1), (.int .u8 d2), (.int .u8 d3), (.int .u8 d4), (.int .u8 d5), (.int .u8 d6), (.int .u8 d7)])] [] (.int .i64 (IntKind.wrap .i64 ((IntKind.wrap .i64 (i + i)) + 1))) [.cells true [(.int .i64 i), (.bool true), (.int .i64 n), (.int .u8 d0), (.int .u8 d1), (.int .u8 d2), (.int .u8 d3), (.int .u8 d4), (.int .u8 d5), (.int .u8 d6), (.int .u8 d7)], .dead] :=
  ok_fn' hmix (n := 40) (os := [.c, .c, .c, .r (.int .i64 (chk i true n d0 d1 d2 d3 d4 d5 d6 d7)) [.cells true [(.int .i64 i), (.bool true), (.int .i64 n), (.int .u8 d0), (.int .u8 d1), (.int .u8 d2), (.int .u8 d3), (.int .u8 d4), (.int .u8 d5), (.int .u8 d6), (.int .u8 d7)], .dead], .c, .f, .c, .c, .c, .c, .c, .c, .c, .c, .c, .c, .c, .c, .c, .c]) (by kernel_rfl) (And.intro (Eq.refl true) (And.intro (OK.pad (rcheck_ok i true n d0 d1 d2 d3 d4 d5 d6 d7 [.cells true [(.int .i64 i), (.bool true), (.int .i64 n), (.int .u8 d0), (.int .u8 d1), (.int .u8 d2), (.int .u8 d3), (.int .u8 d4), (.int .u8 d5), (.int .u8 d6), (.int .u8 d7)]])) (And.intro (Eq.refl true) (And.intro h0 (And.intro (Eq.refl true) (And.intro (Eq.refl true) (And.intro (Eq.refl true) (And.intro (Eq.refl true) (Eq.refl (((.int .i64 (IntKind.wrap .i64 ((IntKind.wrap .i64 (i + i)) + 1))) : V), ([.cells true [(.int .i64 i), (.bool true), (.int .i64 n), (.int .u8 d0), (.int .u8 d1), (.int .u8 d2), (.int .u8 d3), (.int .u8 d4), (.int .u8 d5), (.int .u8 d6), (.int .u8 d7)], .dead] : Heap)))))))))))

theorem rr_r' (i : Int) (r : Bool) (n d0 d1 d2 d3 d4 d5 d6 d7 : Int) (h0 : (((chk i true n d0 d1 d2 d3 d4 d5 d6 d7) : Int) != 0) = false) : OK cfg (.fn 30 []) [(.agg [(.int .i64 i), (.bool true), (.int .i64 n), (.int .u8 d0), (.int .u8 d1), (.int .u8 d2), (.int .u8 d3), (.int .u8 d4), (.int .u8 d5), (.int .u8 d6), (.int .u8 d7)])] [] (.int .i64 (IntKind.wrap .i64 ((IntKind.wrap .i64 (i + i)) + 1))) [] :=
  (OK.at (fv1 := (.fn 30 [])) (args1 := [(.agg [(.int .i64 i), (.bool true), (.int .i64 n), (.int .u8 d0), (.int .u8 d1), (.int .u8 d2), (.int .u8 d3), (.int .u8 d4), (.int .u8 d5), (.int .u8 d6), (.int .u8 d7)])]) (v1 := (.int .i64 (IntKind.wrap .i64 ((IntKind.wrap .i64 (i + i)) + 1)))) (rr_r i r n d0 d1 d2 d3 d4 d5 d6 d7 h0) [] [none, none] [] [] [] (by kernel_rfl) (by kernel_rfl) trivial trivial (VE.ren (by kernel_rfl)) (VEL.ren (by kernel_rfl)) (VE.ren (by kernel_rfl)))


theorem rr_p (i : Int) (r : Bool) (n d0 d1 d2 d3 d4 d5 d6 d7 : Int) (h0 : (((chk i false n d0 d1 d2 d3 d4 d5 d6 d7) : Int) != 0) = false) : OK cfg (.fn 30 []) [(.agg [(.int .i64 i), (.bool false), (.int .i64 n), (.int .u8 d0), (.int .u8 d1), (.int .u8 d2), (.int .u8 d3), (.int .u8 d4), (.int .u8 d5), (.int .u8 d6), (.int .u8 d7)])] [] (.int .i64 (IntKind.wrap .i64 (i + i))) [.cells true [(.int .i64 i), (.bool false), (.int .i64 n), (.int .u8 d0), (.int .u8 d1), (.int .u8 d2), (.int .u8 d3), (.int .u8 d4), (.int .u8 d5), (.int .u8 d6), (.int .u8 d7)], .dead] :=
  ok_fn' hmix (n := 40) (os := [.c, .c, .c, .r (.int .i64 (chk i false n d0 d1 d2 d3 d4 d5 d6 d7)) [.cells true [(.int .i64 i), (.bool false), (.int .i64 n), (.int .u8 d0), (.int .u8 d1), (.int .u8 d2), (.int .u8 d3), (.int .u8 d4), (.int .u8 d5), (.int .u8 d6), (.int .u8 d7)], .dead], .c, .f, .c, .c, .c, .c, .c, .c, .c, .c, .c, .c, .c]) (by kernel_rfl) (And.intro (Eq.refl true) (And.intro (OK.pad (rcheck_ok i false n d0 d1 d2 d3 d4 d5 d6 d7 [.cells true [(.int .i64 i), (.bool false), (.int .i64 n), (.int .u8 d0), (.int .u8 d1), (.int .u8 d2), (.int .u8 d3), (.int .u8 d4), (.int .u8 d5), (.int .u8 d6), (.int .u8 d7)]])) (And.intro (Eq.refl true) (And.intro h0 (And.intro (Eq.refl true) (And.intro (Eq.refl true) (And.intro (Eq.refl true) (Eq.refl (((.int .i64 (IntKind.wrap .i64 (i + i))) : V), ([.cells true [(.int .i64 i), (.bool false), (.int .i64 n), (.int .u8 d0), (.int .u8 d1), (.int .u8 d2), (.int .u8 d3), (.int .u8 d4), (.int .u8 d5), (.int .u8 d6), (.int .u8 d7)], .dead] : Heap))))))))))

theorem rr_p' (i : Int) (r : Bool) (n d0 d1 d2 d3 d4 d5 d6 d7 : Int) (h0 : (((chk i false n d0 d1 d2 d3 d4 d5 d6 d7) : Int) != 0) = false) : OK cfg (.fn 30 []) [(.agg [(.int .i64 i), (.bool false), (.int .i64 n), (.int .u8 d0), (.int .u8 d1), (.int .u8 d2), (.int .u8 d3), (.int .u8 d4), (.int .u8 d5), (.int .u8 d6), (.int .u8 d7)])] [] (.int .i64 (IntKind.wrap .i64 (i + i))) [] :=
  (OK.at (fv1 := (.fn 30 [])) (args1 := [(.agg [(.int .i64 i), (.bool false), (.int .i64 n), (.int .u8 d0), (.int .u8 d1), (.int .u8 d2), (.int .u8 d3), (.int .u8 d4), (.int .u8 d5), (.int .u8 d6), (.int .u8 d7)])]) (v1 := (.int .i64 (IntKind.wrap .i64 (i + i)))) (rr_p i r n d0 d1 d2 d3 d4 d5 d6 d7 h0) [] [none, none] [] [] [] (by kernel_rfl) (by kernel_rfl) trivial trivial (VE.ren (by kernel_rfl)) (VEL.ren (by kernel_rfl)) (VE.ren (by kernel_rfl)))

theorem rrank_ok (i : Int) (r : Bool) (n d0 d1 d2 d3 d4 d5 d6 d7 : Int) (h : chk i r n d0 d1 d2 d3 d4 d5 d6 d7 = 0) (H : Heap) : OK cfg (.fn 30 []) [.agg [.int .i64 i, .bool r, .int .i64 n, .int .u8 d0, .int .u8 d1, .int .u8 d2, .int .u8 d3, .int .u8 d4, .int .u8 d5, .int .u8 d6, .int .u8 d7]] H (.int .i64 (rkV i r)) H := by
  suffices hs : ∃ H', OK cfg (.fn 30 []) [.agg [.int .i64 i, .bool r, .int .i64 n, .int .u8 d0, .int .u8 d1, .int .u8 d2, .int .u8 d3, .int .u8 d4, .int .u8 d5, .int .u8 d6, .int .u8 d7]] [] (.int .i64 (rkV i r)) H' by
    obtain ⟨H', h⟩ := hs
    exact OK.any h H rfl rfl
  obtain ⟨h1, h2, _⟩ := (chk_zero i r n d0 d1 d2 d3 d4 d5 d6 d7).1 h
  have e1 : IntKind.wrap .i64 (i + i) = 2 * i := (wrap_i64 (by omega)).trans (by omega)
  have e2 : IntKind.wrap .i64 (2 * i + 1) = 2 * i + 1 := wrap_i64 (by omega)
  cases r with
  | true => exact ⟨_, OK.eqv (rr_r i true n d0 d1 d2 d3 d4 d5 d6 d7 (by simpa using h)) (by rw [e1, e2]; rfl)⟩
  | false => exact ⟨_, OK.eqv (rr_p i false n d0 d1 d2 d3 d4 d5 d6 d7 (by simpa using h)) (by rw [e1]; rfl)⟩


theorem rr_b (i : Int) (r : Bool) (n d0 d1 d2 d3 d4 d5 d6 d7 : Int) (h0 : (((chk i r n d0 d1 d2 d3 d4 d5 d6 d7) : Int) != 0) = true) : OK cfg (.fn 30 []) [(.agg [(.int .i64 i), (.bool r), (.int .i64 n), (.int .u8 d0), (.int .u8 d1), (.int .u8 d2), (.int .u8 d3), (.int .u8 d4), (.int .u8 d5), (.int .u8 d6), (.int .u8 d7)])] [] (.int .i64 (-1)) [FBk i r n d0 d1 d2 d3 d4 d5 d6 d7, .dead] :=
  ok_fn' hmix (n := 40) (os := [.c, .c, .c, .r (.int .i64 (chk i r n d0 d1 d2 d3 d4 d5 d6 d7)) [FBk i r n d0 d1 d2 d3 d4 d5 d6 d7, .dead], .c, .t, .c]) (by kernel_rfl) (And.intro (Eq.refl true) (And.intro (OK.pad (rcheck_ok i r n d0 d1 d2 d3 d4 d5 d6 d7 [FBk i r n d0 d1 d2 d3 d4 d5 d6 d7])) (And.intro (Eq.refl true) (And.intro h0 (And.intro (Eq.refl true) (Eq.refl (((.int .i64 (-1)) : V), ([FBk i r n d0 d1 d2 d3 d4 d5 d6 d7, .dead] : Heap))))))))

theorem rr_b' (i : Int) (r : Bool) (n d0 d1 d2 d3 d4 d5 d6 d7 : Int) (h0 : (((chk i r n d0 d1 d2 d3 d4 d5 d6 d7) : Int) != 0) = true) : OK cfg (.fn 30 []) [(.agg [(.int .i64 i), (.bool r), (.int .i64 n), (.int .u8 d0), (.int .u8 d1), (.int .u8 d2), (.int .u8 d3), (.int .u8 d4), (.int .u8 d5), (.int .u8 d6), (.int .u8 d7)])] [] (.int .i64 (-1)) [] :=
  (OK.at (fv1 := (.fn 30 [])) (args1 := [(.agg [(.int .i64 i), (.bool r), (.int .i64 n), (.int .u8 d0), (.int .u8 d1), (.int .u8 d2), (.int .u8 d3), (.int .u8 d4), (.int .u8 d5), (.int .u8 d6), (.int .u8 d7)])]) (v1 := (.int .i64 (-1))) (rr_b i r n d0 d1 d2 d3 d4 d5 d6 d7 h0) [] [none, none] [] [] [] (by kernel_rfl) (by kernel_rfl) trivial trivial (VE.ren (by kernel_rfl)) (VEL.ren (by kernel_rfl)) (VE.ren (by kernel_rfl)))


theorem sd (i : Int) (r : Bool) (n d0 d1 d2 d3 d4 d5 d6 d7 : Int) (k : Nat) (h0 : chk i r n d0 d1 d2 d3 d4 d5 d6 d7 = 0) (h1 : 0 ≤ (IntKind.wrap .i64 (11 - ((k : Nat) : Int)))) : OK cfg (.fn 41 []) [(.agg [(.int .i64 i), (.bool r), (.int .i64 n), (.int .u8 d0), (.int .u8 d1), (.int .u8 d2), (.int .u8 d3), (.int .u8 d4), (.int .u8 d5), (.int .u8 d6), (.int .u8 d7)]), (.int .i64 ((k : Nat) : Int))] [] (.int .i64 (bits .and .i64 (Int.fdiv (rkV i r) (2 ^ min (Int.toNat (IntKind.wrap .i64 (11 - ((k : Nat) : Int)))) (IntKind.bits .i64))) 1)) [FBk i r n d0 d1 d2 d3 d4 d5 d6 d7, .dead] :=
  ok_fn' hmix (n := 40) (os := [.c, .c, .c, .r (.int .i64 (rkV i r)) [FBk i r n d0 d1 d2 d3 d4 d5 d6 d7, .dead], .c, .c, .a, .c, .c]) (by kernel_rfl) (And.intro (Eq.refl true) (And.intro (OK.pad (rank_ok i r n d0 d1 d2 d3 d4 d5 d6 d7 h0 [FBk i r n d0 d1 d2 d3 d4 d5 d6 d7])) (And.intro h1 (And.intro (Eq.refl true) (Eq.refl (((.int .i64 (bits .and .i64 (Int.fdiv (rkV i r) (2 ^ min (Int.toNat (IntKind.wrap .i64 (11 - ((k : Nat) : Int)))) (IntKind.bits .i64))) 1)) : V), ([FBk i r n d0 d1 d2 d3 d4 d5 d6 d7, .dead] : Heap)))))))

theorem sd' (i : Int) (r : Bool) (n d0 d1 d2 d3 d4 d5 d6 d7 : Int) (k : Nat) (h0 : chk i r n d0 d1 d2 d3 d4 d5 d6 d7 = 0) (h1 : 0 ≤ (IntKind.wrap .i64 (11 - ((k : Nat) : Int)))) : OK cfg (.fn 41 []) [(.agg [(.int .i64 i), (.bool r), (.int .i64 n), (.int .u8 d0), (.int .u8 d1), (.int .u8 d2), (.int .u8 d3), (.int .u8 d4), (.int .u8 d5), (.int .u8 d6), (.int .u8 d7)]), (.int .i64 ((k : Nat) : Int))] [] (.int .i64 (bits .and .i64 (Int.fdiv (rkV i r) (2 ^ min (Int.toNat (IntKind.wrap .i64 (11 - ((k : Nat) : Int)))) (IntKind.bits .i64))) 1)) [] :=
  (OK.at (fv1 := (.fn 41 [])) (args1 := [(.agg [(.int .i64 i), (.bool r), (.int .i64 n), (.int .u8 d0), (.int .u8 d1), (.int .u8 d2), (.int .u8 d3), (.int .u8 d4), (.int .u8 d5), (.int .u8 d6), (.int .u8 d7)]), (.int .i64 ((k : Nat) : Int))]) (v1 := (.int .i64 (bits .and .i64 (Int.fdiv (rkV i r) (2 ^ min (Int.toNat (IntKind.wrap .i64 (11 - ((k : Nat) : Int)))) (IntKind.bits .i64))) 1))) (sd i r n d0 d1 d2 d3 d4 d5 d6 d7 k h0 h1) [] [none, none] [] [] [] (by kernel_rfl) (by kernel_rfl) trivial trivial (VE.ren (by kernel_rfl)) (VEL.ren (by kernel_rfl)) (VE.ren (by kernel_rfl)))

/-- A rank's bit in a round. -/
def bitV (x : Int) (k : Nat) : Int := x / 2 ^ (11 - k) % 2
theorem bitV_01 (x : Int) (k : Nat) : 0 ≤ bitV x k ∧ bitV x k ≤ 1 := by unfold bitV; omega
theorem rkV_b {i : Int} {r : Bool} (h : 0 ≤ i ∧ i ≤ 2047) : 0 ≤ rkV i r ∧ rkV i r ≤ 4095 := by unfold rkV; split <;> omega
theorem bit_text {R : Int} (h : 0 ≤ R ∧ R ≤ 4095) (k : Nat) (hk : k < 12) : bits .and .i64 (Int.fdiv R (2 ^ min (Int.toNat (IntKind.wrap .i64 (11 - (k : Int)))) (IntKind.bits .i64))) 1 = bitV R k := by
  have e1 : IntKind.wrap .i64 (11 - (k : Int)) = ((11 - k : Nat) : Int) := (wrap_i64 (by omega)).trans (by omega)
  have e2 : min (11 - k) (IntKind.bits .i64) = 11 - k := Nat.min_eq_left (Nat.le_trans (by omega) (show 11 ≤ IntKind.bits .i64 by decide))
  have hp : (0 : Int) < 2 ^ (11 - k) := Int.pow_pos (by decide)
  rw [e1, Int.toNat_natCast, e2, Int.fdiv_eq_ediv_of_nonneg _ (Int.le_of_lt hp)]
  have h0 : 0 ≤ R / 2 ^ (11 - k) := Int.ediv_nonneg h.1 (Int.le_of_lt hp)
  have h1 : R / 2 ^ (11 - k) ≤ R := Int.ediv_le_self _ h.1
  have hm := bits_mask .i64 63 (by decide) (fun n a b => wrap_i64 (by omega)) 1 (by decide) (R / 2 ^ (11 - k)) h0 (by omega)
  have e3 : ((2 : Int) ^ 1 - 1) = 1 := by decide
  have e4 : ((2 : Int) ^ 1) = 2 := by decide
  rw [e3, e4] at hm
  exact hm
theorem sends_ok (i : Int) (r : Bool) (n d0 d1 d2 d3 d4 d5 d6 d7 : Int) (k : Nat) (h : chk i r n d0 d1 d2 d3 d4 d5 d6 d7 = 0) (hk : k < 12) (H : Heap) : OK cfg (.fn 41 []) [.agg [.int .i64 i, .bool r, .int .i64 n, .int .u8 d0, .int .u8 d1, .int .u8 d2, .int .u8 d3, .int .u8 d4, .int .u8 d5, .int .u8 d6, .int .u8 d7], .int .i64 (k : Int)] H (.int .i64 (bitV (rkV i r) k)) H := by
  suffices hs : ∃ H', OK cfg (.fn 41 []) [.agg [.int .i64 i, .bool r, .int .i64 n, .int .u8 d0, .int .u8 d1, .int .u8 d2, .int .u8 d3, .int .u8 d4, .int .u8 d5, .int .u8 d6, .int .u8 d7], .int .i64 (k : Int)] [] (.int .i64 (bitV (rkV i r) k)) H' by
    obtain ⟨H', h⟩ := hs
    exact OK.any h H rfl rfl
  obtain ⟨h1, h2, _⟩ := (chk_zero i r n d0 d1 d2 d3 d4 d5 d6 d7).1 h
  exact ⟨_, OK.eqv (sd' i r n d0 d1 d2 d3 d4 d5 d6 d7 k h (by rw [wrap_i64 (by omega)]; omega)) (by rw [bit_text (rkV_b ⟨h1, h2⟩) k hk])⟩

end Go.Proofs.Ytklnecknoadhjaa.arb
