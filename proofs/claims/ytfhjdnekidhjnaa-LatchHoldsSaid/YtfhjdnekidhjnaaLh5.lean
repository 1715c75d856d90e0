/-
  Once it has tripped, what goes out is safe: every cause, tick, deeds and bytes.
-/
import Derived.Test.YtfhjdnekidhjnaaLh4
set_option linter.unusedVariables false
set_option linter.unusedSimpArgs false
set_option maxRecDepth 100000
namespace Go.Proofs.Ytfhjdnekidhjnaa.latch
open Go Go.Vm

theorem play_nn (S : List WT) (X : List V) (C : Nat → List V) (D : Nat → List Int) (hC : ∀ k, plains (C k) = true) (hR : HR S X 80) (m : Nat) (hm : S.length = min m 40) (hr : Rows C D S) (c now : Int) (Rl Sf : List Int) : ∀ (d i : Nat), i + d = S.length → LOK cfg none (lb 4 0) ((i6 c) :: (i6 now) :: (.sl 6 (p_ 80) m) :: (.sl 1 none 0) :: (.sl 1 none 0) :: u_ :: u_ :: u_ :: u_ :: u_ :: u_ :: (.ptr (p_ 82)) :: (n6 i) :: us 140) (hA C S X [c1 [(.sl 2 (p_ 83) 1), (i6 8), (i6 0), (i6 1), (i6 0)], c1 [(.bool true), (i6 now), (i6 c), (.ptr (p_ 81)), (i6 1)], c1 [(i6 now), (i6 c)]]) (.exit 0) ((i6 c) :: (i6 now) :: u_ :: (.sl 1 none 0) :: (.sl 1 none 0) :: u_ :: u_ :: u_ :: u_ :: u_ :: u_ :: (.ptr (p_ 82)) :: us 141) (hA C S X [c1 [(.sl 2 (p_ 83) 1), (i6 8), (i6 0), (i6 1), (i6 0)], c1 [(.bool true), (i6 now), (i6 c), (.ptr (p_ 81)), (i6 1)], c1 [(i6 now), (i6 c)]]) := by
  intro d
  induction d with
  | zero =>
    intro i hi
    by_cases h40 : i < m
    · exact ly_nn S X C D hC hR i m c now Rl Sf (decide_eq_true (by omega)) (decide_eq_false (by omega))
    · exact lx_nn S X C D hC hR i m c now Rl Sf (decide_eq_false (by omega))
  | succ d IH =>
    intro i hd
    have ih := IH (i + 1) (by omega)
    have hi : i < S.length := by omega
    rcases hr.a i hi with ⟨p4, n4, _⟩ | ⟨p4, n4, b4, c4⟩
    · rcases hr.b i hi with ⟨p5, n5, _⟩ | ⟨p5, n5, b5, c5⟩
      · exact (ls_nn_NN S X C D hC hR i (by omega) (by omega) m c now Rl Sf p4 n4 p5 n5 hi (decide_eq_true (by omega)) (decide_eq_true (by omega)) (by omega) (by simp) (by rw [wrap_i64 (by omega)]; omega) ih)
      · exact (ls_nn_NS S X C D hC hR i (by omega) (by omega) m c now Rl Sf p4 n4 c5 p5 hi (decide_eq_true (by omega)) (decide_eq_true (by omega)) (by omega) b5 n5 n5 (by simp) (by simp) (by rw [wrap_i64 (by omega)]; omega) ih)
    · rcases hr.b i hi with ⟨p5, n5, _⟩ | ⟨p5, n5, b5, c5⟩
      · exact (ls_nn_SN S X C D hC hR i (by omega) (by omega) m c now Rl Sf c4 p4 p5 n5 hi (decide_eq_true (by omega)) (decide_eq_true (by omega)) (by omega) (by simp) (by rw [wrap_i64 (by omega)]; omega) ih)
      · exact (ls_nn_SS S X C D hC hR i (by omega) (by omega) m c now Rl Sf c4 p4 c5 p5 hi (decide_eq_true (by omega)) (decide_eq_true (by omega)) (by omega) b5 n5 n5 (by simp) (by simp) (by rw [wrap_i64 (by omega)]; omega) ih)

theorem play_ns (S : List WT) (X : List V) (C : Nat → List V) (D : Nat → List Int) (hC : ∀ k, plains (C k) = true) (hR : HR S X 80) (m : Nat) (hm : S.length = min m 40) (hr : Rows C D S) (c now : Int) (Rl Sf : List Int) : ∀ (d i : Nat), i + d = S.length → LOK cfg none (lb 4 0) ((i6 c) :: (i6 now) :: (.sl 6 (p_ 80) m) :: (.sl 1 none 0) :: (.sl 1 (p_ 81) Sf.length) :: u_ :: u_ :: u_ :: u_ :: u_ :: u_ :: (.ptr (p_ 83)) :: (n6 i) :: us 140) (hA C S X [.cells false ((Sf).map (V.int .u8)), c1 [(.sl 2 (p_ 84) 1), (i6 8), (i6 0), (i6 1), (i6 0)], c1 [(.bool true), (i6 now), (i6 c), (.ptr (p_ 82)), (i6 1)], c1 [(i6 now), (i6 c)]]) (.exit 0) ((i6 c) :: (i6 now) :: u_ :: (.sl 1 none 0) :: (.sl 1 (p_ 81) Sf.length) :: u_ :: u_ :: u_ :: u_ :: u_ :: u_ :: (.ptr (p_ 83)) :: us 141) (hA C S X [.cells false ((Sf).map (V.int .u8)), c1 [(.sl 2 (p_ 84) 1), (i6 8), (i6 0), (i6 1), (i6 0)], c1 [(.bool true), (i6 now), (i6 c), (.ptr (p_ 82)), (i6 1)], c1 [(i6 now), (i6 c)]]) := by
  intro d
  induction d with
  | zero =>
    intro i hi
    by_cases h40 : i < m
    · exact ly_ns S X C D hC hR i m c now Rl Sf (decide_eq_true (by omega)) (decide_eq_false (by omega))
    · exact lx_ns S X C D hC hR i m c now Rl Sf (decide_eq_false (by omega))
  | succ d IH =>
    intro i hd
    have ih := IH (i + 1) (by omega)
    have hi : i < S.length := by omega
    rcases hr.a i hi with ⟨p4, n4, _⟩ | ⟨p4, n4, b4, c4⟩
    · rcases hr.b i hi with ⟨p5, n5, _⟩ | ⟨p5, n5, b5, c5⟩
      · exact (ls_ns_NN S X C D hC hR i (by omega) (by omega) m c now Rl Sf p4 n4 p5 n5 hi (decide_eq_true (by omega)) (decide_eq_true (by omega)) (by omega) (by simp) (by rw [wrap_i64 (by omega)]; omega) ih)
      · exact (ls_ns_NS S X C D hC hR i (by omega) (by omega) m c now Rl Sf p4 n4 c5 p5 hi (decide_eq_true (by omega)) (decide_eq_true (by omega)) (by omega) b5 n5 n5 (by simp) (by simp) (by rw [wrap_i64 (by omega)]; omega) ih)
    · rcases hr.b i hi with ⟨p5, n5, _⟩ | ⟨p5, n5, b5, c5⟩
      · exact (ls_ns_SN S X C D hC hR i (by omega) (by omega) m c now Rl Sf c4 p4 p5 n5 hi (decide_eq_true (by omega)) (decide_eq_true (by omega)) (by omega) (by simp) (by rw [wrap_i64 (by omega)]; omega) ih)
      · exact (ls_ns_SS S X C D hC hR i (by omega) (by omega) m c now Rl Sf c4 p4 c5 p5 hi (decide_eq_true (by omega)) (decide_eq_true (by omega)) (by omega) b5 n5 n5 (by simp) (by simp) (by rw [wrap_i64 (by omega)]; omega) ih)

theorem play_sn (S : List WT) (X : List V) (C : Nat → List V) (D : Nat → List Int) (hC : ∀ k, plains (C k) = true) (hR : HR S X 80) (m : Nat) (hm : S.length = min m 40) (hr : Rows C D S) (c now : Int) (Rl Sf : List Int) : ∀ (d i : Nat), i + d = S.length → LOK cfg none (lb 4 0) ((i6 c) :: (i6 now) :: (.sl 6 (p_ 80) m) :: (.sl 1 (p_ 81) Rl.length) :: (.sl 1 none 0) :: u_ :: u_ :: u_ :: u_ :: u_ :: u_ :: (.ptr (p_ 83)) :: (n6 i) :: us 140) (hA C S X [.cells false ((Rl).map (V.int .u8)), c1 [(.sl 2 (p_ 84) 1), (i6 8), (i6 0), (i6 1), (i6 0)], c1 [(.bool true), (i6 now), (i6 c), (.ptr (p_ 82)), (i6 1)], c1 [(i6 now), (i6 c)]]) (.exit 0) ((i6 c) :: (i6 now) :: u_ :: (.sl 1 (p_ 81) Rl.length) :: (.sl 1 none 0) :: u_ :: u_ :: u_ :: u_ :: u_ :: u_ :: (.ptr (p_ 83)) :: us 141) (hA C S X [.cells false ((Rl).map (V.int .u8)), c1 [(.sl 2 (p_ 84) 1), (i6 8), (i6 0), (i6 1), (i6 0)], c1 [(.bool true), (i6 now), (i6 c), (.ptr (p_ 82)), (i6 1)], c1 [(i6 now), (i6 c)]]) := by
  intro d
  induction d with
  | zero =>
    intro i hi
    by_cases h40 : i < m
    · exact ly_sn S X C D hC hR i m c now Rl Sf (decide_eq_true (by omega)) (decide_eq_false (by omega))
    · exact lx_sn S X C D hC hR i m c now Rl Sf (decide_eq_false (by omega))
  | succ d IH =>
    intro i hd
    have ih := IH (i + 1) (by omega)
    have hi : i < S.length := by omega
    rcases hr.a i hi with ⟨p4, n4, _⟩ | ⟨p4, n4, b4, c4⟩
    · rcases hr.b i hi with ⟨p5, n5, _⟩ | ⟨p5, n5, b5, c5⟩
      · exact (ls_sn_NN S X C D hC hR i (by omega) (by omega) m c now Rl Sf p4 n4 p5 n5 hi (decide_eq_true (by omega)) (decide_eq_true (by omega)) (by omega) (by simp) (by rw [wrap_i64 (by omega)]; omega) ih)
      · exact (ls_sn_NS S X C D hC hR i (by omega) (by omega) m c now Rl Sf p4 n4 c5 p5 hi (decide_eq_true (by omega)) (decide_eq_true (by omega)) (by omega) b5 n5 n5 (by simp) (by simp) (by rw [wrap_i64 (by omega)]; omega) ih)
    · rcases hr.b i hi with ⟨p5, n5, _⟩ | ⟨p5, n5, b5, c5⟩
      · exact (ls_sn_SN S X C D hC hR i (by omega) (by omega) m c now Rl Sf c4 p4 p5 n5 hi (decide_eq_true (by omega)) (decide_eq_true (by omega)) (by omega) (by simp) (by rw [wrap_i64 (by omega)]; omega) ih)
      · exact (ls_sn_SS S X C D hC hR i (by omega) (by omega) m c now Rl Sf c4 p4 c5 p5 hi (decide_eq_true (by omega)) (decide_eq_true (by omega)) (by omega) b5 n5 n5 (by simp) (by simp) (by rw [wrap_i64 (by omega)]; omega) ih)

theorem play_ss (S : List WT) (X : List V) (C : Nat → List V) (D : Nat → List Int) (hC : ∀ k, plains (C k) = true) (hR : HR S X 80) (m : Nat) (hm : S.length = min m 40) (hr : Rows C D S) (c now : Int) (Rl Sf : List Int) : ∀ (d i : Nat), i + d = S.length → LOK cfg none (lb 4 0) ((i6 c) :: (i6 now) :: (.sl 6 (p_ 80) m) :: (.sl 1 (p_ 81) Rl.length) :: (.sl 1 (p_ 82) Sf.length) :: u_ :: u_ :: u_ :: u_ :: u_ :: u_ :: (.ptr (p_ 84)) :: (n6 i) :: us 140) (hA C S X [.cells false ((Rl).map (V.int .u8)), .cells false ((Sf).map (V.int .u8)), c1 [(.sl 2 (p_ 85) 1), (i6 8), (i6 0), (i6 1), (i6 0)], c1 [(.bool true), (i6 now), (i6 c), (.ptr (p_ 83)), (i6 1)], c1 [(i6 now), (i6 c)]]) (.exit 0) ((i6 c) :: (i6 now) :: u_ :: (.sl 1 (p_ 81) Rl.length) :: (.sl 1 (p_ 82) Sf.length) :: u_ :: u_ :: u_ :: u_ :: u_ :: u_ :: (.ptr (p_ 84)) :: us 141) (hA C S X [.cells false ((Rl).map (V.int .u8)), .cells false ((Sf).map (V.int .u8)), c1 [(.sl 2 (p_ 85) 1), (i6 8), (i6 0), (i6 1), (i6 0)], c1 [(.bool true), (i6 now), (i6 c), (.ptr (p_ 83)), (i6 1)], c1 [(i6 now), (i6 c)]]) := by
  intro d
  induction d with
  | zero =>
    intro i hi
    by_cases h40 : i < m
    · exact ly_ss S X C D hC hR i m c now Rl Sf (decide_eq_true (by omega)) (decide_eq_false (by omega))
    · exact lx_ss S X C D hC hR i m c now Rl Sf (decide_eq_false (by omega))
  | succ d IH =>
    intro i hd
    have ih := IH (i + 1) (by omega)
    have hi : i < S.length := by omega
    rcases hr.a i hi with ⟨p4, n4, _⟩ | ⟨p4, n4, b4, c4⟩
    · rcases hr.b i hi with ⟨p5, n5, _⟩ | ⟨p5, n5, b5, c5⟩
      · exact (ls_ss_NN S X C D hC hR i (by omega) (by omega) m c now Rl Sf p4 n4 p5 n5 hi (decide_eq_true (by omega)) (decide_eq_true (by omega)) (by omega) (by simp) (by rw [wrap_i64 (by omega)]; omega) ih)
      · exact (ls_ss_NS S X C D hC hR i (by omega) (by omega) m c now Rl Sf p4 n4 c5 p5 hi (decide_eq_true (by omega)) (decide_eq_true (by omega)) (by omega) b5 n5 n5 (by simp) (by simp) (by rw [wrap_i64 (by omega)]; omega) ih)
    · rcases hr.b i hi with ⟨p5, n5, _⟩ | ⟨p5, n5, b5, c5⟩
      · exact (ls_ss_SN S X C D hC hR i (by omega) (by omega) m c now Rl Sf c4 p4 p5 n5 hi (decide_eq_true (by omega)) (decide_eq_true (by omega)) (by omega) (by simp) (by rw [wrap_i64 (by omega)]; omega) ih)
      · exact (ls_ss_SS S X C D hC hR i (by omega) (by omega) m c now Rl Sf c4 p4 c5 p5 hi (decide_eq_true (by omega)) (decide_eq_true (by omega)) (by omega) b5 n5 n5 (by simp) (by simp) (by rw [wrap_i64 (by omega)]; omega) ih)

theorem un_nne (c now : Int) (Rl Sf : List Int)  (h0 : (!(knB c)) = true) (h1 : (!(false == (knB c))) = false) : OK cfg (.fn 4 []) [(i6 c), (i6 now), (.sl 6 none 0), (.sl 1 none 0), (.sl 1 none 0)] [] (.bool true) [] :=
  (OK.rd (fv1 := (.fn 4 [])) (args1 := [(i6 c), (i6 now), (.sl 6 none 0), (.sl 1 none 0), (.sl 1 none 0)]) (v1 := (.bool true)) (u_nne c now Rl Sf h0 h1) [] [none, none, none, none, none, none, none, none, none, none] [] (by kernel_rfl) (by kernel_rfl) (by kernel_rfl) trivial VE.R (.c VE.R (.c VE.R (.c .q (.c VE.R (.c VE.R .nil))))) VE.R)

theorem uv_nne (c now : Int) (Rl Sf : List Int)  (h0 : (!(knB c)) = true) (h1 : (!(false == (knB c))) = false) : OK cfg (.fn 4 []) [(i6 c), (i6 now), (.sl 6 (p_ 0) 0), (.sl 1 none 0), (.sl 1 none 0)] [.void] (.bool true) [.void] :=
  (OK.rd (fv1 := (.fn 4 [])) (args1 := [(i6 c), (i6 now), (.sl 6 (p_ 0) 0), (.sl 1 none 0), (.sl 1 none 0)]) (v1 := (.bool true)) (u_nne c now Rl Sf h0 h1) [] [none, none, none, none, none, none, none, none, none, none] [.void] (by kernel_rfl) (by kernel_rfl) (by kernel_rfl) trivial VE.R (.c VE.R (.c VE.R (.c .q (.c VE.R (.c VE.R .nil))))) VE.R)

theorem un_nve (c now : Int) (Rl Sf : List Int)  (h0 : (!(knB c)) = true) (h1 : (!(false == (knB c))) = false) : OK cfg (.fn 4 []) [(i6 c), (i6 now), (.sl 6 none 0), (.sl 1 none 0), (.sl 1 (p_ 0) 0)] [.void] (.bool true) [.void] :=
  (OK.rd (fv1 := (.fn 4 [])) (args1 := [(i6 c), (i6 now), (.sl 6 none 0), (.sl 1 none 0), (.sl 1 (p_ 0) 0)]) (v1 := (.bool true)) (u_nve c now Rl Sf h0 h1) [p_ 0] [p_ 0, none, none, none, none, none, none, none, none, none, none] [.void] (by kernel_rfl) (by kernel_rfl) (by kernel_rfl) ⟨⟨0, rfl, rfl⟩, trivial⟩ VE.R (.c VE.R (.c VE.R (.c .q (.c VE.R (.c VE.R .nil))))) VE.R)

theorem uv_nve (c now : Int) (Rl Sf : List Int)  (h0 : (!(knB c)) = true) (h1 : (!(false == (knB c))) = false) : OK cfg (.fn 4 []) [(i6 c), (i6 now), (.sl 6 (p_ 0) 0), (.sl 1 none 0), (.sl 1 (p_ 1) 0)] [.void, .void] (.bool true) [.void, .void] :=
  (OK.rd (fv1 := (.fn 4 [])) (args1 := [(i6 c), (i6 now), (.sl 6 (p_ 0) 0), (.sl 1 none 0), (.sl 1 (p_ 1) 0)]) (v1 := (.bool true)) (u_nve c now Rl Sf h0 h1) [p_ 1] [p_ 1, none, none, none, none, none, none, none, none, none, none] [.void, .void] (by kernel_rfl) (by kernel_rfl) (by kernel_rfl) ⟨⟨1, rfl, rfl⟩, trivial⟩ VE.R (.c VE.R (.c VE.R (.c .q (.c VE.R (.c VE.R .nil))))) VE.R)

theorem un_nre (c now : Int) (Rl Sf : List Int)  (h0 : ((0 : Int) == ((Sf.length : Nat) : Int)) = true) (h1 : ((0 : Int) != ((Sf.length : Nat) : Int)) = false) (h2 : (!(knB c)) = true) (h3 : (!(false == (knB c))) = false) : OK cfg (.fn 4 []) [(i6 c), (i6 now), (.sl 6 none 0), (.sl 1 none 0), (.sl 1 (p_ 0) Sf.length)] [.cells false ((Sf).map (V.int .u8))] (.bool true) [.cells false ((Sf).map (V.int .u8))] :=
  (OK.rd (fv1 := (.fn 4 [])) (args1 := [(i6 c), (i6 now), (.sl 6 none 0), (.sl 1 none 0), (.sl 1 (p_ 0) Sf.length)]) (v1 := (.bool true)) (u_nre c now Rl Sf h0 h1 h2 h3) [p_ 0] [p_ 0, none, none, none, none, none, none, none, none, none, none] [.cells false ((Sf).map (V.int .u8))] (by kernel_rfl) (by kernel_rfl) (by kernel_rfl) ⟨⟨0, 0, false, ((Sf).map (V.int .u8)), rfl, rfl, rI⟩, trivial⟩ VE.R (.c VE.R (.c VE.R (.c .q (.c VE.R (.c VE.R .nil))))) VE.R)

noncomputable abbrev h5h0 (Sf : List Int) : Heap := [.void, .cells false ((Sf).map (V.int .u8))]
theorem uv_nre (c now : Int) (Rl Sf : List Int)  (h0 : ((0 : Int) == ((Sf.length : Nat) : Int)) = true) (h1 : ((0 : Int) != ((Sf.length : Nat) : Int)) = false) (h2 : (!(knB c)) = true) (h3 : (!(false == (knB c))) = false) : OK cfg (.fn 4 []) [(i6 c), (i6 now), (.sl 6 (p_ 0) 0), (.sl 1 none 0), (.sl 1 (p_ 1) Sf.length)] [.void, .cells false ((Sf).map (V.int .u8))] (.bool true) [.void, .cells false ((Sf).map (V.int .u8))] :=
  (OK.rd (fv1 := (.fn 4 [])) (args1 := [(i6 c), (i6 now), (.sl 6 (p_ 0) 0), (.sl 1 none 0), (.sl 1 (p_ 1) Sf.length)]) (v1 := (.bool true)) (u_nre c now Rl Sf h0 h1 h2 h3) [p_ 1] [p_ 1, none, none, none, none, none, none, none, none, none, none] (h5h0 Sf) (by kernel_rfl) (by kernel_rfl) (by kernel_rfl) ⟨⟨1, 0, false, ((Sf).map (V.int .u8)), rfl, rfl, rI⟩, trivial⟩ VE.R (.c VE.R (.c VE.R (.c .q (.c VE.R (.c VE.R .nil))))) VE.R)

theorem un_nrd (c now : Int) (Rl Sf : List Int)  (h0 : ((0 : Int) == ((Sf.length : Nat) : Int)) = false) (h1 : (!(knB c)) = true) (h2 : (!(false == (knB c))) = false) : OK cfg (.fn 4 []) [(i6 c), (i6 now), (.sl 6 none 0), (.sl 1 none 0), (.sl 1 (p_ 0) Sf.length)] [.cells false ((Sf).map (V.int .u8))] (.bool true) [.cells false ((Sf).map (V.int .u8))] :=
  (OK.rd (fv1 := (.fn 4 [])) (args1 := [(i6 c), (i6 now), (.sl 6 none 0), (.sl 1 none 0), (.sl 1 (p_ 0) Sf.length)]) (v1 := (.bool true)) (u_nrd c now Rl Sf h0 h1 h2) [p_ 0] [p_ 0, none, none, none, none, none, none, none, none, none] [.cells false ((Sf).map (V.int .u8))] (by kernel_rfl) (by kernel_rfl) (by kernel_rfl) ⟨⟨0, 0, false, ((Sf).map (V.int .u8)), rfl, rfl, rI⟩, trivial⟩ VE.R (.c VE.R (.c VE.R (.c .q (.c VE.R (.c VE.R .nil))))) VE.R)

theorem uv_nrd (c now : Int) (Rl Sf : List Int)  (h0 : ((0 : Int) == ((Sf.length : Nat) : Int)) = false) (h1 : (!(knB c)) = true) (h2 : (!(false == (knB c))) = false) : OK cfg (.fn 4 []) [(i6 c), (i6 now), (.sl 6 (p_ 0) 0), (.sl 1 none 0), (.sl 1 (p_ 1) Sf.length)] [.void, .cells false ((Sf).map (V.int .u8))] (.bool true) [.void, .cells false ((Sf).map (V.int .u8))] :=
  (OK.rd (fv1 := (.fn 4 [])) (args1 := [(i6 c), (i6 now), (.sl 6 (p_ 0) 0), (.sl 1 none 0), (.sl 1 (p_ 1) Sf.length)]) (v1 := (.bool true)) (u_nrd c now Rl Sf h0 h1 h2) [p_ 1] [p_ 1, none, none, none, none, none, none, none, none, none] (h5h0 Sf) (by kernel_rfl) (by kernel_rfl) (by kernel_rfl) ⟨⟨1, 0, false, ((Sf).map (V.int .u8)), rfl, rfl, rI⟩, trivial⟩ VE.R (.c VE.R (.c VE.R (.c .q (.c VE.R (.c VE.R .nil))))) VE.R)

theorem un_vne (c now : Int) (Rl Sf : List Int)  (h0 : (!(knB c)) = true) (h1 : (!(false == (knB c))) = false) : OK cfg (.fn 4 []) [(i6 c), (i6 now), (.sl 6 none 0), (.sl 1 (p_ 0) 0), (.sl 1 none 0)] [.void] (.bool true) [.void] :=
  (OK.rd (fv1 := (.fn 4 [])) (args1 := [(i6 c), (i6 now), (.sl 6 none 0), (.sl 1 (p_ 0) 0), (.sl 1 none 0)]) (v1 := (.bool true)) (u_vne c now Rl Sf h0 h1) [p_ 0] [p_ 0, none, none, none, none, none, none, none, none, none, none, none] [.void] (by kernel_rfl) (by kernel_rfl) (by kernel_rfl) ⟨⟨0, rfl, rfl⟩, trivial⟩ VE.R (.c VE.R (.c VE.R (.c .q (.c VE.R (.c VE.R .nil))))) VE.R)

theorem uv_vne (c now : Int) (Rl Sf : List Int)  (h0 : (!(knB c)) = true) (h1 : (!(false == (knB c))) = false) : OK cfg (.fn 4 []) [(i6 c), (i6 now), (.sl 6 (p_ 0) 0), (.sl 1 (p_ 1) 0), (.sl 1 none 0)] [.void, .void] (.bool true) [.void, .void] :=
  (OK.rd (fv1 := (.fn 4 [])) (args1 := [(i6 c), (i6 now), (.sl 6 (p_ 0) 0), (.sl 1 (p_ 1) 0), (.sl 1 none 0)]) (v1 := (.bool true)) (u_vne c now Rl Sf h0 h1) [p_ 1] [p_ 1, none, none, none, none, none, none, none, none, none, none, none] [.void, .void] (by kernel_rfl) (by kernel_rfl) (by kernel_rfl) ⟨⟨1, rfl, rfl⟩, trivial⟩ VE.R (.c VE.R (.c VE.R (.c .q (.c VE.R (.c VE.R .nil))))) VE.R)

theorem un_vve (c now : Int) (Rl Sf : List Int)  (h0 : (!(knB c)) = true) (h1 : (!(false == (knB c))) = false) : OK cfg (.fn 4 []) [(i6 c), (i6 now), (.sl 6 none 0), (.sl 1 (p_ 0) 0), (.sl 1 (p_ 1) 0)] [.void, .void] (.bool true) [.void, .void] :=
  (OK.rd (fv1 := (.fn 4 [])) (args1 := [(i6 c), (i6 now), (.sl 6 none 0), (.sl 1 (p_ 0) 0), (.sl 1 (p_ 1) 0)]) (v1 := (.bool true)) (u_vve c now Rl Sf h0 h1) [p_ 0, p_ 1] [p_ 0, p_ 1, none, none, none, none, none, none, none, none, none, none, none] [.void, .void] (by kernel_rfl) (by kernel_rfl) (by kernel_rfl) ⟨⟨0, rfl, rfl⟩, ⟨⟨1, rfl, rfl⟩, trivial⟩⟩ VE.R (.c VE.R (.c VE.R (.c .q (.c VE.R (.c VE.R .nil))))) VE.R)

theorem uv_vve (c now : Int) (Rl Sf : List Int)  (h0 : (!(knB c)) = true) (h1 : (!(false == (knB c))) = false) : OK cfg (.fn 4 []) [(i6 c), (i6 now), (.sl 6 (p_ 0) 0), (.sl 1 (p_ 1) 0), (.sl 1 (p_ 2) 0)] [.void, .void, .void] (.bool true) [.void, .void, .void] :=
  (OK.rd (fv1 := (.fn 4 [])) (args1 := [(i6 c), (i6 now), (.sl 6 (p_ 0) 0), (.sl 1 (p_ 1) 0), (.sl 1 (p_ 2) 0)]) (v1 := (.bool true)) (u_vve c now Rl Sf h0 h1) [p_ 1, p_ 2] [p_ 1, p_ 2, none, none, none, none, none, none, none, none, none, none, none] [.void, .void, .void] (by kernel_rfl) (by kernel_rfl) (by kernel_rfl) ⟨⟨1, rfl, rfl⟩, ⟨⟨2, rfl, rfl⟩, trivial⟩⟩ VE.R (.c VE.R (.c VE.R (.c .q (.c VE.R (.c VE.R .nil))))) VE.R)

theorem un_vre (c now : Int) (Rl Sf : List Int)  (h0 : ((0 : Int) == ((Sf.length : Nat) : Int)) = true) (h1 : ((0 : Int) != ((Sf.length : Nat) : Int)) = false) (h2 : (!(knB c)) = true) (h3 : (!(false == (knB c))) = false) : OK cfg (.fn 4 []) [(i6 c), (i6 now), (.sl 6 none 0), (.sl 1 (p_ 0) 0), (.sl 1 (p_ 1) Sf.length)] [.void, .cells false ((Sf).map (V.int .u8))] (.bool true) [.void, .cells false ((Sf).map (V.int .u8))] :=
  (OK.rd (fv1 := (.fn 4 [])) (args1 := [(i6 c), (i6 now), (.sl 6 none 0), (.sl 1 (p_ 0) 0), (.sl 1 (p_ 1) Sf.length)]) (v1 := (.bool true)) (u_vre c now Rl Sf h0 h1 h2 h3) [p_ 0, p_ 1] [p_ 0, p_ 1, none, none, none, none, none, none, none, none, none, none, none] (h5h0 Sf) (by kernel_rfl) (by kernel_rfl) (by kernel_rfl) ⟨⟨0, rfl, rfl⟩, ⟨⟨1, 0, false, ((Sf).map (V.int .u8)), rfl, rfl, rI⟩, trivial⟩⟩ VE.R (.c VE.R (.c VE.R (.c .q (.c VE.R (.c VE.R .nil))))) VE.R)

theorem uv_vre (c now : Int) (Rl Sf : List Int)  (h0 : ((0 : Int) == ((Sf.length : Nat) : Int)) = true) (h1 : ((0 : Int) != ((Sf.length : Nat) : Int)) = false) (h2 : (!(knB c)) = true) (h3 : (!(false == (knB c))) = false) : OK cfg (.fn 4 []) [(i6 c), (i6 now), (.sl 6 (p_ 0) 0), (.sl 1 (p_ 1) 0), (.sl 1 (p_ 2) Sf.length)] [.void, .void, .cells false ((Sf).map (V.int .u8))] (.bool true) [.void, .void, .cells false ((Sf).map (V.int .u8))] :=
  (OK.rd (fv1 := (.fn 4 [])) (args1 := [(i6 c), (i6 now), (.sl 6 (p_ 0) 0), (.sl 1 (p_ 1) 0), (.sl 1 (p_ 2) Sf.length)]) (v1 := (.bool true)) (u_vre c now Rl Sf h0 h1 h2 h3) [p_ 1, p_ 2] [p_ 1, p_ 2, none, none, none, none, none, none, none, none, none, none, none] [.void, .void, .cells false ((Sf).map (V.int .u8))] (by kernel_rfl) (by kernel_rfl) (by kernel_rfl) ⟨⟨1, rfl, rfl⟩, ⟨⟨2, 0, false, ((Sf).map (V.int .u8)), rfl, rfl, rI⟩, trivial⟩⟩ VE.R (.c VE.R (.c VE.R (.c .q (.c VE.R (.c VE.R .nil))))) VE.R)

theorem un_vrd (c now : Int) (Rl Sf : List Int)  (h0 : ((0 : Int) == ((Sf.length : Nat) : Int)) = false) (h1 : (!(knB c)) = true) (h2 : (!(false == (knB c))) = false) : OK cfg (.fn 4 []) [(i6 c), (i6 now), (.sl 6 none 0), (.sl 1 (p_ 0) 0), (.sl 1 (p_ 1) Sf.length)] [.void, .cells false ((Sf).map (V.int .u8))] (.bool true) [.void, .cells false ((Sf).map (V.int .u8))] :=
  (OK.rd (fv1 := (.fn 4 [])) (args1 := [(i6 c), (i6 now), (.sl 6 none 0), (.sl 1 (p_ 0) 0), (.sl 1 (p_ 1) Sf.length)]) (v1 := (.bool true)) (u_vrd c now Rl Sf h0 h1 h2) [p_ 0, p_ 1] [p_ 0, p_ 1, none, none, none, none, none, none, none, none, none] (h5h0 Sf) (by kernel_rfl) (by kernel_rfl) (by kernel_rfl) ⟨⟨0, rfl, rfl⟩, ⟨⟨1, 0, false, ((Sf).map (V.int .u8)), rfl, rfl, rI⟩, trivial⟩⟩ VE.R (.c VE.R (.c VE.R (.c .q (.c VE.R (.c VE.R .nil))))) VE.R)

theorem uv_vrd (c now : Int) (Rl Sf : List Int)  (h0 : ((0 : Int) == ((Sf.length : Nat) : Int)) = false) (h1 : (!(knB c)) = true) (h2 : (!(false == (knB c))) = false) : OK cfg (.fn 4 []) [(i6 c), (i6 now), (.sl 6 (p_ 0) 0), (.sl 1 (p_ 1) 0), (.sl 1 (p_ 2) Sf.length)] [.void, .void, .cells false ((Sf).map (V.int .u8))] (.bool true) [.void, .void, .cells false ((Sf).map (V.int .u8))] :=
  (OK.rd (fv1 := (.fn 4 [])) (args1 := [(i6 c), (i6 now), (.sl 6 (p_ 0) 0), (.sl 1 (p_ 1) 0), (.sl 1 (p_ 2) Sf.length)]) (v1 := (.bool true)) (u_vrd c now Rl Sf h0 h1 h2) [p_ 1, p_ 2] [p_ 1, p_ 2, none, none, none, none, none, none, none, none, none] [.void, .void, .cells false ((Sf).map (V.int .u8))] (by kernel_rfl) (by kernel_rfl) (by kernel_rfl) ⟨⟨1, rfl, rfl⟩, ⟨⟨2, 0, false, ((Sf).map (V.int .u8)), rfl, rfl, rI⟩, trivial⟩⟩ VE.R (.c VE.R (.c VE.R (.c .q (.c VE.R (.c VE.R .nil))))) VE.R)

theorem un_rne (c now : Int) (Rl Sf : List Int)  (h0 : ((((Rl.length : Nat) : Int) : Int) == 0) = true) (h1 : ((((Rl.length : Nat) : Int) : Int) != 0) = false) (h2 : Rl.length ≤ 140737488355328) (h3 : (!((bytesOfInts Rl).toList == (bytesOfInts Rl).toList)) = false) (h4 : (!(knB c)) = true) (h5 : (!(false == (knB c))) = false) : OK cfg (.fn 4 []) [(i6 c), (i6 now), (.sl 6 none 0), (.sl 1 (p_ 0) Rl.length), (.sl 1 none 0)] [.cells false ((Rl).map (V.int .u8))] (.bool true) [.cells false ((Rl).map (V.int .u8))] :=
  (OK.rd (fv1 := (.fn 4 [])) (args1 := [(i6 c), (i6 now), (.sl 6 none 0), (.sl 1 (p_ 0) Rl.length), (.sl 1 none 0)]) (v1 := (.bool true)) (u_rne c now Rl Sf h0 h1 h2 h3 h4 h5) [p_ 0] [p_ 0, none, none, none, none, none, none, none, none, none, none, none] [.cells false ((Rl).map (V.int .u8))] (by kernel_rfl) (by kernel_rfl) (by kernel_rfl) ⟨⟨0, 0, false, ((Rl).map (V.int .u8)), rfl, rfl, rI⟩, trivial⟩ VE.R (.c VE.R (.c VE.R (.c .q (.c VE.R (.c VE.R .nil))))) VE.R)

theorem uv_rne (c now : Int) (Rl Sf : List Int)  (h0 : ((((Rl.length : Nat) : Int) : Int) == 0) = true) (h1 : ((((Rl.length : Nat) : Int) : Int) != 0) = false) (h2 : Rl.length ≤ 140737488355328) (h3 : (!((bytesOfInts Rl).toList == (bytesOfInts Rl).toList)) = false) (h4 : (!(knB c)) = true) (h5 : (!(false == (knB c))) = false) : OK cfg (.fn 4 []) [(i6 c), (i6 now), (.sl 6 (p_ 0) 0), (.sl 1 (p_ 1) Rl.length), (.sl 1 none 0)] [.void, .cells false ((Rl).map (V.int .u8))] (.bool true) [.void, .cells false ((Rl).map (V.int .u8))] :=
  (OK.rd (fv1 := (.fn 4 [])) (args1 := [(i6 c), (i6 now), (.sl 6 (p_ 0) 0), (.sl 1 (p_ 1) Rl.length), (.sl 1 none 0)]) (v1 := (.bool true)) (u_rne c now Rl Sf h0 h1 h2 h3 h4 h5) [p_ 1] [p_ 1, none, none, none, none, none, none, none, none, none, none, none] [.void, .cells false ((Rl).map (V.int .u8))] (by kernel_rfl) (by kernel_rfl) (by kernel_rfl) ⟨⟨1, 0, false, ((Rl).map (V.int .u8)), rfl, rfl, rI⟩, trivial⟩ VE.R (.c VE.R (.c VE.R (.c .q (.c VE.R (.c VE.R .nil))))) VE.R)

theorem un_rnd (c now : Int) (Rl Sf : List Int)  (h0 : ((((Rl.length : Nat) : Int) : Int) == 0) = false) (h1 : (!(knB c)) = true) (h2 : (!(false == (knB c))) = false) : OK cfg (.fn 4 []) [(i6 c), (i6 now), (.sl 6 none 0), (.sl 1 (p_ 0) Rl.length), (.sl 1 none 0)] [.cells false ((Rl).map (V.int .u8))] (.bool true) [.cells false ((Rl).map (V.int .u8))] :=
  (OK.rd (fv1 := (.fn 4 [])) (args1 := [(i6 c), (i6 now), (.sl 6 none 0), (.sl 1 (p_ 0) Rl.length), (.sl 1 none 0)]) (v1 := (.bool true)) (u_rnd c now Rl Sf h0 h1 h2) [p_ 0] [p_ 0, none, none, none, none, none, none, none, none, none] [.cells false ((Rl).map (V.int .u8))] (by kernel_rfl) (by kernel_rfl) (by kernel_rfl) ⟨⟨0, 0, false, ((Rl).map (V.int .u8)), rfl, rfl, rI⟩, trivial⟩ VE.R (.c VE.R (.c VE.R (.c .q (.c VE.R (.c VE.R .nil))))) VE.R)

theorem uv_rnd (c now : Int) (Rl Sf : List Int)  (h0 : ((((Rl.length : Nat) : Int) : Int) == 0) = false) (h1 : (!(knB c)) = true) (h2 : (!(false == (knB c))) = false) : OK cfg (.fn 4 []) [(i6 c), (i6 now), (.sl 6 (p_ 0) 0), (.sl 1 (p_ 1) Rl.length), (.sl 1 none 0)] [.void, .cells false ((Rl).map (V.int .u8))] (.bool true) [.void, .cells false ((Rl).map (V.int .u8))] :=
  (OK.rd (fv1 := (.fn 4 [])) (args1 := [(i6 c), (i6 now), (.sl 6 (p_ 0) 0), (.sl 1 (p_ 1) Rl.length), (.sl 1 none 0)]) (v1 := (.bool true)) (u_rnd c now Rl Sf h0 h1 h2) [p_ 1] [p_ 1, none, none, none, none, none, none, none, none, none] [.void, .cells false ((Rl).map (V.int .u8))] (by kernel_rfl) (by kernel_rfl) (by kernel_rfl) ⟨⟨1, 0, false, ((Rl).map (V.int .u8)), rfl, rfl, rI⟩, trivial⟩ VE.R (.c VE.R (.c VE.R (.c .q (.c VE.R (.c VE.R .nil))))) VE.R)

theorem un_rve (c now : Int) (Rl Sf : List Int)  (h0 : ((((Rl.length : Nat) : Int) : Int) == 0) = true) (h1 : ((((Rl.length : Nat) : Int) : Int) != 0) = false) (h2 : Rl.length ≤ 140737488355328) (h3 : (!((bytesOfInts Rl).toList == (bytesOfInts Rl).toList)) = false) (h4 : (!(knB c)) = true) (h5 : (!(false == (knB c))) = false) : OK cfg (.fn 4 []) [(i6 c), (i6 now), (.sl 6 none 0), (.sl 1 (p_ 0) Rl.length), (.sl 1 (p_ 1) 0)] [.cells false ((Rl).map (V.int .u8)), .void] (.bool true) [.cells false ((Rl).map (V.int .u8)), .void] :=
  (OK.rd (fv1 := (.fn 4 [])) (args1 := [(i6 c), (i6 now), (.sl 6 none 0), (.sl 1 (p_ 0) Rl.length), (.sl 1 (p_ 1) 0)]) (v1 := (.bool true)) (u_rve c now Rl Sf h0 h1 h2 h3 h4 h5) [p_ 0, p_ 1] [p_ 0, p_ 1, none, none, none, none, none, none, none, none, none, none, none] [.cells false ((Rl).map (V.int .u8)), .void] (by kernel_rfl) (by kernel_rfl) (by kernel_rfl) ⟨⟨0, 0, false, ((Rl).map (V.int .u8)), rfl, rfl, rI⟩, ⟨⟨1, rfl, rfl⟩, trivial⟩⟩ VE.R (.c VE.R (.c VE.R (.c .q (.c VE.R (.c VE.R .nil))))) VE.R)

theorem uv_rve (c now : Int) (Rl Sf : List Int)  (h0 : ((((Rl.length : Nat) : Int) : Int) == 0) = true) (h1 : ((((Rl.length : Nat) : Int) : Int) != 0) = false) (h2 : Rl.length ≤ 140737488355328) (h3 : (!((bytesOfInts Rl).toList == (bytesOfInts Rl).toList)) = false) (h4 : (!(knB c)) = true) (h5 : (!(false == (knB c))) = false) : OK cfg (.fn 4 []) [(i6 c), (i6 now), (.sl 6 (p_ 0) 0), (.sl 1 (p_ 1) Rl.length), (.sl 1 (p_ 2) 0)] [.void, .cells false ((Rl).map (V.int .u8)), .void] (.bool true) [.void, .cells false ((Rl).map (V.int .u8)), .void] :=
  (OK.rd (fv1 := (.fn 4 [])) (args1 := [(i6 c), (i6 now), (.sl 6 (p_ 0) 0), (.sl 1 (p_ 1) Rl.length), (.sl 1 (p_ 2) 0)]) (v1 := (.bool true)) (u_rve c now Rl Sf h0 h1 h2 h3 h4 h5) [p_ 1, p_ 2] [p_ 1, p_ 2, none, none, none, none, none, none, none, none, none, none, none] [.void, .cells false ((Rl).map (V.int .u8)), .void] (by kernel_rfl) (by kernel_rfl) (by kernel_rfl) ⟨⟨1, 0, false, ((Rl).map (V.int .u8)), rfl, rfl, rI⟩, ⟨⟨2, rfl, rfl⟩, trivial⟩⟩ VE.R (.c VE.R (.c VE.R (.c .q (.c VE.R (.c VE.R .nil))))) VE.R)

theorem un_rvd (c now : Int) (Rl Sf : List Int)  (h0 : ((((Rl.length : Nat) : Int) : Int) == 0) = false) (h1 : (!(knB c)) = true) (h2 : (!(false == (knB c))) = false) : OK cfg (.fn 4 []) [(i6 c), (i6 now), (.sl 6 none 0), (.sl 1 (p_ 0) Rl.length), (.sl 1 (p_ 1) 0)] [.cells false ((Rl).map (V.int .u8)), .void] (.bool true) [.cells false ((Rl).map (V.int .u8)), .void] :=
  (OK.rd (fv1 := (.fn 4 [])) (args1 := [(i6 c), (i6 now), (.sl 6 none 0), (.sl 1 (p_ 0) Rl.length), (.sl 1 (p_ 1) 0)]) (v1 := (.bool true)) (u_rvd c now Rl Sf h0 h1 h2) [p_ 0, p_ 1] [p_ 0, p_ 1, none, none, none, none, none, none, none, none, none] [.cells false ((Rl).map (V.int .u8)), .void] (by kernel_rfl) (by kernel_rfl) (by kernel_rfl) ⟨⟨0, 0, false, ((Rl).map (V.int .u8)), rfl, rfl, rI⟩, ⟨⟨1, rfl, rfl⟩, trivial⟩⟩ VE.R (.c VE.R (.c VE.R (.c .q (.c VE.R (.c VE.R .nil))))) VE.R)

theorem uv_rvd (c now : Int) (Rl Sf : List Int)  (h0 : ((((Rl.length : Nat) : Int) : Int) == 0) = false) (h1 : (!(knB c)) = true) (h2 : (!(false == (knB c))) = false) : OK cfg (.fn 4 []) [(i6 c), (i6 now), (.sl 6 (p_ 0) 0), (.sl 1 (p_ 1) Rl.length), (.sl 1 (p_ 2) 0)] [.void, .cells false ((Rl).map (V.int .u8)), .void] (.bool true) [.void, .cells false ((Rl).map (V.int .u8)), .void] :=
  (OK.rd (fv1 := (.fn 4 [])) (args1 := [(i6 c), (i6 now), (.sl 6 (p_ 0) 0), (.sl 1 (p_ 1) Rl.length), (.sl 1 (p_ 2) 0)]) (v1 := (.bool true)) (u_rvd c now Rl Sf h0 h1 h2) [p_ 1, p_ 2] [p_ 1, p_ 2, none, none, none, none, none, none, none, none, none] [.void, .cells false ((Rl).map (V.int .u8)), .void] (by kernel_rfl) (by kernel_rfl) (by kernel_rfl) ⟨⟨1, 0, false, ((Rl).map (V.int .u8)), rfl, rfl, rI⟩, ⟨⟨2, rfl, rfl⟩, trivial⟩⟩ VE.R (.c VE.R (.c VE.R (.c .q (.c VE.R (.c VE.R .nil))))) VE.R)

noncomputable abbrev h5h1 (Rl : List Int) (Sf : List Int) : Heap := [.cells false ((Rl).map (V.int .u8)), .cells false ((Sf).map (V.int .u8))]
theorem un_rre (c now : Int) (Rl Sf : List Int)  (h0 : ((((Rl.length : Nat) : Int) : Int) == ((Sf.length : Nat) : Int)) = true) (h1 : ((((Rl.length : Nat) : Int) : Int) != ((Sf.length : Nat) : Int)) = false) (h2 : Rl.length ≤ 140737488355328) (h3 : (!((bytesOfInts Rl).toList == (bytesOfInts Rl).toList)) = false) (h4 : (!(knB c)) = true) (h5 : (!(false == (knB c))) = false) : OK cfg (.fn 4 []) [(i6 c), (i6 now), (.sl 6 none 0), (.sl 1 (p_ 0) Rl.length), (.sl 1 (p_ 1) Sf.length)] [.cells false ((Rl).map (V.int .u8)), .cells false ((Sf).map (V.int .u8))] (.bool true) [.cells false ((Rl).map (V.int .u8)), .cells false ((Sf).map (V.int .u8))] :=
  (OK.rd (fv1 := (.fn 4 [])) (args1 := [(i6 c), (i6 now), (.sl 6 none 0), (.sl 1 (p_ 0) Rl.length), (.sl 1 (p_ 1) Sf.length)]) (v1 := (.bool true)) (u_rre c now Rl Sf h0 h1 h2 h3 h4 h5) [p_ 0, p_ 1] [p_ 0, p_ 1, none, none, none, none, none, none, none, none, none, none, none] (h5h1 Rl Sf) (by kernel_rfl) (by kernel_rfl) (by kernel_rfl) ⟨⟨0, 0, false, ((Rl).map (V.int .u8)), rfl, rfl, rI⟩, ⟨⟨1, 0, false, ((Sf).map (V.int .u8)), rfl, rfl, rI⟩, trivial⟩⟩ VE.R (.c VE.R (.c VE.R (.c .q (.c VE.R (.c VE.R .nil))))) VE.R)

theorem uv_rre (c now : Int) (Rl Sf : List Int)  (h0 : ((((Rl.length : Nat) : Int) : Int) == ((Sf.length : Nat) : Int)) = true) (h1 : ((((Rl.length : Nat) : Int) : Int) != ((Sf.length : Nat) : Int)) = false) (h2 : Rl.length ≤ 140737488355328) (h3 : (!((bytesOfInts Rl).toList == (bytesOfInts Rl).toList)) = false) (h4 : (!(knB c)) = true) (h5 : (!(false == (knB c))) = false) : OK cfg (.fn 4 []) [(i6 c), (i6 now), (.sl 6 (p_ 0) 0), (.sl 1 (p_ 1) Rl.length), (.sl 1 (p_ 2) Sf.length)] [.void, .cells false ((Rl).map (V.int .u8)), .cells false ((Sf).map (V.int .u8))] (.bool true) [.void, .cells false ((Rl).map (V.int .u8)), .cells false ((Sf).map (V.int .u8))] :=
  (OK.rd (fv1 := (.fn 4 [])) (args1 := [(i6 c), (i6 now), (.sl 6 (p_ 0) 0), (.sl 1 (p_ 1) Rl.length), (.sl 1 (p_ 2) Sf.length)]) (v1 := (.bool true)) (u_rre c now Rl Sf h0 h1 h2 h3 h4 h5) [p_ 1, p_ 2] [p_ 1, p_ 2, none, none, none, none, none, none, none, none, none, none, none] [.void, .cells false ((Rl).map (V.int .u8)), .cells false ((Sf).map (V.int .u8))] (by kernel_rfl) (by kernel_rfl) (by kernel_rfl) ⟨⟨1, 0, false, ((Rl).map (V.int .u8)), rfl, rfl, rI⟩, ⟨⟨2, 0, false, ((Sf).map (V.int .u8)), rfl, rfl, rI⟩, trivial⟩⟩ VE.R (.c VE.R (.c VE.R (.c .q (.c VE.R (.c VE.R .nil))))) VE.R)

theorem un_rrd (c now : Int) (Rl Sf : List Int)  (h0 : ((((Rl.length : Nat) : Int) : Int) == ((Sf.length : Nat) : Int)) = false) (h1 : (!(knB c)) = true) (h2 : (!(false == (knB c))) = false) : OK cfg (.fn 4 []) [(i6 c), (i6 now), (.sl 6 none 0), (.sl 1 (p_ 0) Rl.length), (.sl 1 (p_ 1) Sf.length)] [.cells false ((Rl).map (V.int .u8)), .cells false ((Sf).map (V.int .u8))] (.bool true) [.cells false ((Rl).map (V.int .u8)), .cells false ((Sf).map (V.int .u8))] :=
  (OK.rd (fv1 := (.fn 4 [])) (args1 := [(i6 c), (i6 now), (.sl 6 none 0), (.sl 1 (p_ 0) Rl.length), (.sl 1 (p_ 1) Sf.length)]) (v1 := (.bool true)) (u_rrd c now Rl Sf h0 h1 h2) [p_ 0, p_ 1] [p_ 0, p_ 1, none, none, none, none, none, none, none, none, none] (h5h1 Rl Sf) (by kernel_rfl) (by kernel_rfl) (by kernel_rfl) ⟨⟨0, 0, false, ((Rl).map (V.int .u8)), rfl, rfl, rI⟩, ⟨⟨1, 0, false, ((Sf).map (V.int .u8)), rfl, rfl, rI⟩, trivial⟩⟩ VE.R (.c VE.R (.c VE.R (.c .q (.c VE.R (.c VE.R .nil))))) VE.R)

theorem uv_rrd (c now : Int) (Rl Sf : List Int)  (h0 : ((((Rl.length : Nat) : Int) : Int) == ((Sf.length : Nat) : Int)) = false) (h1 : (!(knB c)) = true) (h2 : (!(false == (knB c))) = false) : OK cfg (.fn 4 []) [(i6 c), (i6 now), (.sl 6 (p_ 0) 0), (.sl 1 (p_ 1) Rl.length), (.sl 1 (p_ 2) Sf.length)] [.void, .cells false ((Rl).map (V.int .u8)), .cells false ((Sf).map (V.int .u8))] (.bool true) [.void, .cells false ((Rl).map (V.int .u8)), .cells false ((Sf).map (V.int .u8))] :=
  (OK.rd (fv1 := (.fn 4 [])) (args1 := [(i6 c), (i6 now), (.sl 6 (p_ 0) 0), (.sl 1 (p_ 1) Rl.length), (.sl 1 (p_ 2) Sf.length)]) (v1 := (.bool true)) (u_rrd c now Rl Sf h0 h1 h2) [p_ 1, p_ 2] [p_ 1, p_ 2, none, none, none, none, none, none, none, none, none] [.void, .cells false ((Rl).map (V.int .u8)), .cells false ((Sf).map (V.int .u8))] (by kernel_rfl) (by kernel_rfl) (by kernel_rfl) ⟨⟨1, 0, false, ((Rl).map (V.int .u8)), rfl, rfl, rI⟩, ⟨⟨2, 0, false, ((Sf).map (V.int .u8)), rfl, rfl, rI⟩, trivial⟩⟩ VE.R (.c VE.R (.c VE.R (.c .q (.c VE.R (.c VE.R .nil))))) VE.R)

theorem ud_nne (S : List WT) (X : List V) (C : Nat → List V) (D : Nat → List Int) (hC : ∀ k, plains (C k) = true) (hR : HR S X 80) (m : Nat) (c now : Int) (Rl Sf : List Int)  (h0 : (!(knB c)) = true) (h1 : (!(false == (knB c))) = false) : OK cfg (.fn 4 []) [(i6 c), (i6 now), (.sl 6 (p_ 80) m), (.sl 1 none 0), (.sl 1 none 0)] (hA C S X [.cells false [], .cells false []]) (.bool true) (hA C S X [.cells false [], .cells false []]) :=
  (OK.rd (fv1 := (.fn 4 [])) (args1 := [(i6 c), (i6 now), (.sl 6 (p_ 80) m), (.sl 1 none 0), (.sl 1 none 0)]) (v1 := (.bool true)) (u_nne c now Rl Sf h0 h1) [] [none, none, none, none, none, none, none, none, none, none] (hA C S X [.cells false [], .cells false []]) (by kernel_rfl) (by kernel_rfl) (by kernel_rfl) trivial VE.R (.c VE.R (.c VE.R (.c .q (.c VE.R (.c VE.R .nil))))) VE.R)

theorem ud_nse (S : List WT) (X : List V) (C : Nat → List V) (D : Nat → List Int) (hC : ∀ k, plains (C k) = true) (hR : HR S X 80) (m : Nat) (c now : Int) (Rl Sf : List Int)  (h0 : ((0 : Int) == ((Sf.length : Nat) : Int)) = true) (h1 : ((0 : Int) != ((Sf.length : Nat) : Int)) = false) (h2 : (!(knB c)) = true) (h3 : (!(false == (knB c))) = false) : OK cfg (.fn 4 []) [(i6 c), (i6 now), (.sl 6 (p_ 80) m), (.sl 1 none 0), (.sl 1 (p_ 82) Sf.length)] (hA C S X [.cells false [], .cells false ((Sf).map (V.int .u8))]) (.bool true) (hA C S X [.cells false [], .cells false ((Sf).map (V.int .u8))]) :=
  (OK.rd (fv1 := (.fn 4 [])) (args1 := [(i6 c), (i6 now), (.sl 6 (p_ 80) m), (.sl 1 none 0), (.sl 1 (p_ 82) Sf.length)]) (v1 := (.bool true)) (u_nre c now Rl Sf h0 h1 h2 h3) [p_ 82] [p_ 82, none, none, none, none, none, none, none, none, none, none] (hA C S X [.cells false [], .cells false ((Sf).map (V.int .u8))]) (by kernel_rfl) (by kernel_rfl) (by kernel_rfl) ⟨⟨82, 0, false, ((Sf).map (V.int .u8)), rfl, rfl, rI⟩, trivial⟩ VE.R (.c VE.R (.c VE.R (.c .q (.c VE.R (.c VE.R .nil))))) VE.R)

theorem ud_nsd (S : List WT) (X : List V) (C : Nat → List V) (D : Nat → List Int) (hC : ∀ k, plains (C k) = true) (hR : HR S X 80) (m : Nat) (c now : Int) (Rl Sf : List Int)  (h0 : ((0 : Int) == ((Sf.length : Nat) : Int)) = false) (h1 : (!(knB c)) = true) (h2 : (!(false == (knB c))) = false) : OK cfg (.fn 4 []) [(i6 c), (i6 now), (.sl 6 (p_ 80) m), (.sl 1 none 0), (.sl 1 (p_ 82) Sf.length)] (hA C S X [.cells false [], .cells false ((Sf).map (V.int .u8))]) (.bool true) (hA C S X [.cells false [], .cells false ((Sf).map (V.int .u8))]) :=
  (OK.rd (fv1 := (.fn 4 [])) (args1 := [(i6 c), (i6 now), (.sl 6 (p_ 80) m), (.sl 1 none 0), (.sl 1 (p_ 82) Sf.length)]) (v1 := (.bool true)) (u_nrd c now Rl Sf h0 h1 h2) [p_ 82] [p_ 82, none, none, none, none, none, none, none, none, none] (hA C S X [.cells false [], .cells false ((Sf).map (V.int .u8))]) (by kernel_rfl) (by kernel_rfl) (by kernel_rfl) ⟨⟨82, 0, false, ((Sf).map (V.int .u8)), rfl, rfl, rI⟩, trivial⟩ VE.R (.c VE.R (.c VE.R (.c .q (.c VE.R (.c VE.R .nil))))) VE.R)

theorem ud_sne (S : List WT) (X : List V) (C : Nat → List V) (D : Nat → List Int) (hC : ∀ k, plains (C k) = true) (hR : HR S X 80) (m : Nat) (c now : Int) (Rl Sf : List Int)  (h0 : ((((Rl.length : Nat) : Int) : Int) == 0) = true) (h1 : ((((Rl.length : Nat) : Int) : Int) != 0) = false) (h2 : Rl.length ≤ 140737488355328) (h3 : (!((bytesOfInts Rl).toList == (bytesOfInts Rl).toList)) = false) (h4 : (!(knB c)) = true) (h5 : (!(false == (knB c))) = false) : OK cfg (.fn 4 []) [(i6 c), (i6 now), (.sl 6 (p_ 80) m), (.sl 1 (p_ 81) Rl.length), (.sl 1 none 0)] (hA C S X [.cells false ((Rl).map (V.int .u8)), .cells false []]) (.bool true) (hA C S X [.cells false ((Rl).map (V.int .u8)), .cells false []]) :=
  (OK.rd (fv1 := (.fn 4 [])) (args1 := [(i6 c), (i6 now), (.sl 6 (p_ 80) m), (.sl 1 (p_ 81) Rl.length), (.sl 1 none 0)]) (v1 := (.bool true)) (u_rne c now Rl Sf h0 h1 h2 h3 h4 h5) [p_ 81] [p_ 81, none, none, none, none, none, none, none, none, none, none, none] (hA C S X [.cells false ((Rl).map (V.int .u8)), .cells false []]) (by kernel_rfl) (by kernel_rfl) (by kernel_rfl) ⟨⟨81, 0, false, ((Rl).map (V.int .u8)), rfl, rfl, rI⟩, trivial⟩ VE.R (.c VE.R (.c VE.R (.c .q (.c VE.R (.c VE.R .nil))))) VE.R)

theorem ud_snd (S : List WT) (X : List V) (C : Nat → List V) (D : Nat → List Int) (hC : ∀ k, plains (C k) = true) (hR : HR S X 80) (m : Nat) (c now : Int) (Rl Sf : List Int)  (h0 : ((((Rl.length : Nat) : Int) : Int) == 0) = false) (h1 : (!(knB c)) = true) (h2 : (!(false == (knB c))) = false) : OK cfg (.fn 4 []) [(i6 c), (i6 now), (.sl 6 (p_ 80) m), (.sl 1 (p_ 81) Rl.length), (.sl 1 none 0)] (hA C S X [.cells false ((Rl).map (V.int .u8)), .cells false []]) (.bool true) (hA C S X [.cells false ((Rl).map (V.int .u8)), .cells false []]) :=
  (OK.rd (fv1 := (.fn 4 [])) (args1 := [(i6 c), (i6 now), (.sl 6 (p_ 80) m), (.sl 1 (p_ 81) Rl.length), (.sl 1 none 0)]) (v1 := (.bool true)) (u_rnd c now Rl Sf h0 h1 h2) [p_ 81] [p_ 81, none, none, none, none, none, none, none, none, none] (hA C S X [.cells false ((Rl).map (V.int .u8)), .cells false []]) (by kernel_rfl) (by kernel_rfl) (by kernel_rfl) ⟨⟨81, 0, false, ((Rl).map (V.int .u8)), rfl, rfl, rI⟩, trivial⟩ VE.R (.c VE.R (.c VE.R (.c .q (.c VE.R (.c VE.R .nil))))) VE.R)

theorem ud_sse (S : List WT) (X : List V) (C : Nat → List V) (D : Nat → List Int) (hC : ∀ k, plains (C k) = true) (hR : HR S X 80) (m : Nat) (c now : Int) (Rl Sf : List Int)  (h0 : ((((Rl.length : Nat) : Int) : Int) == ((Sf.length : Nat) : Int)) = true) (h1 : ((((Rl.length : Nat) : Int) : Int) != ((Sf.length : Nat) : Int)) = false) (h2 : Rl.length ≤ 140737488355328) (h3 : (!((bytesOfInts Rl).toList == (bytesOfInts Rl).toList)) = false) (h4 : (!(knB c)) = true) (h5 : (!(false == (knB c))) = false) : OK cfg (.fn 4 []) [(i6 c), (i6 now), (.sl 6 (p_ 80) m), (.sl 1 (p_ 81) Rl.length), (.sl 1 (p_ 82) Sf.length)] (hA C S X [.cells false ((Rl).map (V.int .u8)), .cells false ((Sf).map (V.int .u8))]) (.bool true) (hA C S X [.cells false ((Rl).map (V.int .u8)), .cells false ((Sf).map (V.int .u8))]) :=
  (OK.rd (fv1 := (.fn 4 [])) (args1 := [(i6 c), (i6 now), (.sl 6 (p_ 80) m), (.sl 1 (p_ 81) Rl.length), (.sl 1 (p_ 82) Sf.length)]) (v1 := (.bool true)) (u_rre c now Rl Sf h0 h1 h2 h3 h4 h5) [p_ 81, p_ 82] [p_ 81, p_ 82, none, none, none, none, none, none, none, none, none, none, none] (hA C S X (h5h1 Rl Sf)) (by kernel_rfl) (by kernel_rfl) (by kernel_rfl) ⟨⟨81, 0, false, ((Rl).map (V.int .u8)), rfl, rfl, rI⟩, ⟨⟨82, 0, false, ((Sf).map (V.int .u8)), rfl, rfl, rI⟩, trivial⟩⟩ VE.R (.c VE.R (.c VE.R (.c .q (.c VE.R (.c VE.R .nil))))) VE.R)

theorem ud_ssd (S : List WT) (X : List V) (C : Nat → List V) (D : Nat → List Int) (hC : ∀ k, plains (C k) = true) (hR : HR S X 80) (m : Nat) (c now : Int) (Rl Sf : List Int)  (h0 : ((((Rl.length : Nat) : Int) : Int) == ((Sf.length : Nat) : Int)) = false) (h1 : (!(knB c)) = true) (h2 : (!(false == (knB c))) = false) : OK cfg (.fn 4 []) [(i6 c), (i6 now), (.sl 6 (p_ 80) m), (.sl 1 (p_ 81) Rl.length), (.sl 1 (p_ 82) Sf.length)] (hA C S X [.cells false ((Rl).map (V.int .u8)), .cells false ((Sf).map (V.int .u8))]) (.bool true) (hA C S X [.cells false ((Rl).map (V.int .u8)), .cells false ((Sf).map (V.int .u8))]) :=
  (OK.rd (fv1 := (.fn 4 [])) (args1 := [(i6 c), (i6 now), (.sl 6 (p_ 80) m), (.sl 1 (p_ 81) Rl.length), (.sl 1 (p_ 82) Sf.length)]) (v1 := (.bool true)) (u_rrd c now Rl Sf h0 h1 h2) [p_ 81, p_ 82] [p_ 81, p_ 82, none, none, none, none, none, none, none, none, none] (hA C S X (h5h1 Rl Sf)) (by kernel_rfl) (by kernel_rfl) (by kernel_rfl) ⟨⟨81, 0, false, ((Rl).map (V.int .u8)), rfl, rfl, rI⟩, ⟨⟨82, 0, false, ((Sf).map (V.int .u8)), rfl, rfl, rI⟩, trivial⟩⟩ VE.R (.c VE.R (.c VE.R (.c .q (.c VE.R (.c VE.R .nil))))) VE.R)

theorem x_nnn (c now : Int) (Rl Sf : List Int) (hb3 : Rl.length ≤ 140737488355328) (hb4 : Sf.length ≤ 140737488355328) : ∃ H', OK cfg (.fn 4 []) [(i6 c), (i6 now), (.sl 6 none 0), (.sl 1 none 0), (.sl 1 none 0)] [] (.bool true) H' := by
  by_cases hk : knB c = true
  · skip
    exact ⟨_, kn_nne c now Rl Sf  (by simp [hk]) (by simp [hk]) (by simp)⟩
  · skip
    have hk : knB c = false := by simpa using hk
    exact ⟨_, un_nne c now Rl Sf (by simp [hk]) (by simp [hk])⟩

theorem x_nnv (c now : Int) (Rl Sf : List Int) (hb3 : Rl.length ≤ 140737488355328) (hb4 : Sf.length ≤ 140737488355328) : ∃ H', OK cfg (.fn 4 []) [(i6 c), (i6 now), (.sl 6 none 0), (.sl 1 none 0), (.sl 1 (p_ 0) 0)] [.void] (.bool true) H' := by
  by_cases hk : knB c = true
  · skip
    exact ⟨_, kn_nve c now Rl Sf  (by simp [hk]) (by simp [hk]) (by simp)⟩
  · skip
    have hk : knB c = false := by simpa using hk
    exact ⟨_, un_nve c now Rl Sf (by simp [hk]) (by simp [hk])⟩

theorem x_nnr (c now : Int) (Rl Sf : List Int) (hb3 : Rl.length ≤ 140737488355328) (hb4 : Sf.length ≤ 140737488355328) : ∃ H', OK cfg (.fn 4 []) [(i6 c), (i6 now), (.sl 6 none 0), (.sl 1 none 0), (.sl 1 (p_ 0) Sf.length)] [.cells false ((Sf).map (V.int .u8))] (.bool true) H' := by
  by_cases hk : knB c = true
  · skip
    by_cases he : Sf.length = 0
    · skip
      exact ⟨_, OK.eqb (kn_nre c now Rl Sf  (beq_iff_eq.2 (by omega)) (bne_eq_false_iff_eq.2 (by omega)) (by simp [hk]) (by simp [hk]) (by simp) (by omega)) (by simp)⟩
    · skip
      exact ⟨_, OK.eqb (kn_nrd c now Rl Sf  (beq_eq_false_iff_ne.2 (by omega)) (by simp [hk]) (by simp [hk]) (by simp) (bne_iff_ne.2 (by omega)) (by omega)) (by simp)⟩
  · skip
    have hk : knB c = false := by simpa using hk
    by_cases he : Sf.length = 0
    · skip
      exact ⟨_, un_nre c now Rl Sf (beq_iff_eq.2 (by omega)) (bne_eq_false_iff_eq.2 (by omega)) (by simp [hk]) (by simp [hk])⟩
    · skip
      exact ⟨_, un_nrd c now Rl Sf (beq_eq_false_iff_ne.2 (by omega)) (by simp [hk]) (by simp [hk])⟩

theorem x_nvn (c now : Int) (Rl Sf : List Int) (hb3 : Rl.length ≤ 140737488355328) (hb4 : Sf.length ≤ 140737488355328) : ∃ H', OK cfg (.fn 4 []) [(i6 c), (i6 now), (.sl 6 none 0), (.sl 1 (p_ 0) 0), (.sl 1 none 0)] [.void] (.bool true) H' := by
  by_cases hk : knB c = true
  · skip
    exact ⟨_, kn_vne c now Rl Sf  (by simp [hk]) (by simp [hk]) (by simp)⟩
  · skip
    have hk : knB c = false := by simpa using hk
    exact ⟨_, un_vne c now Rl Sf (by simp [hk]) (by simp [hk])⟩

theorem x_nvv (c now : Int) (Rl Sf : List Int) (hb3 : Rl.length ≤ 140737488355328) (hb4 : Sf.length ≤ 140737488355328) : ∃ H', OK cfg (.fn 4 []) [(i6 c), (i6 now), (.sl 6 none 0), (.sl 1 (p_ 0) 0), (.sl 1 (p_ 1) 0)] [.void, .void] (.bool true) H' := by
  by_cases hk : knB c = true
  · skip
    exact ⟨_, kn_vve c now Rl Sf  (by simp [hk]) (by simp [hk]) (by simp)⟩
  · skip
    have hk : knB c = false := by simpa using hk
    exact ⟨_, un_vve c now Rl Sf (by simp [hk]) (by simp [hk])⟩

theorem x_nvr (c now : Int) (Rl Sf : List Int) (hb3 : Rl.length ≤ 140737488355328) (hb4 : Sf.length ≤ 140737488355328) : ∃ H', OK cfg (.fn 4 []) [(i6 c), (i6 now), (.sl 6 none 0), (.sl 1 (p_ 0) 0), (.sl 1 (p_ 1) Sf.length)] [.void, .cells false ((Sf).map (V.int .u8))] (.bool true) H' := by
  by_cases hk : knB c = true
  · skip
    by_cases he : Sf.length = 0
    · skip
      exact ⟨_, OK.eqb (kn_vre c now Rl Sf  (beq_iff_eq.2 (by omega)) (bne_eq_false_iff_eq.2 (by omega)) (by simp [hk]) (by simp [hk]) (by simp) (by omega)) (by simp)⟩
    · skip
      exact ⟨_, OK.eqb (kn_vrd c now Rl Sf  (beq_eq_false_iff_ne.2 (by omega)) (by simp [hk]) (by simp [hk]) (by simp) (bne_iff_ne.2 (by omega)) (by omega)) (by simp)⟩
  · skip
    have hk : knB c = false := by simpa using hk
    by_cases he : Sf.length = 0
    · skip
      exact ⟨_, un_vre c now Rl Sf (beq_iff_eq.2 (by omega)) (bne_eq_false_iff_eq.2 (by omega)) (by simp [hk]) (by simp [hk])⟩
    · skip
      exact ⟨_, un_vrd c now Rl Sf (beq_eq_false_iff_ne.2 (by omega)) (by simp [hk]) (by simp [hk])⟩

theorem x_nrn (c now : Int) (Rl Sf : List Int) (hb3 : Rl.length ≤ 140737488355328) (hb4 : Sf.length ≤ 140737488355328) : ∃ H', OK cfg (.fn 4 []) [(i6 c), (i6 now), (.sl 6 none 0), (.sl 1 (p_ 0) Rl.length), (.sl 1 none 0)] [.cells false ((Rl).map (V.int .u8))] (.bool true) H' := by
  by_cases hk : knB c = true
  · skip
    by_cases he : Rl.length = 0
    · skip
      exact ⟨_, kn_rne c now Rl Sf  (beq_iff_eq.2 (by omega)) (bne_eq_false_iff_eq.2 (by omega)) (by omega) (by simp) (by simp [hk]) (by simp [hk]) (by simp) (by simp)⟩
    · skip
      exact ⟨_, kn_rnd c now Rl Sf  (beq_eq_false_iff_ne.2 (by omega)) (by simp [hk]) (by simp [hk]) (by simp) (bne_iff_ne.2 (by omega))⟩
  · skip
    have hk : knB c = false := by simpa using hk
    by_cases he : Rl.length = 0
    · skip
      exact ⟨_, un_rne c now Rl Sf (beq_iff_eq.2 (by omega)) (bne_eq_false_iff_eq.2 (by omega)) (by omega) (by simp) (by simp [hk]) (by simp [hk])⟩
    · skip
      exact ⟨_, un_rnd c now Rl Sf (beq_eq_false_iff_ne.2 (by omega)) (by simp [hk]) (by simp [hk])⟩

theorem x_nrv (c now : Int) (Rl Sf : List Int) (hb3 : Rl.length ≤ 140737488355328) (hb4 : Sf.length ≤ 140737488355328) : ∃ H', OK cfg (.fn 4 []) [(i6 c), (i6 now), (.sl 6 none 0), (.sl 1 (p_ 0) Rl.length), (.sl 1 (p_ 1) 0)] [.cells false ((Rl).map (V.int .u8)), .void] (.bool true) H' := by
  by_cases hk : knB c = true
  · skip
    by_cases he : Rl.length = 0
    · skip
      exact ⟨_, kn_rve c now Rl Sf  (beq_iff_eq.2 (by omega)) (bne_eq_false_iff_eq.2 (by omega)) (by omega) (by simp) (by simp [hk]) (by simp [hk]) (by simp) (by simp)⟩
    · skip
      exact ⟨_, kn_rvd c now Rl Sf  (beq_eq_false_iff_ne.2 (by omega)) (by simp [hk]) (by simp [hk]) (by simp) (bne_iff_ne.2 (by omega))⟩
  · skip
    have hk : knB c = false := by simpa using hk
    by_cases he : Rl.length = 0
    · skip
      exact ⟨_, un_rve c now Rl Sf (beq_iff_eq.2 (by omega)) (bne_eq_false_iff_eq.2 (by omega)) (by omega) (by simp) (by simp [hk]) (by simp [hk])⟩
    · skip
      exact ⟨_, un_rvd c now Rl Sf (beq_eq_false_iff_ne.2 (by omega)) (by simp [hk]) (by simp [hk])⟩

theorem x_nrr (c now : Int) (Rl Sf : List Int) (hb3 : Rl.length ≤ 140737488355328) (hb4 : Sf.length ≤ 140737488355328) : ∃ H', OK cfg (.fn 4 []) [(i6 c), (i6 now), (.sl 6 none 0), (.sl 1 (p_ 0) Rl.length), (.sl 1 (p_ 1) Sf.length)] [.cells false ((Rl).map (V.int .u8)), .cells false ((Sf).map (V.int .u8))] (.bool true) H' := by
  by_cases hk : knB c = true
  · skip
    by_cases he : Rl.length = Sf.length
    · skip
      exact ⟨_, OK.eqb (kn_rre c now Rl Sf  (beq_iff_eq.2 (by omega)) (bne_eq_false_iff_eq.2 (by omega)) (by omega) (by simp) (by simp [hk]) (by simp [hk]) (by simp) (by simp) (by omega)) (by simp)⟩
    · skip
      exact ⟨_, OK.eqb (kn_rrd c now Rl Sf  (beq_eq_false_iff_ne.2 (by omega)) (by simp [hk]) (by simp [hk]) (by simp) (bne_iff_ne.2 (by omega)) (by omega)) (by simp)⟩
  · skip
    have hk : knB c = false := by simpa using hk
    by_cases he : Rl.length = Sf.length
    · skip
      exact ⟨_, un_rre c now Rl Sf (beq_iff_eq.2 (by omega)) (bne_eq_false_iff_eq.2 (by omega)) (by omega) (by simp) (by simp [hk]) (by simp [hk])⟩
    · skip
      exact ⟨_, un_rrd c now Rl Sf (beq_eq_false_iff_ne.2 (by omega)) (by simp [hk]) (by simp [hk])⟩

theorem x_vnn (c now : Int) (Rl Sf : List Int) (hb3 : Rl.length ≤ 140737488355328) (hb4 : Sf.length ≤ 140737488355328) : ∃ H', OK cfg (.fn 4 []) [(i6 c), (i6 now), (.sl 6 (p_ 0) 0), (.sl 1 none 0), (.sl 1 none 0)] [.void] (.bool true) H' := by
  by_cases hk : knB c = true
  · skip
    exact ⟨_, kv_nne c now Rl Sf  (by simp [hk]) (by simp [hk]) (by simp)⟩
  · skip
    have hk : knB c = false := by simpa using hk
    exact ⟨_, uv_nne c now Rl Sf (by simp [hk]) (by simp [hk])⟩

theorem x_vnv (c now : Int) (Rl Sf : List Int) (hb3 : Rl.length ≤ 140737488355328) (hb4 : Sf.length ≤ 140737488355328) : ∃ H', OK cfg (.fn 4 []) [(i6 c), (i6 now), (.sl 6 (p_ 0) 0), (.sl 1 none 0), (.sl 1 (p_ 1) 0)] [.void, .void] (.bool true) H' := by
  by_cases hk : knB c = true
  · skip
    exact ⟨_, kv_nve c now Rl Sf  (by simp [hk]) (by simp [hk]) (by simp)⟩
  · skip
    have hk : knB c = false := by simpa using hk
    exact ⟨_, uv_nve c now Rl Sf (by simp [hk]) (by simp [hk])⟩

theorem x_vnr (c now : Int) (Rl Sf : List Int) (hb3 : Rl.length ≤ 140737488355328) (hb4 : Sf.length ≤ 140737488355328) : ∃ H', OK cfg (.fn 4 []) [(i6 c), (i6 now), (.sl 6 (p_ 0) 0), (.sl 1 none 0), (.sl 1 (p_ 1) Sf.length)] [.void, .cells false ((Sf).map (V.int .u8))] (.bool true) H' := by
  by_cases hk : knB c = true
  · skip
    by_cases he : Sf.length = 0
    · skip
      exact ⟨_, OK.eqb (kv_nre c now Rl Sf  (beq_iff_eq.2 (by omega)) (bne_eq_false_iff_eq.2 (by omega)) (by simp [hk]) (by simp [hk]) (by simp) (by omega)) (by simp)⟩
    · skip
      exact ⟨_, OK.eqb (kv_nrd c now Rl Sf  (beq_eq_false_iff_ne.2 (by omega)) (by simp [hk]) (by simp [hk]) (by simp) (bne_iff_ne.2 (by omega)) (by omega)) (by simp)⟩
  · skip
    have hk : knB c = false := by simpa using hk
    by_cases he : Sf.length = 0
    · skip
      exact ⟨_, uv_nre c now Rl Sf (beq_iff_eq.2 (by omega)) (bne_eq_false_iff_eq.2 (by omega)) (by simp [hk]) (by simp [hk])⟩
    · skip
      exact ⟨_, uv_nrd c now Rl Sf (beq_eq_false_iff_ne.2 (by omega)) (by simp [hk]) (by simp [hk])⟩

theorem x_vvn (c now : Int) (Rl Sf : List Int) (hb3 : Rl.length ≤ 140737488355328) (hb4 : Sf.length ≤ 140737488355328) : ∃ H', OK cfg (.fn 4 []) [(i6 c), (i6 now), (.sl 6 (p_ 0) 0), (.sl 1 (p_ 1) 0), (.sl 1 none 0)] [.void, .void] (.bool true) H' := by
  by_cases hk : knB c = true
  · skip
    exact ⟨_, kv_vne c now Rl Sf  (by simp [hk]) (by simp [hk]) (by simp)⟩
  · skip
    have hk : knB c = false := by simpa using hk
    exact ⟨_, uv_vne c now Rl Sf (by simp [hk]) (by simp [hk])⟩

theorem x_vvv (c now : Int) (Rl Sf : List Int) (hb3 : Rl.length ≤ 140737488355328) (hb4 : Sf.length ≤ 140737488355328) : ∃ H', OK cfg (.fn 4 []) [(i6 c), (i6 now), (.sl 6 (p_ 0) 0), (.sl 1 (p_ 1) 0), (.sl 1 (p_ 2) 0)] [.void, .void, .void] (.bool true) H' := by
  by_cases hk : knB c = true
  · skip
    exact ⟨_, kv_vve c now Rl Sf  (by simp [hk]) (by simp [hk]) (by simp)⟩
  · skip
    have hk : knB c = false := by simpa using hk
    exact ⟨_, uv_vve c now Rl Sf (by simp [hk]) (by simp [hk])⟩

theorem x_vvr (c now : Int) (Rl Sf : List Int) (hb3 : Rl.length ≤ 140737488355328) (hb4 : Sf.length ≤ 140737488355328) : ∃ H', OK cfg (.fn 4 []) [(i6 c), (i6 now), (.sl 6 (p_ 0) 0), (.sl 1 (p_ 1) 0), (.sl 1 (p_ 2) Sf.length)] [.void, .void, .cells false ((Sf).map (V.int .u8))] (.bool true) H' := by
  by_cases hk : knB c = true
  · skip
    by_cases he : Sf.length = 0
    · skip
      exact ⟨_, OK.eqb (kv_vre c now Rl Sf  (beq_iff_eq.2 (by omega)) (bne_eq_false_iff_eq.2 (by omega)) (by simp [hk]) (by simp [hk]) (by simp) (by omega)) (by simp)⟩
    · skip
      exact ⟨_, OK.eqb (kv_vrd c now Rl Sf  (beq_eq_false_iff_ne.2 (by omega)) (by simp [hk]) (by simp [hk]) (by simp) (bne_iff_ne.2 (by omega)) (by omega)) (by simp)⟩
  · skip
    have hk : knB c = false := by simpa using hk
    by_cases he : Sf.length = 0
    · skip
      exact ⟨_, uv_vre c now Rl Sf (beq_iff_eq.2 (by omega)) (bne_eq_false_iff_eq.2 (by omega)) (by simp [hk]) (by simp [hk])⟩
    · skip
      exact ⟨_, uv_vrd c now Rl Sf (beq_eq_false_iff_ne.2 (by omega)) (by simp [hk]) (by simp [hk])⟩

theorem x_vrn (c now : Int) (Rl Sf : List Int) (hb3 : Rl.length ≤ 140737488355328) (hb4 : Sf.length ≤ 140737488355328) : ∃ H', OK cfg (.fn 4 []) [(i6 c), (i6 now), (.sl 6 (p_ 0) 0), (.sl 1 (p_ 1) Rl.length), (.sl 1 none 0)] [.void, .cells false ((Rl).map (V.int .u8))] (.bool true) H' := by
  by_cases hk : knB c = true
  · skip
    by_cases he : Rl.length = 0
    · skip
      exact ⟨_, kv_rne c now Rl Sf  (beq_iff_eq.2 (by omega)) (bne_eq_false_iff_eq.2 (by omega)) (by omega) (by simp) (by simp [hk]) (by simp [hk]) (by simp) (by simp)⟩
    · skip
      exact ⟨_, kv_rnd c now Rl Sf  (beq_eq_false_iff_ne.2 (by omega)) (by simp [hk]) (by simp [hk]) (by simp) (bne_iff_ne.2 (by omega))⟩
  · skip
    have hk : knB c = false := by simpa using hk
    by_cases he : Rl.length = 0
    · skip
      exact ⟨_, uv_rne c now Rl Sf (beq_iff_eq.2 (by omega)) (bne_eq_false_iff_eq.2 (by omega)) (by omega) (by simp) (by simp [hk]) (by simp [hk])⟩
    · skip
      exact ⟨_, uv_rnd c now Rl Sf (beq_eq_false_iff_ne.2 (by omega)) (by simp [hk]) (by simp [hk])⟩

theorem x_vrv (c now : Int) (Rl Sf : List Int) (hb3 : Rl.length ≤ 140737488355328) (hb4 : Sf.length ≤ 140737488355328) : ∃ H', OK cfg (.fn 4 []) [(i6 c), (i6 now), (.sl 6 (p_ 0) 0), (.sl 1 (p_ 1) Rl.length), (.sl 1 (p_ 2) 0)] [.void, .cells false ((Rl).map (V.int .u8)), .void] (.bool true) H' := by
  by_cases hk : knB c = true
  · skip
    by_cases he : Rl.length = 0
    · skip
      exact ⟨_, kv_rve c now Rl Sf  (beq_iff_eq.2 (by omega)) (bne_eq_false_iff_eq.2 (by omega)) (by omega) (by simp) (by simp [hk]) (by simp [hk]) (by simp) (by simp)⟩
    · skip
      exact ⟨_, kv_rvd c now Rl Sf  (beq_eq_false_iff_ne.2 (by omega)) (by simp [hk]) (by simp [hk]) (by simp) (bne_iff_ne.2 (by omega))⟩
  · skip
    have hk : knB c = false := by simpa using hk
    by_cases he : Rl.length = 0
    · skip
      exact ⟨_, uv_rve c now Rl Sf (beq_iff_eq.2 (by omega)) (bne_eq_false_iff_eq.2 (by omega)) (by omega) (by simp) (by simp [hk]) (by simp [hk])⟩
    · skip
      exact ⟨_, uv_rvd c now Rl Sf (beq_eq_false_iff_ne.2 (by omega)) (by simp [hk]) (by simp [hk])⟩

theorem x_vrr (c now : Int) (Rl Sf : List Int) (hb3 : Rl.length ≤ 140737488355328) (hb4 : Sf.length ≤ 140737488355328) : ∃ H', OK cfg (.fn 4 []) [(i6 c), (i6 now), (.sl 6 (p_ 0) 0), (.sl 1 (p_ 1) Rl.length), (.sl 1 (p_ 2) Sf.length)] [.void, .cells false ((Rl).map (V.int .u8)), .cells false ((Sf).map (V.int .u8))] (.bool true) H' := by
  by_cases hk : knB c = true
  · skip
    by_cases he : Rl.length = Sf.length
    · skip
      exact ⟨_, OK.eqb (kv_rre c now Rl Sf  (beq_iff_eq.2 (by omega)) (bne_eq_false_iff_eq.2 (by omega)) (by omega) (by simp) (by simp [hk]) (by simp [hk]) (by simp) (by simp) (by omega)) (by simp)⟩
    · skip
      exact ⟨_, OK.eqb (kv_rrd c now Rl Sf  (beq_eq_false_iff_ne.2 (by omega)) (by simp [hk]) (by simp [hk]) (by simp) (bne_iff_ne.2 (by omega)) (by omega)) (by simp)⟩
  · skip
    have hk : knB c = false := by simpa using hk
    by_cases he : Rl.length = Sf.length
    · skip
      exact ⟨_, uv_rre c now Rl Sf (beq_iff_eq.2 (by omega)) (bne_eq_false_iff_eq.2 (by omega)) (by omega) (by simp) (by simp [hk]) (by simp [hk])⟩
    · skip
      exact ⟨_, uv_rrd c now Rl Sf (beq_eq_false_iff_ne.2 (by omega)) (by simp [hk]) (by simp [hk])⟩

theorem x_dnn (S : List WT) (X : List V) (C : Nat → List V) (D : Nat → List Int) (hC : ∀ k, plains (C k) = true) (hR : HR S X 80) (m : Nat) (hm : S.length = min m 40) (hr : Rows C D S) (c now : Int) (Rl Sf : List Int) (hb3 : Rl.length ≤ 140737488355328) (hb4 : Sf.length ≤ 140737488355328) : ∃ H', OK cfg (.fn 4 []) [(i6 c), (i6 now), (.sl 6 (p_ 80) m), (.sl 1 none 0), (.sl 1 none 0)] (hA C S X [.cells false [], .cells false []]) (.bool true) H' := by
  have hl := play_nn S X C D hC hR m hm hr c now Rl Sf S.length 0 (by omega)
  by_cases hk : knB c = true
  · skip
    exact ⟨_, kd_nne S X C D hC hR m c now Rl Sf hl (by simp [hk]) (by simp [hk]) (by simp)⟩
  · skip
    have hk : knB c = false := by simpa using hk
    exact ⟨_, ud_nne S X C D hC hR m c now Rl Sf (by simp [hk]) (by simp [hk])⟩

theorem x_dns (S : List WT) (X : List V) (C : Nat → List V) (D : Nat → List Int) (hC : ∀ k, plains (C k) = true) (hR : HR S X 80) (m : Nat) (hm : S.length = min m 40) (hr : Rows C D S) (c now : Int) (Rl Sf : List Int) (hb3 : Rl.length ≤ 140737488355328) (hb4 : Sf.length ≤ 140737488355328) : ∃ H', OK cfg (.fn 4 []) [(i6 c), (i6 now), (.sl 6 (p_ 80) m), (.sl 1 none 0), (.sl 1 (p_ 82) Sf.length)] (hA C S X [.cells false [], .cells false ((Sf).map (V.int .u8))]) (.bool true) H' := by
  have hl := play_ns S X C D hC hR m hm hr c now Rl Sf S.length 0 (by omega)
  by_cases hk : knB c = true
  · skip
    by_cases he : Sf.length = 0
    · skip
      exact ⟨_, OK.eqb (kd_nse S X C D hC hR m c now Rl Sf hl (beq_iff_eq.2 (by omega)) (bne_eq_false_iff_eq.2 (by omega)) (by simp [hk]) (by simp [hk]) (by simp) (by omega)) (by simp)⟩
    · skip
      exact ⟨_, OK.eqb (kd_nsd S X C D hC hR m c now Rl Sf hl (beq_eq_false_iff_ne.2 (by omega)) (by simp [hk]) (by simp [hk]) (by simp) (bne_iff_ne.2 (by omega)) (by omega)) (by simp)⟩
  · skip
    have hk : knB c = false := by simpa using hk
    by_cases he : Sf.length = 0
    · skip
      exact ⟨_, ud_nse S X C D hC hR m c now Rl Sf (beq_iff_eq.2 (by omega)) (bne_eq_false_iff_eq.2 (by omega)) (by simp [hk]) (by simp [hk])⟩
    · skip
      exact ⟨_, ud_nsd S X C D hC hR m c now Rl Sf (beq_eq_false_iff_ne.2 (by omega)) (by simp [hk]) (by simp [hk])⟩

theorem x_dsn (S : List WT) (X : List V) (C : Nat → List V) (D : Nat → List Int) (hC : ∀ k, plains (C k) = true) (hR : HR S X 80) (m : Nat) (hm : S.length = min m 40) (hr : Rows C D S) (c now : Int) (Rl Sf : List Int) (hb3 : Rl.length ≤ 140737488355328) (hb4 : Sf.length ≤ 140737488355328) : ∃ H', OK cfg (.fn 4 []) [(i6 c), (i6 now), (.sl 6 (p_ 80) m), (.sl 1 (p_ 81) Rl.length), (.sl 1 none 0)] (hA C S X [.cells false ((Rl).map (V.int .u8)), .cells false []]) (.bool true) H' := by
  have hl := play_sn S X C D hC hR m hm hr c now Rl Sf S.length 0 (by omega)
  by_cases hk : knB c = true
  · skip
    by_cases he : Rl.length = 0
    · skip
      exact ⟨_, kd_sne S X C D hC hR m c now Rl Sf hl (beq_iff_eq.2 (by omega)) (bne_eq_false_iff_eq.2 (by omega)) (by omega) (by simp) (by simp [hk]) (by simp [hk]) (by simp) (by simp)⟩
    · skip
      exact ⟨_, kd_snd S X C D hC hR m c now Rl Sf hl (beq_eq_false_iff_ne.2 (by omega)) (by simp [hk]) (by simp [hk]) (by simp) (bne_iff_ne.2 (by omega))⟩
  · skip
    have hk : knB c = false := by simpa using hk
    by_cases he : Rl.length = 0
    · skip
      exact ⟨_, ud_sne S X C D hC hR m c now Rl Sf (beq_iff_eq.2 (by omega)) (bne_eq_false_iff_eq.2 (by omega)) (by omega) (by simp) (by simp [hk]) (by simp [hk])⟩
    · skip
      exact ⟨_, ud_snd S X C D hC hR m c now Rl Sf (beq_eq_false_iff_ne.2 (by omega)) (by simp [hk]) (by simp [hk])⟩

theorem x_dss (S : List WT) (X : List V) (C : Nat → List V) (D : Nat → List Int) (hC : ∀ k, plains (C k) = true) (hR : HR S X 80) (m : Nat) (hm : S.length = min m 40) (hr : Rows C D S) (c now : Int) (Rl Sf : List Int) (hb3 : Rl.length ≤ 140737488355328) (hb4 : Sf.length ≤ 140737488355328) : ∃ H', OK cfg (.fn 4 []) [(i6 c), (i6 now), (.sl 6 (p_ 80) m), (.sl 1 (p_ 81) Rl.length), (.sl 1 (p_ 82) Sf.length)] (hA C S X [.cells false ((Rl).map (V.int .u8)), .cells false ((Sf).map (V.int .u8))]) (.bool true) H' := by
  have hl := play_ss S X C D hC hR m hm hr c now Rl Sf S.length 0 (by omega)
  by_cases hk : knB c = true
  · skip
    by_cases he : Rl.length = Sf.length
    · skip
      exact ⟨_, OK.eqb (kd_sse S X C D hC hR m c now Rl Sf hl (beq_iff_eq.2 (by omega)) (bne_eq_false_iff_eq.2 (by omega)) (by omega) (by simp) (by simp [hk]) (by simp [hk]) (by simp) (by simp) (by omega)) (by simp)⟩
    · skip
      exact ⟨_, OK.eqb (kd_ssd S X C D hC hR m c now Rl Sf hl (beq_eq_false_iff_ne.2 (by omega)) (by simp [hk]) (by simp [hk]) (by simp) (bne_iff_ne.2 (by omega)) (by omega)) (by simp)⟩
  · skip
    have hk : knB c = false := by simpa using hk
    by_cases he : Rl.length = Sf.length
    · skip
      exact ⟨_, ud_sse S X C D hC hR m c now Rl Sf (beq_iff_eq.2 (by omega)) (bne_eq_false_iff_eq.2 (by omega)) (by omega) (by simp) (by simp [hk]) (by simp [hk])⟩
    · skip
      exact ⟨_, ud_ssd S X C D hC hR m c now Rl Sf (beq_eq_false_iff_ne.2 (by omega)) (by simp [hk]) (by simp [hk])⟩

end Go.Proofs.Ytfhjdnekidhjnaa.latch
namespace Go.Proofs.Ytfhjdnekidhjnaa.latchHolds
open Go Go.Vm
noncomputable abbrev cfg : Cfg := latch.cfg

theorem law_nnn (c : Int) (w0 : (Lit.int .i64 c).wf = true) (now : Int) (w1 : (Lit.int .i64 now).wf = true) : ∃ H', OK cfg (.fn 4 []) [.int .i64 c, .int .i64 now, .sl 6 none 0, .sl 1 none 0, .sl 1 none 0] [] (.bool true) H' := by
  exact latch.x_nnn c now [] [] (by simp) (by simp)

theorem law_nnv (c : Int) (w0 : (Lit.int .i64 c).wf = true) (now : Int) (w1 : (Lit.int .i64 now).wf = true) : ∃ H', OK cfg (.fn 4 []) [.int .i64 c, .int .i64 now, .sl 6 none 0, .sl 1 none 0, .sl 1 (p_ 0) 0] [.void] (.bool true) H' := by
  exact latch.x_nnv c now [] [] (by simp) (by simp)

theorem law_nnr (c : Int) (w0 : (Lit.int .i64 c).wf = true) (now : Int) (w1 : (Lit.int .i64 now).wf = true) (rs4 : List (List V)) (t4 : ∀ r ∈ rs4, Typed (leaves Try.prog 4 5) r) (tl4 : rs4.length ≤ 140737488355328) : ∃ H', OK cfg (.fn 4 []) [.int .i64 c, .int .i64 now, .sl 6 none 0, .sl 1 none 0, .sl 1 (p_ 0) rs4.length] [.cells false rs4.flatten] (.bool true) H' := by
  have e4 : leaves Try.prog 4 5 = [.int .u8] := by kernel_rfl
  rw [e4] at t4
  obtain ⟨Sf, f4, g4, _⟩ := rows_int t4
  rw [f4, g4]
  exact latch.x_nnr c now [] Sf (by simp) (by omega)

theorem law_nvn (c : Int) (w0 : (Lit.int .i64 c).wf = true) (now : Int) (w1 : (Lit.int .i64 now).wf = true) : ∃ H', OK cfg (.fn 4 []) [.int .i64 c, .int .i64 now, .sl 6 none 0, .sl 1 (p_ 0) 0, .sl 1 none 0] [.void] (.bool true) H' := by
  exact latch.x_nvn c now [] [] (by simp) (by simp)

theorem law_nvv (c : Int) (w0 : (Lit.int .i64 c).wf = true) (now : Int) (w1 : (Lit.int .i64 now).wf = true) : ∃ H', OK cfg (.fn 4 []) [.int .i64 c, .int .i64 now, .sl 6 none 0, .sl 1 (p_ 0) 0, .sl 1 (p_ 1) 0] [.void, .void] (.bool true) H' := by
  exact latch.x_nvv c now [] [] (by simp) (by simp)

theorem law_nvr (c : Int) (w0 : (Lit.int .i64 c).wf = true) (now : Int) (w1 : (Lit.int .i64 now).wf = true) (rs4 : List (List V)) (t4 : ∀ r ∈ rs4, Typed (leaves Try.prog 4 5) r) (tl4 : rs4.length ≤ 140737488355328) : ∃ H', OK cfg (.fn 4 []) [.int .i64 c, .int .i64 now, .sl 6 none 0, .sl 1 (p_ 0) 0, .sl 1 (p_ 1) rs4.length] [.void, .cells false rs4.flatten] (.bool true) H' := by
  have e4 : leaves Try.prog 4 5 = [.int .u8] := by kernel_rfl
  rw [e4] at t4
  obtain ⟨Sf, f4, g4, _⟩ := rows_int t4
  rw [f4, g4]
  exact latch.x_nvr c now [] Sf (by simp) (by omega)

theorem law_nrn (c : Int) (w0 : (Lit.int .i64 c).wf = true) (now : Int) (w1 : (Lit.int .i64 now).wf = true) (rs3 : List (List V)) (t3 : ∀ r ∈ rs3, Typed (leaves Try.prog 4 5) r) (tl3 : rs3.length ≤ 140737488355328) : ∃ H', OK cfg (.fn 4 []) [.int .i64 c, .int .i64 now, .sl 6 none 0, .sl 1 (p_ 0) rs3.length, .sl 1 none 0] [.cells false rs3.flatten] (.bool true) H' := by
  have e3 : leaves Try.prog 4 5 = [.int .u8] := by kernel_rfl
  rw [e3] at t3
  obtain ⟨Rl, f3, g3, _⟩ := rows_int t3
  rw [f3, g3]
  exact latch.x_nrn c now Rl [] (by omega) (by simp)

theorem law_nrv (c : Int) (w0 : (Lit.int .i64 c).wf = true) (now : Int) (w1 : (Lit.int .i64 now).wf = true) (rs3 : List (List V)) (t3 : ∀ r ∈ rs3, Typed (leaves Try.prog 4 5) r) (tl3 : rs3.length ≤ 140737488355328) : ∃ H', OK cfg (.fn 4 []) [.int .i64 c, .int .i64 now, .sl 6 none 0, .sl 1 (p_ 0) rs3.length, .sl 1 (p_ 1) 0] [.cells false rs3.flatten, .void] (.bool true) H' := by
  have e3 : leaves Try.prog 4 5 = [.int .u8] := by kernel_rfl
  rw [e3] at t3
  obtain ⟨Rl, f3, g3, _⟩ := rows_int t3
  rw [f3, g3]
  exact latch.x_nrv c now Rl [] (by omega) (by simp)

theorem law_nrr (c : Int) (w0 : (Lit.int .i64 c).wf = true) (now : Int) (w1 : (Lit.int .i64 now).wf = true) (rs3 : List (List V)) (t3 : ∀ r ∈ rs3, Typed (leaves Try.prog 4 5) r) (tl3 : rs3.length ≤ 140737488355328) (rs4 : List (List V)) (t4 : ∀ r ∈ rs4, Typed (leaves Try.prog 4 5) r) (tl4 : rs4.length ≤ 140737488355328) : ∃ H', OK cfg (.fn 4 []) [.int .i64 c, .int .i64 now, .sl 6 none 0, .sl 1 (p_ 0) rs3.length, .sl 1 (p_ 1) rs4.length] [.cells false rs3.flatten, .cells false rs4.flatten] (.bool true) H' := by
  have e3 : leaves Try.prog 4 5 = [.int .u8] := by kernel_rfl
  rw [e3] at t3
  obtain ⟨Rl, f3, g3, _⟩ := rows_int t3
  rw [f3, g3]
  have e4 : leaves Try.prog 4 5 = [.int .u8] := by kernel_rfl
  rw [e4] at t4
  obtain ⟨Sf, f4, g4, _⟩ := rows_int t4
  rw [f4, g4]
  exact latch.x_nrr c now Rl Sf (by omega) (by omega)

theorem law_vnn (c : Int) (w0 : (Lit.int .i64 c).wf = true) (now : Int) (w1 : (Lit.int .i64 now).wf = true) : ∃ H', OK cfg (.fn 4 []) [.int .i64 c, .int .i64 now, .sl 6 (p_ 0) 0, .sl 1 none 0, .sl 1 none 0] [.void] (.bool true) H' := by
  exact latch.x_vnn c now [] [] (by simp) (by simp)

theorem law_vnv (c : Int) (w0 : (Lit.int .i64 c).wf = true) (now : Int) (w1 : (Lit.int .i64 now).wf = true) : ∃ H', OK cfg (.fn 4 []) [.int .i64 c, .int .i64 now, .sl 6 (p_ 0) 0, .sl 1 none 0, .sl 1 (p_ 1) 0] [.void, .void] (.bool true) H' := by
  exact latch.x_vnv c now [] [] (by simp) (by simp)

theorem law_vnr (c : Int) (w0 : (Lit.int .i64 c).wf = true) (now : Int) (w1 : (Lit.int .i64 now).wf = true) (rs4 : List (List V)) (t4 : ∀ r ∈ rs4, Typed (leaves Try.prog 4 5) r) (tl4 : rs4.length ≤ 140737488355328) : ∃ H', OK cfg (.fn 4 []) [.int .i64 c, .int .i64 now, .sl 6 (p_ 0) 0, .sl 1 none 0, .sl 1 (p_ 1) rs4.length] [.void, .cells false rs4.flatten] (.bool true) H' := by
  have e4 : leaves Try.prog 4 5 = [.int .u8] := by kernel_rfl
  rw [e4] at t4
  obtain ⟨Sf, f4, g4, _⟩ := rows_int t4
  rw [f4, g4]
  exact latch.x_vnr c now [] Sf (by simp) (by omega)

theorem law_vvn (c : Int) (w0 : (Lit.int .i64 c).wf = true) (now : Int) (w1 : (Lit.int .i64 now).wf = true) : ∃ H', OK cfg (.fn 4 []) [.int .i64 c, .int .i64 now, .sl 6 (p_ 0) 0, .sl 1 (p_ 1) 0, .sl 1 none 0] [.void, .void] (.bool true) H' := by
  exact latch.x_vvn c now [] [] (by simp) (by simp)

theorem law_vvv (c : Int) (w0 : (Lit.int .i64 c).wf = true) (now : Int) (w1 : (Lit.int .i64 now).wf = true) : ∃ H', OK cfg (.fn 4 []) [.int .i64 c, .int .i64 now, .sl 6 (p_ 0) 0, .sl 1 (p_ 1) 0, .sl 1 (p_ 2) 0] [.void, .void, .void] (.bool true) H' := by
  exact latch.x_vvv c now [] [] (by simp) (by simp)

theorem law_vvr (c : Int) (w0 : (Lit.int .i64 c).wf = true) (now : Int) (w1 : (Lit.int .i64 now).wf = true) (rs4 : List (List V)) (t4 : ∀ r ∈ rs4, Typed (leaves Try.prog 4 5) r) (tl4 : rs4.length ≤ 140737488355328) : ∃ H', OK cfg (.fn 4 []) [.int .i64 c, .int .i64 now, .sl 6 (p_ 0) 0, .sl 1 (p_ 1) 0, .sl 1 (p_ 2) rs4.length] [.void, .void, .cells false rs4.flatten] (.bool true) H' := by
  have e4 : leaves Try.prog 4 5 = [.int .u8] := by kernel_rfl
  rw [e4] at t4
  obtain ⟨Sf, f4, g4, _⟩ := rows_int t4
  rw [f4, g4]
  exact latch.x_vvr c now [] Sf (by simp) (by omega)

theorem law_vrn (c : Int) (w0 : (Lit.int .i64 c).wf = true) (now : Int) (w1 : (Lit.int .i64 now).wf = true) (rs3 : List (List V)) (t3 : ∀ r ∈ rs3, Typed (leaves Try.prog 4 5) r) (tl3 : rs3.length ≤ 140737488355328) : ∃ H', OK cfg (.fn 4 []) [.int .i64 c, .int .i64 now, .sl 6 (p_ 0) 0, .sl 1 (p_ 1) rs3.length, .sl 1 none 0] [.void, .cells false rs3.flatten] (.bool true) H' := by
  have e3 : leaves Try.prog 4 5 = [.int .u8] := by kernel_rfl
  rw [e3] at t3
  obtain ⟨Rl, f3, g3, _⟩ := rows_int t3
  rw [f3, g3]
  exact latch.x_vrn c now Rl [] (by omega) (by simp)

theorem law_vrv (c : Int) (w0 : (Lit.int .i64 c).wf = true) (now : Int) (w1 : (Lit.int .i64 now).wf = true) (rs3 : List (List V)) (t3 : ∀ r ∈ rs3, Typed (leaves Try.prog 4 5) r) (tl3 : rs3.length ≤ 140737488355328) : ∃ H', OK cfg (.fn 4 []) [.int .i64 c, .int .i64 now, .sl 6 (p_ 0) 0, .sl 1 (p_ 1) rs3.length, .sl 1 (p_ 2) 0] [.void, .cells false rs3.flatten, .void] (.bool true) H' := by
  have e3 : leaves Try.prog 4 5 = [.int .u8] := by kernel_rfl
  rw [e3] at t3
  obtain ⟨Rl, f3, g3, _⟩ := rows_int t3
  rw [f3, g3]
  exact latch.x_vrv c now Rl [] (by omega) (by simp)

theorem law_vrr (c : Int) (w0 : (Lit.int .i64 c).wf = true) (now : Int) (w1 : (Lit.int .i64 now).wf = true) (rs3 : List (List V)) (t3 : ∀ r ∈ rs3, Typed (leaves Try.prog 4 5) r) (tl3 : rs3.length ≤ 140737488355328) (rs4 : List (List V)) (t4 : ∀ r ∈ rs4, Typed (leaves Try.prog 4 5) r) (tl4 : rs4.length ≤ 140737488355328) : ∃ H', OK cfg (.fn 4 []) [.int .i64 c, .int .i64 now, .sl 6 (p_ 0) 0, .sl 1 (p_ 1) rs3.length, .sl 1 (p_ 2) rs4.length] [.void, .cells false rs3.flatten, .cells false rs4.flatten] (.bool true) H' := by
  have e3 : leaves Try.prog 4 5 = [.int .u8] := by kernel_rfl
  rw [e3] at t3
  obtain ⟨Rl, f3, g3, _⟩ := rows_int t3
  rw [f3, g3]
  have e4 : leaves Try.prog 4 5 = [.int .u8] := by kernel_rfl
  rw [e4] at t4
  obtain ⟨Sf, f4, g4, _⟩ := rows_int t4
  rw [f4, g4]
  exact latch.x_vrr c now Rl Sf (by omega) (by omega)

theorem law_dxx (c : Int) (w0 : (Lit.int .i64 c).wf = true) (now : Int) (w1 : (Lit.int .i64 now).wf = true) (C : Nat → List V) (rows : List (List V)) (hC : ∀ k, plains (C k) = true) (hl : ∀ r ∈ rows, r.length = esOf Try.prog 54) (hu : ∀ i r, 40 ≤ i → rows[i]? = some r → r = List.replicate (esOf Try.prog 54) V.undef) (ht : ∀ i r, i < 40 → rows[i]? = some r → TypedF ([] ++ AA C (40 * nsl (leavesN Try.prog 4 54)) rows.flatten) (([] : Heap).length + i * nsl (leavesN Try.prog 4 54)) (leavesN Try.prog 4 54) r)
    (rs3 : List (List V)) (v3 : V) (t3 : ∀ r ∈ rs3, Typed (leaves Try.prog 4 5) r) (hv3 : (v3 = .sl (esOf Try.prog 5) none 0 ∧ rs3 = []) ∨ v3 = .sl (esOf Try.prog 5) (some (([] ++ AA C (40 * nsl (leavesN Try.prog 4 54)) rows.flatten).length, 0)) rs3.length) (tl3 : rs3.length ≤ 140737488355328)
    (rs4 : List (List V)) (v4 : V) (t4 : ∀ r ∈ rs4, Typed (leaves Try.prog 4 5) r) (hv4 : (v4 = .sl (esOf Try.prog 5) none 0 ∧ rs4 = []) ∨ v4 = .sl (esOf Try.prog 5) (some (([] ++ AA C (40 * nsl (leavesN Try.prog 4 54)) rows.flatten ++ [Blk.cells false rs3.flatten]).length, 0)) rs4.length) (tl4 : rs4.length ≤ 140737488355328) :
    ∃ H', OK cfg (.fn 4 []) [.int .i64 c, .int .i64 now, .sl 6 (some (([] : Heap).length + 40 * nsl (leavesN Try.prog 4 54), 0)) rows.length, v3, v4] ([] ++ AA C (40 * nsl (leavesN Try.prog 4 54)) rows.flatten ++ [.cells false rs3.flatten] ++ [.cells false rs4.flatten]) (.bool true) H' := by
  have e5 : esOf Try.prog 5 = 1 := by kernel_rfl
  have e6 : ([] ++ AA C 80 rows.flatten).length = 81 := by simp [AA]
  have e7 : ([] ++ AA C 80 rows.flatten ++ [Blk.cells false rs3.flatten]).length = 82 := by simp [AA]
  rw [latch.aa_len, e5, e6] at hv3
  rw [latch.aa_len, e5, e7] at hv4
  have el : leaves Try.prog 4 5 = [.int .u8] := by kernel_rfl
  rw [el] at t3 t4
  obtain ⟨S, X, D, s1, s2, hR, hr⟩ := latch.rows_of2 C rows hu (fun i r hi hr => by
    have h := ht i r hi hr
    rw [latch.aa_len] at h
    exact h)
  obtain ⟨Rl, f3, g3, _⟩ := rows_int t3
  obtain ⟨Sf, f4, g4, _⟩ := rows_int t4
  rw [latch.aa_len, s1]
  rcases hv3 with ⟨rfl, rfl⟩ | rfl
  · rcases hv4 with ⟨rfl, rfl⟩ | rfl
    · exact latch.x_dnn S X C D hC hR rows.length s2 hr c now [] [] (by simp) (by simp)
    · rw [f4, g4]
      exact latch.x_dns S X C D hC hR rows.length s2 hr c now [] Sf (by simp) (by omega)
  · rw [f3, g3]
    rcases hv4 with ⟨rfl, rfl⟩ | rfl
    · exact latch.x_dsn S X C D hC hR rows.length s2 hr c now Rl [] (by omega) (by simp)
    · rw [f4, g4]
      exact latch.x_dss S X C D hC hR rows.length s2 hr c now Rl Sf (by omega) (by omega)

end Go.Proofs.Ytfhjdnekidhjnaa.latchHolds
