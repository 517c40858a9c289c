/- Walks: parts are drawn. -/
import Derived.Test.YthglnmhcgagkdaaE3
namespace Go.Proofs.Ythglnmhcgagkdaa
open Go.RowKit
/-- A list is being drawn beside a box. -/
structure DSt (g : Nat) (w : World) (cb : Array Value) (xs : List Int) (v : Value) (q : Int) (W : World) : Prop where
  B : Blk W w.heap.size cb 34
  O : OI W w.heap.size v xs
  R : RdAt W g q
  G : w.grownBy W (some g)
theorem DSt.took {g : Nat} {w : World} {cb : Array Value} {xs : List Int} {v : Value} {q q' : Int} {W W1 : World} (h : DSt g w cb xs v q W) (hlt : g < w.heap.size) (hg : W.grownBy W1 (some g)) (hr : RdAt W1 g q') : DSt g w cb xs v q' W1 :=
  ⟨h.B.grown hg (fun e => by injection e with e; omega), h.O.grown hg hlt, hr, gb_trans h.G hg (.inl rfl)⟩
theorem DSt.app {g : Nat} {w : World} {cb : Array Value} {xs ys : List Int} {v v1 : Value} {q : Int} {W W1 : World} (h : DSt g w cb xs v q W) (hlt : g < w.heap.size) (hO : OI W1 w.heap.size v1 ys) (hg : W.grownBy W1 v.ownBlock) : DSt g w cb ys v1 q W1 :=
  ⟨h.B.grown hg (fun e => own_ne_blk h.O h.B (by decide) e.symm), hO, h.R.gb hg (fun k hk => Nat.lt_of_lt_of_le hlt (own_row_new h.O k hk)), gb_trans h.G hg (.inr (own_row_new h.O))⟩
theorem DSt.took' {g : Nat} {w : World} {cb : Array Value} {xs : List Int} {v : Value} {p q : Int} {m : Nat} {W : World} (h : DSt g w cb xs v q W) (h1 : p ≤ q) (h2 : q ≤ p + m) : Took g p m w W := ⟨q, h1, h2, h.R, h.G⟩
set_option maxHeartbeats 1000000 in
set_option maxRecDepth 100000 in
theorem c_l30Part (g : Nat) (p : Int) (w : World) (nn : Int) (v : Value) (hv : ∃ A n c, v = .slice A n c) (h : RdAt w g p) (hp0 : 0 ≤ p) (hp1 : p ≤ 900000) (hn0 : 0 ≤ nn) (hn1 : nn ≤ 9) :
    Calls Try.prog 69 #[.pointer (some ⟨g, 0, none⟩), .agg #[.int .i64 nn, v]] w (DrawnI g p 12 12 w) := by
  obtain ⟨A, n, c, rfl⟩ := hv
  obtain ⟨nm, rfl⟩ := Int.eq_ofNat_of_zero_le hn0
  have hlt := h.lt
  have s1 : (w.alloc (.cells #[.int .i64 (nm : Int), .slice A n c] 34)).heap.size = w.heap.size + 1 := by simp
  have D0 : DSt g w #[.int .i64 (nm : Int), .slice A n c] [] (.slice (some ⟨w.heap.size + 1, 0, none⟩) 0 0) p ((w.alloc (.cells #[.int .i64 (nm : Int), .slice A n c] 34)).alloc (.cells #[] 3)) := by
    have hO := OI.lit (w.alloc (.cells #[.int .i64 (nm : Int), .slice A n c] 34)) w.heap.size [] (by simp) (by simp)
    rw [s1] at hO
    exact ⟨(Blk.new w _ _).alloc _, hO, (h.below (below_new w _)).below (below_new _ _), gb_alloc (World.grownBy_alloc w _ (some g)) _⟩
  clear s1 h
  go_enter Try.func69, Try.ntmps69
  go_wp2_with fail
  generalize (w.alloc (.cells #[.int .i64 (nm : Int), .slice A n c] 34)).alloc (.cells #[] 3) = W0 at *
  refine (c_pick g p 4 W0 D0.R hp0 (by omega) (by omega) (by omega)).mono ?_
  rintro e W1 ⟨k, rfl, hk0, hk1, hr, hg⟩
  have HD1 := Lib.hid (D0.took hlt hg hr)
  have hk4 := hk1 (by omega)
  clear D0 hr hg hk1
  obtain ⟨t, ht⟩ : ∃ t, t = 1 + k := ⟨_, rfl⟩
  have ht1 : 1 ≤ t := by omega
  have ht4 : t ≤ 4 := by omega
  have ek : IntKind.i64.wrap (1 + k) = t := by rw [wrap_in (by omega), ht]
  go_wp2_with fail
  rw [← ht]
  clear ht ek hk0 hk4
  go_loopw [5, 7] (fun v5 v7 wr => ∃ (j : Nat) (xs : List Int) (q : Int), j ≤ nm ∧ v7 = .int .i64 j ∧ Hid (DSt g w #[.int .i64 (nm : Int), .slice A n c] xs v5 q wr) ∧ xs.length = j ∧ p ≤ q ∧ q ≤ p + 1 + j) (fun _ v7 _ => nm - (intOf v7).toNat)
  case atStart => exact ⟨0, [], p + 1, Nat.zero_le _, rfl, HD1, rfl, by omega, by omega⟩
  case round =>
    clear HD1
    obtain ⟨j, xs, q, hj, rfl, HD, hxl, hq0, hq1⟩ := hrel
    obtain ⟨b0, b1⟩ := HD.out.B.cells2
    by_cases hjn : j < nm
    · have hjI : (j : Int) < (nm : Int) := by omega
      go_wp2_with fail
      refine (c_pick g q t wr HD.out.R (by omega) (by omega) (by omega) (by omega)).mono ?_
      rintro e w1 ⟨y, rfl, hy0, hy1, hr1, hg1⟩
      have HD1 := Lib.hid (HD.out.took hlt hg1 hr1)
      have hs1 : w.heap.size ≤ w1.heap.size := HD1.out.G.size
      clear HD hr1 hg1 hy1 b0 b1
      go_wp2_with (at_builtin; go_must (refine app_int w.heap.size rfl _ _ rfl u5 xs y rfl rfl HD1.out.O hs1 (by omega) ?_); intro v2 w2 hO2 hg2)
      go_roundw
      case rel => exact ⟨j + 1, xs ++ [y], q + 1, by omega, by go_num, HD1.out.app hlt hO2 hg2, by simp; omega, by omega, by omega⟩
      case measure => simp [intOf]; omega
    · have hjI : ¬ (j : Int) < (nm : Int) := by omega
      go_wp2_with fail
      refine (c_pick g q 14 wr HD.out.R (by omega) (by omega) (by omega) (by omega)).mono ?_
      rintro e w1 ⟨y, rfl, hy0, hy1, hr1, hg1⟩
      have HD1 := Lib.hid (HD.out.took hlt hg1 hr1)
      have hs1 : w.heap.size ≤ w1.heap.size := HD1.out.G.size
      clear HD hr1 hg1 hy1 b0 b1
      by_cases hy : y = 0
      · subst hy
        go_wp2_with (at_builtin; go_must (refine app_int w.heap.size rfl _ _ rfl u5 xs 0 rfl rfl HD1.out.O hs1 (by omega) ?_); intro v2 w2 hO2 hg2)
        go_ret
        exact ⟨v2, xs ++ [0], rfl, hO2, by simp; omega, (HD1.out.app hlt hO2 hg2).took' (by omega) (by omega)⟩
      · have hy2 : (y == 0) = false := by rw [beq_eq_false_iff_ne]; exact hy
        go_wp2_with fail
        go_ret
        exact ⟨u5, xs, rfl, HD1.out.O, by omega, HD1.out.took' (by omega) (by omega)⟩
end Go.Proofs.Ythglnmhcgagkdaa
