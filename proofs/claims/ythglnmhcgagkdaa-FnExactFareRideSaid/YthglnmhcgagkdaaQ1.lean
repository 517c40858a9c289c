/- Walk: FnExactFareRide. -/
import Derived.Test.YthglnmhcgagkdaaQ0
import Derived.Test.YthglnmhcgagkdaaP6
import Derived.Test.YthglnmhcgagkdaaM4
namespace Go.Proofs.Ythglnmhcgagkdaa
open Go.RowKit
/-- The boxes of the arguments. -/
structure X0 (w : World) (a b c d e : Value) (W : World) : Prop where
  F : Blk W w.heap.size #[a, b, c] 60
  N : Blk W (w.heap.size + 1) #[d, e] 53
  bel : Below w.heap.size w W
theorem X0.below {w : World} {a b c d e : Value} {W W1 : World} (h : X0 w a b c d e W) (hb : Below W.heap.size W W1) : X0 w a b c d e W1 := ⟨h.F.below hb, h.N.below hb, below_of h.bel hb⟩
theorem X0.drewN {w : World} {a b c d e : Value} {W : World} (h : X0 w a b c d e W) (n : Nat) : X0 w a b c d e (W.drewN n) := ⟨h.F.drewN n, h.N.drewN n, below_drewN h.bel n⟩
theorem X0.drew {w : World} {a b c d e : Value} {W : World} (h : X0 w a b c d e W) : X0 w a b c d e W.drew := h.drewN 1
theorem X0.cells {w : World} {a b c d e : Value} {W : World} (h : X0 w a b c d e W) : W.cell? ⟨w.heap.size, 0, none⟩ = some a ∧ W.cell? ⟨w.heap.size, 1, none⟩ = some b ∧ W.cell? ⟨w.heap.size, 2, none⟩ = some c ∧ W.cell? ⟨w.heap.size + 1, 0, none⟩ = some d ∧ W.cell? ⟨w.heap.size + 1, 1, none⟩ = some e :=
  ⟨h.F.cells3.1, h.F.cells3.2.1, h.F.cells3.2.2, h.N.cells2.1, h.N.cells2.2⟩
/-- The copies. -/
structure X1 (w : World) (a b c d e : Value) (gf gn : Nat) (p q : Value) (S : Option Addr) (xs : List Int) (B : Option Addr) (L : List Arc) (W : World) : Prop extends X0 w a b c d e W where
  G : Blk W gf #[p, b, c] 25
  M : Blk W gn #[d, q] 34
  S : IntsAt W S xs
  L : ArcsAt W B L
theorem X1.below {w : World} {a b c d e : Value} {gf gn : Nat} {p q : Value} {S : Option Addr} {xs : List Int} {B : Option Addr} {L : List Arc} {W W1 : World} (h : X1 w a b c d e gf gn p q S xs B L W) (hb : Below W.heap.size W W1) : X1 w a b c d e gf gn p q S xs B L W1 :=
  ⟨h.toX0.below hb, h.G.below hb, h.M.below hb, h.S.below hb, h.L.below hb⟩
theorem X1.drewN {w : World} {a b c d e : Value} {gf gn : Nat} {p q : Value} {S : Option Addr} {xs : List Int} {B : Option Addr} {L : List Arc} {W : World} (h : X1 w a b c d e gf gn p q S xs B L W) (n : Nat) : X1 w a b c d e gf gn p q S xs B L (W.drewN n) :=
  ⟨h.toX0.drewN n, h.G.drewN n, h.M.drewN n, h.S, h.L⟩
set_option maxHeartbeats 4000000 in
set_option maxRecDepth 100000 in
theorem w_ExactFareRide (AS : Option Addr) (cS : Nat) (f : Fare) (A : Option Addr) (cA : Nat) (nn : Int) (L : List Arc) (Z : Option Addr) (cZ : Nat) (zone : List Int) (B : Option Addr) (cB : Nat) (ws : List Int) (w : World)
    (hS : IntsAt w AS f.single) (hsl : f.single.length ≤ 9223372036854775807) (hA : ArcsAt w A L) (hl : L.length ≤ 9223372036854775807) (hZ : IntsAt w Z zone) (hzl : zone.length ≤ 9223372036854775807) (hB : IntsAt w B ws) (hbl : ws.length ≤ 9223372036854775807) :
    Calls Try.prog 8 #[.agg #[.slice AS f.single.length cS, .int .i64 f.day, .int .i64 f.week], .agg #[.int .i64 nn, .slice A L.length cA], .slice Z zone.length cZ, .slice B ws.length cB] w fun e w' => e = .returned (.bool true) ∧ Below w.heap.size w w' := by
  have HHS := Lib.hid hS
  have HHA := Lib.hid hA
  have HHZ := Lib.hid hZ
  have HHB := Lib.hid hB
  have H1 : X0 w (.slice AS f.single.length cS) (.int .i64 f.day) (.int .i64 f.week) (.int .i64 nn) (.slice A L.length cA) ((w.alloc (.cells #[.slice AS f.single.length cS, .int .i64 f.day, .int .i64 f.week] 60)).alloc (.cells #[.int .i64 nn, .slice A L.length cA] 53)) :=
    ⟨(Blk.new w _ _).alloc _, by simpa using Blk.new (w.alloc (.cells #[.slice AS f.single.length cS, .int .i64 f.day, .int .i64 f.week] 60)) #[.int .i64 nn, .slice A L.length cA] 53, below_alloc (below_new w _) _⟩
  clear hS hA hZ hB
  go_enter Try.func8, Try.ntmps8
  by_cases hz : zone.length ≤ 1048576
  · have hzI : ¬ (1048576 : Int) < (zone.length : Int) := by omega
    by_cases hw : ws.length ≤ 1048576
    · have hwI : ¬ (1048576 : Int) < (ws.length : Int) := by omega
      have K1 := H1.cells
      obtain ⟨f0, f1, f2, n0, n1⟩ := K1
      go_wp2_with fail
      generalize (w.alloc (.cells #[.slice AS f.single.length cS, .int .i64 f.day, .int .i64 f.week] 60)).alloc (.cells #[.int .i64 nn, .slice A L.length cA] 53) = W1 at *
      refine (c_szFare AS f.single.length cS f.day f.week 1048576 W1 hsl (by omega) (by omega)).mono ?_
      rintro e W2 ⟨rfl, hb⟩
      have H2 := H1.below hb
      have hr := szI_range f.single.length 1048576 (by omega) (by omega)
      obtain ⟨s, hs⟩ : ∃ s, s = szI f.single.length 1048576 := ⟨_, rfl⟩
      rw [← hs] at hr ⊢
      clear H1 hb hs f0 f1 f2 n0 n1
      obtain ⟨f0, f1, f2, n0, n1⟩ := H2.cells
      by_cases hs0 : s < 0
      · go_wp2_with fail
        go_ret
        exact ⟨rfl, H2.bel⟩
      · have hS1 : f.single.length ≤ 1048576 := by omega
        have hs1 : (0 : Int) ≤ s := by omega
        have hs2 : s ≤ 1048576 := by omega
        go_wp2_with fail
        refine (c_szNet A L.length cA nn s W2 hl hs1 hs2).mono ?_
        rintro e W3 ⟨rfl, hb⟩
        have H3 := H2.below hb
        have hr2 := szI_range L.length s (by omega) hs2
        obtain ⟨t, ht⟩ : ∃ t, t = szI L.length s := ⟨_, rfl⟩
        rw [← ht] at hr2 ⊢
        clear H2 hb ht hr f0 f1 f2 n0 n1
        obtain ⟨f0, f1, f2, n0, n1⟩ := H3.cells
        by_cases ht0 : t < 0
        · go_wp2_with fail
          go_ret
          exact ⟨rfl, H3.bel⟩
        · have hL : L.length ≤ 1048576 := by omega
          go_wp2_with fail
          have HX3 : Hid (X0 w (.slice AS f.single.length cS) (.int .i64 f.day) (.int .i64 f.week) (.int .i64 nn) (.slice A L.length cA) W3.drew) := H3.drew
          clear H3 hr2 hs0 ht0 hs1 hs2
          go_region_held3 (fun w' => w'.cell? ⟨w.heap.size, 0, none⟩ = some (.slice AS f.single.length cS) ∧ w'.cell? ⟨w.heap.size, 1, none⟩ = some (.int .i64 f.day) ∧ w'.cell? ⟨w.heap.size, 2, none⟩ = some (.int .i64 f.week) ∧ w'.cell? ⟨w.heap.size + 1, 0, none⟩ = some (.int .i64 nn) ∧ w'.cell? ⟨w.heap.size + 1, 1, none⟩ = some (.slice A L.length cA))
            (first | exact kp8 | exact kp7 | exact kp6 | exact kp5 | exact kp4 | go_keep)
            ((first
              | (go_at_call 38; refine (c_toFare AS cS f W3.drew (HHS.out.below HX3.out.bel) hS1).mono ?_; rintro e W4 ⟨S4, k4, rfl, hk4, hO4, hb4⟩; have HX4 := Lib.hid (HX3.out.below hb4); have HO4 := Lib.hid hO4.ints; have kp4 := HX4.out.cells; clear hO4 hb4)
              | (go_at_call 31; refine (c_toNet A cA nn L W4 (HHA.out.below HX4.out.bel) hL).mono ?_; rintro e W5 ⟨B5, k5, rfl, hk5, hO5, hb5⟩; have HX5 := Lib.hid (HX4.out.below hb5); have HS5 := Lib.hid (HO4.out.below hb5); have HL5 := Lib.hid hO5.arcs; have kp5 := HX5.out.cells; clear hO5 hb5)
              | (go_at_call 39; have hh6 := HX6; clear hh6; refine (c_toIntS B cB ws W6 (HHB.out.below HX6.out.bel) hw).mono ?_; rintro e W7 ⟨v7, rfl, hO7, hb7⟩; obtain ⟨B7, k7, e7, hk7, hI7⟩ := hO7.shape; subst e7; have HX7 := Lib.hid (HX6.out.below hb7); have HS7 := Lib.hid (HS6.out.below hb7); have HL7 := Lib.hid (HL6.out.below hb7); have HZ7 := Lib.hid (HZ6.out.below hb7); have HB7 := Lib.hid hI7; have kp7 := HX7.out.cells; clear hO7 hI7 hb7)
              | (go_at_call 39; refine (c_toIntS Z cZ zone W5 (HHZ.out.below HX5.out.bel) hz).mono ?_; rintro e W6 ⟨v6, rfl, hO6, hb6⟩; obtain ⟨Z6, k6, e6, hk6, hI6⟩ := hO6.shape; subst e6; have HX6 := Lib.hid (HX5.out.below hb6); have HS6 := Lib.hid (HS5.out.below hb6); have HL6 := Lib.hid (HL5.out.below hb6); have HZ6 := Lib.hid hI6; have kp6 := HX6.out.cells; clear hO6 hI6 hb6)
              | (go_at_call 23; refine (c_specFareRide S4 k4 f B5 k5 nn L Z6 k6 zone B7 k7 ws W7 HS7.out (by omega) HL7.out (by omega) HZ7.out (by omega) HB7.out (by omega)).mono ?_; rintro e W8 ⟨rfl, hb8⟩; have HX8 := Lib.hid (HX7.out.below hb8); have kp8 := HX8.out.cells; clear hb8)))
          rename_i hHeld
          clear hHeld kp4 kp5 kp6 kp7 kp8 HX4 HO4 hk4 HX5 HS5 HL5 hk5 HX6 HS6 HL6 HZ6 hk6 HX7 HS7 HL7 HZ7 HB7 hk7 HX3 f0 f1 f2 n0 n1
          obtain ⟨r, hr⟩ : ∃ r, r = rideI f nn L zone ws := ⟨_, rfl⟩
          rw [← hr]
          have HR := Lib.hid hr
          have err : (r != r) = false := by simp
          clear hr
          obtain ⟨f0, f1, f2, n0, n1⟩ := HX8.out.cells
          go_wp2_with fail
          refine (c_toFare AS cS f W8 (HHS.out.below HX8.out.bel) hS1).mono ?_
          rintro e W9 ⟨S9, k9, rfl, hk9, hO9, hb9⟩
          have H9 := HX8.out.below hb9
          have G10 := Blk.new W9 #[.slice S9 f.single.length k9, .int .i64 f.day, .int .i64 f.week] 25
          have H10 := H9.below (below_new W9 (.cells #[.slice S9 f.single.length k9, .int .i64 f.day, .int .i64 f.week] 25))
          have S10 := hO9.ints.below (below_new W9 (.cells #[.slice S9 f.single.length k9, .int .i64 f.day, .int .i64 f.week] 25))
          clear hO9 hb9 H9 HX8 f0 f1 f2 n0 n1
          obtain ⟨f0, f1, f2, n0, n1⟩ := H10.cells
          go_wp2_with fail
          generalize W9.alloc (.cells #[.slice S9 f.single.length k9, .int .i64 f.day, .int .i64 f.week] 25) = W10 at *
          generalize W9.heap.size = gf at *
          refine (c_toNet A cA nn L W10 (HHA.out.below H10.bel) hL).mono ?_
          rintro e W11 ⟨B11, k11, rfl, hk11, hO11, hb11⟩
          have M12 := Blk.new W11 #[.int .i64 nn, .slice B11 L.length k11] 34
          have H11 := H10.below hb11
          have H12 := H11.below (below_new W11 (.cells #[.int .i64 nn, .slice B11 L.length k11] 34))
          have G12 := (G10.below hb11).alloc (.cells #[.int .i64 nn, .slice B11 L.length k11] 34)
          have S12 := (S10.below hb11).below (below_new W11 (.cells #[.int .i64 nn, .slice B11 L.length k11] 34))
          have L12 := hO11.arcs.below (below_new W11 (.cells #[.int .i64 nn, .slice B11 L.length k11] 34))
          clear hO11 hb11 H10 G10 S10 H11 f0 f1 f2 n0 n1
          go_wp2_with fail
          generalize W11.alloc (.cells #[.int .i64 nn, .slice B11 L.length k11] 34) = W12 at *
          generalize W11.heap.size = gn at *
          have X12 : X1 w (.slice AS f.single.length cS) (.int .i64 f.day) (.int .i64 f.week) (.int .i64 nn) (.slice A L.length cA) gf gn (.slice S9 f.single.length k9) (.slice B11 L.length k11) S9 f.single B11 L W12 := ⟨H12, G12, M12, S12, L12⟩
          clear H12 G12 M12 S12 L12
          refine (c_toIntS Z cZ zone W12 (HHZ.out.below X12.bel) hz).mono ?_
          rintro e W13 ⟨v13, rfl, hO13, hb13⟩
          obtain ⟨Z13, k13, rfl, hk13, hI13⟩ := hO13.shape
          have X13 := X12.below hb13
          clear X12 hO13 hb13
          go_wp2_with fail
          refine (c_toIntS B cB ws W13 (HHB.out.below X13.bel) hw).mono ?_
          rintro e W14 ⟨v14, rfl, hO14, hb14⟩
          obtain ⟨B14, k14, rfl, hk14, hI14⟩ := hO14.shape
          have X14 := X13.below hb14
          have Z14 := hI13.below hb14
          clear X13 hI13 hO14 hb14
          obtain ⟨g0, g1, g2⟩ := X14.G.cells3
          obtain ⟨m0, m1⟩ := X14.M.cells2
          go_wp2_with fail
          refine (c_FareRide S9 k9 f B11 k11 nn L Z13 k13 zone B14 k14 ws W14 X14.S (by omega) X14.L (by omega) Z14 (by omega) hI14 (by omega)).mono ?_
          rintro e W15 ⟨rfl, hb15⟩
          rw [← HR.out]
          have X15 := X14.below hb15
          have Z15 := Z14.below hb15
          have V15 := hI14.below hb15
          clear X14 Z14 hI14 hb15 g0 g1 g2 m0 m1 HR
          obtain ⟨g0, g1, g2⟩ := X15.G.cells3
          obtain ⟨f0, f1, f2, _, _⟩ := X15.cells
          go_wp2_with fail
          have HX15 := Lib.hid (X15.drewN 1)
          have HZ15 : Hid (IntsAt (W15.drewN 1) Z13 zone) := Z15
          have HV15 : Hid (IntsAt (W15.drewN 1) B14 ws) := V15
          clear X15 Z15 V15
          go_region_held3 (fun w' => w'.cell? ⟨gf, 0, none⟩ = some (.slice S9 f.single.length k9) ∧ w'.cell? ⟨gf, 1, none⟩ = some (.int .i64 f.day) ∧ w'.cell? ⟨gf, 2, none⟩ = some (.int .i64 f.week) ∧ w'.cell? ⟨w.heap.size, 0, none⟩ = some (.slice AS f.single.length cS) ∧ w'.cell? ⟨w.heap.size, 1, none⟩ = some (.int .i64 f.day) ∧ w'.cell? ⟨w.heap.size, 2, none⟩ = some (.int .i64 f.week))
            (first | exact kp17 | exact kp16 | go_keep)
            ((first
              | (go_at_call 38; refine (c_toFare AS cS f W15.drew (HHS.out.below HX15.out.bel) hS1).mono ?_; rintro e W16 ⟨S16, k16, rfl, hk16, hO16, hb16⟩; have HX16 := Lib.hid (HX15.out.below hb16); have HO16 := Lib.hid hO16.ints; have HZ16 := Lib.hid (HZ15.out.below hb16); have HV16 := Lib.hid (HV15.out.below hb16); have kp16 := (⟨HX16.out.G.cells3.1, HX16.out.G.cells3.2.1, HX16.out.G.cells3.2.2, HX16.out.F.cells3.1, HX16.out.F.cells3.2.1, HX16.out.F.cells3.2.2⟩ : _ ∧ _ ∧ _ ∧ _ ∧ _ ∧ _); clear hO16 hb16)
              | (go_at_call 40; refine (c_eqFare S9 S16 k9 k16 f W16 HX16.out.S HO16.out (by omega)).mono ?_; rintro e W17 ⟨rfl, hb17⟩; have HX17 := Lib.hid (HX16.out.below hb17); have HZ17 := Lib.hid (HZ16.out.below hb17); have HV17 := Lib.hid (HV16.out.below hb17); have kp17 := (⟨HX17.out.G.cells3.1, HX17.out.G.cells3.2.1, HX17.out.G.cells3.2.2, HX17.out.F.cells3.1, HX17.out.F.cells3.2.1, HX17.out.F.cells3.2.2⟩ : _ ∧ _ ∧ _ ∧ _ ∧ _ ∧ _); clear hb17)))
          rename_i hHeld
          clear hHeld kp16 kp17 HX15 HZ15 HV15 HX16 HO16 HZ16 HV16 hk16 g0 g1 g2 f0 f1 f2
          obtain ⟨m0, m1⟩ := HX17.out.M.cells2
          obtain ⟨_, _, _, n0, n1⟩ := HX17.out.cells
          go_wp2_with fail
          have HX18 := Lib.hid (HX17.out.drewN 1)
          have HZ18 : Hid (IntsAt (W17.drewN 1) Z13 zone) := HZ17.out
          have HV18 : Hid (IntsAt (W17.drewN 1) B14 ws) := HV17.out
          clear HX17 HZ17 HV17
          go_region_held3 (fun w' => w'.cell? ⟨gn, 0, none⟩ = some (.int .i64 nn) ∧ w'.cell? ⟨gn, 1, none⟩ = some (.slice B11 L.length k11) ∧ w'.cell? ⟨w.heap.size + 1, 0, none⟩ = some (.int .i64 nn) ∧ w'.cell? ⟨w.heap.size + 1, 1, none⟩ = some (.slice A L.length cA))
            (first | exact kp20 | exact kp19 | go_keep)
            ((first
              | (go_at_call 31; refine (c_toNet A cA nn L W17.drew (HHA.out.below HX18.out.bel) hL).mono ?_; rintro e W19 ⟨B19, k19, rfl, hk19, hO19, hb19⟩; have HX19 := Lib.hid (HX18.out.below hb19); have HO19 := Lib.hid hO19.arcs; have HZ19 := Lib.hid (HZ18.out.below hb19); have HV19 := Lib.hid (HV18.out.below hb19); have kp19 := (⟨HX19.out.M.cells2.1, HX19.out.M.cells2.2, HX19.out.N.cells2.1, HX19.out.N.cells2.2⟩ : _ ∧ _ ∧ _ ∧ _); clear hO19 hb19)
              | (go_at_call 33; refine (c_eqNet B11 B19 k11 k19 nn L W19 HX19.out.L HO19.out (by omega)).mono ?_; rintro e W20 ⟨rfl, hb20⟩; have HX20 := Lib.hid (HX19.out.below hb20); have HZ20 := Lib.hid (HZ19.out.below hb20); have HV20 := Lib.hid (HV19.out.below hb20); have kp20 := (⟨HX20.out.M.cells2.1, HX20.out.M.cells2.2, HX20.out.N.cells2.1, HX20.out.N.cells2.2⟩ : _ ∧ _ ∧ _ ∧ _); clear hb20)))
          rename_i hHeld
          clear hHeld kp19 kp20 HX18 HZ18 HV18 HX19 HO19 HZ19 HV19 hk19 m0 m1 n0 n1
          have HB20 := Lib.hid HX20.out.bel
          clear HX20
          go_wp2_with fail
          refine (c_toIntS Z cZ zone W20 (HHZ.out.below HB20.out) hz).mono ?_
          rintro e W21 ⟨v21, rfl, hO21, hb21⟩
          obtain ⟨Z21, k21, rfl, hk21, hI21⟩ := hO21.shape
          have HB21 := Lib.hid (below_of HB20.out hb21)
          have HV21 := Lib.hid (HV20.out.below hb21)
          have HZ21 := Lib.hid (HZ20.out.below hb21)
          clear hO21 hb21 HB20 HV20 HZ20
          go_wp2_with fail
          refine (c_eqIntS Z13 Z21 k13 k21 zone zone W21 HZ21.out hI21 (by omega)).mono ?_
          rintro e W22 ⟨rfl, n22, h22⟩
          rw [eqB_iff.2 rfl]
          have HB22 : Hid (Below w.heap.size w W22) := by rw [h22]; exact below_drewN HB21.out n22
          have HV22 : Hid (IntsAt W22 B14 ws) := by rw [h22]; exact HV21.out
          clear h22 HB21 HV21 HZ21 hI21
          go_wp2_with fail
          refine (c_toIntS B cB ws W22 (HHB.out.below HB22.out) hw).mono ?_
          rintro e W23 ⟨v23, rfl, hO23, hb23⟩
          obtain ⟨B23, k23, rfl, hk23, hI23⟩ := hO23.shape
          have HB23 := Lib.hid (below_of HB22.out hb23)
          have HV23 := Lib.hid (HV22.out.below hb23)
          clear hO23 hb23 HB22 HV22
          go_wp2_with fail
          refine (c_eqIntS B14 B23 k14 k23 ws ws W23 HV23.out hI23 (by omega)).mono ?_
          rintro e W24 ⟨rfl, n24, h24⟩
          rw [eqB_iff.2 rfl]
          have HB24 : Hid (Below w.heap.size w W24) := by rw [h24]; exact below_drewN HB23.out n24
          clear h24 HB23 HV23 hI23
          go_wp2_with fail
          go_ret
          exact ⟨rfl, HB24.out⟩
    · have hwI : (1048576 : Int) < (ws.length : Int) := by omega
      go_wp2_with fail
      go_ret
      exact ⟨rfl, H1.bel⟩
  · have hzI : (1048576 : Int) < (zone.length : Int) := by omega
    go_wp2_with fail
    go_ret
    exact ⟨rfl, H1.bel⟩
end Go.Proofs.Ythglnmhcgagkdaa
