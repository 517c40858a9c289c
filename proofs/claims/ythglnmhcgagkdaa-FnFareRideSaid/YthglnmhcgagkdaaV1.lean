/- Walk: FnFareRide. -/
import Derived.Test.YthglnmhcgagkdaaV0
import Derived.Test.YthglnmhcgagkdaaU3
namespace Go.Proofs.Ythglnmhcgagkdaa
open Go.RowKit
theorem run_take (g o n c : Nat) (k : Int) (h0 : 0 ≤ k) (hk : k ≤ c) (w : World) :
    (Instr.slice 23 (.slice (some ⟨g, o, none⟩) n c) none (some (.int .i64 k)) none).run Try.prog w = .ok (.slice (some ⟨g, o, none⟩) k.toNat c) w := by
  obtain ⟨i0, hi, hz⟩ := Option.map_eq_some_iff.1 info3
  simp only [Prod.mk.injEq] at hz
  obtain ⟨hz0, hz1, hz2⟩ := hz
  have hu : Try.prog.underlying 23 = some (.slice (Try.prog.elem 23)) := by rw [elem23]; exact Try.underlying23
  have ht : (Instr.slice 23 (.slice (some ⟨g, o, none⟩) n c) none (some (.int .i64 k)) none).run Try.prog w = _ := run_slice_h w 23 (some ⟨g, o, none⟩) n c hu .i64 k h0 hk
  rw [ht, elem23]
  have hadd : (⟨g, o, none⟩ : Addr).add 0 = ⟨g, o, none⟩ := by unfold Addr.add; split <;> simp_all
  simp [sizeOf, typeInfo, hi, hz1, sliced, Result.andThen, hadd]
theorem run_make23 (n : Nat) (hn : n ≤ 1000000000) (w : World) : (Instr.makeSlice 23 (.int .i64 (n : Int)) (.int .i64 (n : Int))).run Try.prog w = .ok (.slice (some ⟨w.heap.size, 0, none⟩) n n) (w.alloc (.cells (nums (List.replicate n 0)).toArray 3)) := by
  obtain ⟨i0, hi, hz⟩ := Option.map_eq_some_iff.1 info3
  simp only [Prod.mk.injEq] at hz
  obtain ⟨hz0, hz1, hz2⟩ := hz
  rw [run_make w 23 3 i0 (.int .i64 0) Try.underlying23 hi hz0 .i64 .i64 n n (by omega) (Int.le_refl _) (by rw [hz2]; omega) (by omega)]
  have e : madeCells (Value.int .i64 0).cells ((n : Int).toNat * i0.size) = (nums (List.replicate n 0)).toArray := by
    apply Array.ext'
    rw [hz1, Int.toNat_natCast, madeCells_int]
  rw [e, Int.toNat_natCast]
theorem IntsAt.take {w : World} {A : Option Addr} {xs : List Int} (h : IntsAt w A xs) (k : Nat) : IntsAt w A (xs.take k) := fun hp => by
  rw [List.length_take] at hp
  obtain ⟨g, o, e, hg, hc⟩ := h (by omega)
  refine ⟨g, o, e, hg, fun i hi => ?_⟩
  rw [List.length_take] at hi
  rw [hc i (by omega)]
  simp [List.getD_eq_getElem?_getD, show i < k by omega]
structure LSt (w : World) (bf bn : Nat) (a b c d e : Value) (AS : Option Addr) (xs : List Int) (A : Option Addr) (L : List Arc) (Z : Option Addr) (zone : List Int) (B : Option Addr) (ws : List Int) (W : World) : Prop where
  F : Blk W bf #[a, b, c] 25
  N : Blk W bn #[d, e] 34
  S : IntsAt W AS xs
  L : ArcsAt W A L
  Z : IntsAt W Z zone
  V : IntsAt W B ws
  H : Below w.heap.size w W
theorem LSt.below {w : World} {bf bn : Nat} {a b c d e : Value} {AS : Option Addr} {xs : List Int} {A : Option Addr} {L : List Arc} {Z : Option Addr} {zone : List Int} {B : Option Addr} {ws : List Int} {W W1 : World} (h : LSt w bf bn a b c d e AS xs A L Z zone B ws W) (hb : Below W.heap.size W W1) : LSt w bf bn a b c d e AS xs A L Z zone B ws W1 :=
  ⟨h.F.below hb, h.N.below hb, h.S.below hb, h.L.below hb, h.Z.below hb, h.V.below hb, below_of h.H hb⟩
set_option maxHeartbeats 4000000 in
set_option maxRecDepth 100000 in
theorem w_FareRide (A0 : Option Addr) (n c : Nat) (A1 : Option Addr) (n1 c1 : Nat) (w : World) (h : BytesAt w A0 n) (hc : n ≤ c) (hn9 : n ≤ 9223372036854775807) (hm9 : n1 ≤ 9223372036854775807) :
    Calls Try.prog 5 #[.slice A0 n c, .slice A1 n1 c1] w (fun e w' => e = .returned (.bool true) ∧ Below w.heap.size w w') := by
  by_cases hn : n ≤ 1048576
  · have hnI : ¬ (1048576 : Int) < (n : Int) := by omega
    by_cases hm : n1 ≤ 1048576
    · have hmI : ¬ (1048576 : Int) < (n1 : Int) := by omega
      go_enter Try.func5, Try.ntmps5
      go_wp2_with fail
      refine (c_DrawFareRide A0 n c w h hn hc).mono ?_
      rintro e w1 ⟨AS, cS, f, nn, A, cA, L, Z, cZ, zone, B, cB, ws, rfl, ⟨hS, hSl⟩, ⟨hA, hL⟩, ⟨hZ, hZl⟩, ⟨hB, hBl, hBc⟩, hb1⟩
      have HB1 := below_alloc (below_alloc hb1 (.cells #[.slice AS f.single.length cS, .int .i64 f.day, .int .i64 f.week] 25)) (.cells #[.int .i64 nn, .slice A L.length cA] 34)
      have hbb := below_alloc (below_new w1 (.cells #[.slice AS f.single.length cS, .int .i64 f.day, .int .i64 f.week] 25)) (.cells #[.int .i64 nn, .slice A L.length cA] 34)
      have F1 := (Blk.new w1 #[.slice AS f.single.length cS, .int .i64 f.day, .int .i64 f.week] 25).alloc (.cells #[.int .i64 nn, .slice A L.length cA] 34)
      have N1 : Blk ((w1.alloc (.cells #[.slice AS f.single.length cS, .int .i64 f.day, .int .i64 f.week] 25)).alloc (.cells #[.int .i64 nn, .slice A L.length cA] 34)) (w1.heap.size + 1) #[.int .i64 nn, .slice A L.length cA] 34 := by simpa using Blk.new (w1.alloc (.cells #[.slice AS f.single.length cS, .int .i64 f.day, .int .i64 f.week] 25)) #[.int .i64 nn, .slice A L.length cA] 34
      have T1 : LSt w w1.heap.size (w1.heap.size + 1) (.slice AS f.single.length cS) (.int .i64 f.day) (.int .i64 f.week) (.int .i64 nn) (.slice A L.length cA) AS f.single A L Z zone B ws ((w1.alloc (.cells #[.slice AS f.single.length cS, .int .i64 f.day, .int .i64 f.week] 25)).alloc (.cells #[.int .i64 nn, .slice A L.length cA] 34)) :=
        ⟨F1, N1, hS.below hbb, hA.below hbb, hZ.below hbb, hB.below hbb, HB1⟩
      clear hS hA hZ hB hbb hb1 h F1 N1 HB1
      obtain ⟨c0, c1, c2⟩ := T1.F.cells3
      obtain ⟨d0, d1⟩ := T1.N.cells2
      go_wp2_with fail
      generalize (w1.alloc (.cells #[.slice AS f.single.length cS, .int .i64 f.day, .int .i64 f.week] 25)).alloc (.cells #[.int .i64 nn, .slice A L.length cA] 34) = W1 at *
      obtain ⟨bn, hbn⟩ : ∃ x, x = w1.heap.size + 1 := ⟨_, rfl⟩
      rw [← hbn] at T1 d0 d1 ⊢
      generalize w1.heap.size = bf at *
      refine (c_FareRide AS cS f A cA nn L Z cZ zone B cB ws W1 T1.S (by omega) T1.L (by omega) T1.Z (by omega) T1.V (by omega)).mono ?_
      rintro e W2 ⟨rfl, hb2⟩
      obtain ⟨r, hr⟩ : ∃ r, r = rideI f nn L zone ws := ⟨_, rfl⟩
      rw [← hr]
      have HR := Lib.hid hr
      have T2 := T1.below hb2
      clear T1 hb2 c0 c1 c2 d0 d1 hbn hr
      obtain ⟨b, hb⟩ : ∃ b, b = fareOkB f := ⟨_, rfl⟩
      have HB := Lib.hid hb
      clear hb
      have ern : (r != r) = false := by simp
      have ere : (r == r) = true := by simp
      have ebn : (b != b) = false := by simp
      have ebe : (b == b) = true := by simp
      have HC23 : ∀ W, LSt w bf bn (.slice AS f.single.length cS) (.int .i64 f.day) (.int .i64 f.week) (.int .i64 nn) (.slice A L.length cA) AS f.single A L Z zone B ws W → Calls Try.prog 23 #[.agg #[.slice AS f.single.length cS, .int .i64 f.day, .int .i64 f.week], .agg #[.int .i64 nn, .slice A L.length cA], .slice Z zone.length cZ, .slice B ws.length cB] W fun e w' => e = .returned (.int .i64 r) ∧ Below W.heap.size W w' := fun W hW => by
        rw [HR.out]; exact c_specFareRide AS cS f A cA nn L Z cZ zone B cB ws W hW.S (by omega) hW.L (by omega) hW.Z (by omega) hW.V (by omega)
      have HC24 : ∀ W, LSt w bf bn (.slice AS f.single.length cS) (.int .i64 f.day) (.int .i64 f.week) (.int .i64 nn) (.slice A L.length cA) AS f.single A L Z zone B ws W → Calls Try.prog 24 #[.agg #[.slice AS f.single.length cS, .int .i64 f.day, .int .i64 f.week]] W fun e w' => e = .returned (.bool b) ∧ Below W.heap.size W w' := fun W hW => by
        rw [HB.out]; exact c_FareOk AS cS f W hW.S (by omega)
      have HC25 : ∀ W, LSt w bf bn (.slice AS f.single.length cS) (.int .i64 f.day) (.int .i64 f.week) (.int .i64 nn) (.slice A L.length cA) AS f.single A L Z zone B ws W → Calls Try.prog 25 #[.agg #[.slice AS f.single.length cS, .int .i64 f.day, .int .i64 f.week]] W fun e w' => e = .returned (.bool b) ∧ Below W.heap.size W w' := fun W hW => by
        rw [HB.out]; exact c_specFareOk AS cS f W hW.S (by omega)
      have H23 := Lib.hid HC23
      have H24 := Lib.hid HC24
      have H25 := Lib.hid HC25
      clear HC23 HC24 HC25 HB
      obtain ⟨c0, c1, c2⟩ := T2.F.cells3
      obtain ⟨d0, d1⟩ := T2.N.cells2
      by_cases hr0 : r < 0
      · have hd : decide (r < 0) = true := decide_eq_true hr0
        clear hr0
        go_wp2_with fail
        have k0 := cell_regrown c0
        have k1 := cell_regrown c1
        have k2 := cell_regrown c2
        have k3 := cell_regrown d0
        have k4 := cell_regrown d1
        have G23 := Lib.hid (regrown_call (w := W2) (fun w1 hw1 => H23.out w1 (T2.below hw1)))
        have G24 := Lib.hid (regrown_call (w := W2) (fun w1 hw1 => H24.out w1 (T2.below hw1)))
        have G25 := Lib.hid (regrown_call (w := W2) (fun w1 hw1 => H25.out w1 (T2.below hw1)))
        refine wp_region_quiet_below (by kernel_rfl) (by kernel_rfl) ?_
        repeat (quiet_step (first | (go_at_call 23; exact G23.out _ _) | (go_at_call 24; exact G24.out _ _) | (go_at_call 25; exact G25.out _ _)))
        refine wpQuiet_nil ?_
        intro _ hw'
        obtain ⟨⟨dq, osq⟩, hw''⟩ := hw'
        subst hw''
        have T3 := T2.below (below_regrown W2 dq osq)
        clear k0 k1 k2 k3 k4 G23 G24 G25 c0 c1 c2 d0 d1 T2 hd
        generalize Go.Sort.grow (redrawn W2 dq) osq = W3 at *
        obtain ⟨c0, c1, c2⟩ := T3.F.cells3
        obtain ⟨d0, d1⟩ := T3.N.cells2
        go_wp2_with fail
        have k0 := cell_regrown c0
        have k1 := cell_regrown c1
        have k2 := cell_regrown c2
        have k3 := cell_regrown d0
        have k4 := cell_regrown d1
        have G23 := Lib.hid (regrown_call (w := W3) (fun w1 hw1 => H23.out w1 (T3.below hw1)))
        have G24 := Lib.hid (regrown_call (w := W3) (fun w1 hw1 => H24.out w1 (T3.below hw1)))
        have G25 := Lib.hid (regrown_call (w := W3) (fun w1 hw1 => H25.out w1 (T3.below hw1)))
        refine wp_region_quiet_below (by kernel_rfl) (by kernel_rfl) ?_
        repeat (quiet_step (first | (go_at_call 23; exact G23.out _ _) | (go_at_call 24; exact G24.out _ _) | (go_at_call 25; exact G25.out _ _)))
        refine wpQuiet_nil ?_
        intro _ hw'
        obtain ⟨⟨dq, osq⟩, hw''⟩ := hw'
        subst hw''
        have T4 := Lib.hid (T3.below (below_regrown W3 dq osq))
        clear k0 k1 k2 k3 k4 G23 G24 G25 c0 c1 c2 d0 d1 T3 H23 H24 H25
        generalize Go.Sort.grow (redrawn W3 dq) osq = W4 at *
        go_wp2_with fail
        go_ret
        exact ⟨rfl, T4.out.H⟩
      · have hd : decide (r < 0) = false := decide_eq_false hr0
        have hok : RideOk f nn L zone ws := ride_ok (by rw [← HR.out]; omega)
        have hw0 : 0 < ws.length := hok.p
        have hnp := netP hok.N
        obtain ⟨nz, hnz⟩ := Int.eq_ofNat_of_zero_le (show 0 ≤ nn by omega)
        have hnz8 : nz ≤ 8 := by omega
        have hs4 := (fare_sorted hok.F).1
        obtain ⟨u, hu⟩ : ∃ u, u = n1 % ws.length := ⟨_, rfl⟩
        have hul : u < ws.length := by rw [hu]; exact Nat.mod_lt _ hw0
        have e1 : (n1 : Int).tmod (ws.length : Int) = (u : Int) := by rw [hu, Int.ofNat_tmod]
        have hwz : ¬ ((ws.length : Int) = 0) := by omega
        obtain ⟨wt, hwt⟩ : ∃ wt, wt = ws.take (u + 1) := ⟨_, rfl⟩
        have hwl : wt.length = u + 1 := by rw [hwt, List.length_take]; omega
        obtain ⟨r1, hr1⟩ : ∃ r1, r1 = rideI f nn L zone wt := ⟨_, rfl⟩
        have hle1 : decide (r1 ≤ r) = true := decide_eq_true (by rw [hr1, HR.out, hwt]; exact ride_part hok (Nat.succ_pos u))
        obtain ⟨y, hy⟩ : ∃ y, y = f.single.getD 0 0 := ⟨_, rfl⟩
        have hle2 : decide (y ≤ r) = true := decide_eq_true (by rw [hy, HR.out]; exact ride_least hok)
        have hyy : (y == y) = true := by simp
        have HY : Hid (rideI f nn L (List.replicate nz 0) ws = y) := by show _ = _; rw [hnz] at hok ⊢; rw [hy]; exact ride_zero hok
        have HR1 := Lib.hid hr1
        have HWT := Lib.hid hwt
        obtain ⟨sg, so, es, _, hsc⟩ := T2.S (by omega)
        have x0 := hsc 0 (by omega)
        rw [← hy] at x0
        simp only [Nat.add_zero] at x0
        obtain ⟨bg, bo, eb, _, _⟩ := T2.V hw0
        have hnp1 := hnp.1
        clear hr0 hok hnp hu hwt hr1 hy hsc HR
        subst es eb hnz
        have hsl : ∀ W, (Instr.slice 23 (.slice (some ⟨bg, bo, none⟩) ws.length cB) none (some (.int .i64 (1 + (u : Int)))) none).run Try.prog W = .ok (.slice (some ⟨bg, bo, none⟩) wt.length cB) W := fun W => by
          rw [run_take bg bo ws.length cB (1 + (u : Int)) (by omega) (by omega) W, hwl, show (1 + (u : Int)).toNat = u + 1 by omega]
        have hs0 : (0 : Int) < (f.single.length : Int) := by omega
        have hs0n : 0 < f.single.length := by omega
        obtain ⟨X, hX⟩ : ∃ X, X = (nums (List.replicate nz 0)).toArray := ⟨_, rfl⟩
        have hmk : ∀ W, (Instr.makeSlice 23 (.int .i64 (nz : Int)) (.int .i64 (nz : Int))).run Try.prog W = .ok (.slice (some ⟨W.heap.size, 0, none⟩) nz nz) (W.alloc (.cells X 3)) := fun W => by rw [hX]; exact run_make23 nz (by omega) W
        have HXX := Lib.hid hX
        have HS4 := Lib.hid hs4
        have HWL := Lib.hid hwl
        clear hs4 hwl hX
        go_wp2_with fail
        have k0 := cell_regrown c0
        have k1 := cell_regrown c1
        have k2 := cell_regrown c2
        have k3 := cell_regrown d0
        have k4 := cell_regrown d1
        have k5 := cell_regrown x0
        have G23 := Lib.hid (regrown_call (w := W2) (fun w1 hw1 => H23.out w1 (T2.below hw1)))
        have G24 := Lib.hid (regrown_call (w := W2) (fun w1 hw1 => H24.out w1 (T2.below hw1)))
        have G25 := Lib.hid (regrown_call (w := W2) (fun w1 hw1 => H25.out w1 (T2.below hw1)))
        refine wp_region_quiet_below (by kernel_rfl) (by kernel_rfl) ?_
        repeat (quiet_step (first | (go_at_call 23; exact G23.out _ _) | (go_at_call 24; exact G24.out _ _) | (go_at_call 25; exact G25.out _ _)))
        refine wpQuiet_nil ?_
        intro _ hw'
        obtain ⟨⟨dq, osq⟩, hw''⟩ := hw'
        subst hw''
        have T3 := T2.below (below_regrown W2 dq osq)
        have x3 := k5 dq osq
        clear k0 k1 k2 k3 k4 k5 G23 G24 G25 c0 c1 c2 d0 d1 T2 hd H23 H24 H25 x0
        generalize Go.Sort.grow (redrawn W2 dq) osq = W3 at *
        obtain ⟨c0, c1, c2⟩ := T3.F.cells3
        obtain ⟨d0, d1⟩ := T3.N.cells2
        go_wp2_with fail
        have HT3 := Lib.hid (T3.below ((Below.refl _ W3).drew))
        have hsgl : sg < W3.drew.heap.size := by
          obtain ⟨_, _, e, hl, _⟩ := T3.S (by have := HS4.out; omega)
          injection e with e
          injection e with e1 e2
          subst e1
          exact hl
        clear T3
        go_region_held3 (fun w' => w'.cell? ⟨bf, 0, none⟩ = some (.slice (some ⟨sg, so, none⟩) f.single.length cS) ∧ w'.cell? ⟨bf, 1, none⟩ = some (.int .i64 f.day) ∧ w'.cell? ⟨bf, 2, none⟩ = some (.int .i64 f.week) ∧ w'.cell? ⟨bn, 0, none⟩ = some (.int .i64 nz) ∧ w'.cell? ⟨bn, 1, none⟩ = some (.slice A L.length cA) ∧ w'.cell? ⟨sg, so, none⟩ = some (.int .i64 y))
          (first | exact kp6 | exact kp4 | go_keep)
          ((first
            | (go_at_call 22; have hh4 := HT4; clear hh4; have HT5 := Lib.hid (HT4.out.below (below_new W4 (.cells X 3))); have HZ5 : Hid (IntsAt (W4.alloc (.cells X 3)) (some ⟨W4.heap.size, 0, none⟩) (List.replicate nz 0)) := (by rw [HXX.out]; exact IntsAt.lit W4 (List.replicate nz 0)); have HCC := c_FareRide (some ⟨sg, so, none⟩) cS f A cA nz L (some ⟨W4.heap.size, 0, none⟩) nz (List.replicate nz 0) (some ⟨bg, bo, none⟩) cB ws (W4.alloc (.cells X 3)) HT5.out.S (by have := HS4.out; omega) HT5.out.L (by omega) HZ5.out (by rw [List.length_replicate]; omega) HT5.out.V (by omega); rw [List.length_replicate] at HCC; refine HCC.mono ?_; clear HCC; rintro e W6 ⟨rfl, hb6⟩; rw [HY.out]; have HT6 := Lib.hid (HT5.out.below hb6); have kp6 := (⟨HT6.out.F.cells3.1, HT6.out.F.cells3.2.1, HT6.out.F.cells3.2.2, HT6.out.N.cells2.1, HT6.out.N.cells2.2, (cell_keep (hb6.block sg (Nat.lt_of_lt_of_le hsg4 (below_new W4 (.cells X 3)).size)) _).trans ((cell_keep (Below.heap_alloc W4 _ sg hsg4) _).trans kp4.2.2.2.2.2)⟩ : _ ∧ _ ∧ _ ∧ _ ∧ _ ∧ _); clear hb6)
            | (go_at_call 22; refine (c_FareRide _ cS f A cA nz L Z cZ zone _ cB wt W3.drew HT3.out.S (by have := HS4.out; omega) HT3.out.L (by omega) HT3.out.Z (by omega) (by rw [HWT.out]; exact HT3.out.V.take _) (by have := HWL.out; omega)).mono ?_; rintro e W4 ⟨rfl, hb4⟩; rw [← HR1.out]; have HT4 := Lib.hid (HT3.out.below hb4); have kp4 := (⟨HT4.out.F.cells3.1, HT4.out.F.cells3.2.1, HT4.out.F.cells3.2.2, HT4.out.N.cells2.1, HT4.out.N.cells2.2, (cell_keep (hb4.block sg hsgl) _).trans x3⟩ : _ ∧ _ ∧ _ ∧ _ ∧ _ ∧ _); have hsg4 := Nat.lt_of_lt_of_le hsgl hb4.size; clear hb4)))
        rename_i hHeld
        clear hHeld kp6 kp4 HT5 HZ5 HT4 hmk hsl
        go_wp2_with fail
        go_ret
        exact ⟨rfl, HT6.out.H⟩
    · have hmI : (1048576 : Int) < (n1 : Int) := by omega
      go_enter Try.func5, Try.ntmps5
      go_wp2_with fail
      go_ret
      exact ⟨rfl, Below.refl _ _⟩
  · have hnI : (1048576 : Int) < (n : Int) := by omega
    go_enter Try.func5, Try.ntmps5
    go_wp2_with fail
    go_ret
    exact ⟨rfl, Below.refl _ _⟩
end Go.Proofs.Ythglnmhcgagkdaa
