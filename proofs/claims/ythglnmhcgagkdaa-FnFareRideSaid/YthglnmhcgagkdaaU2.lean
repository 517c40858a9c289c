/- Walks: any walk is drawn. -/
import Derived.Test.YthglnmhcgagkdaaU1
import Derived.Test.YthglnmhcgagkdaaN2
import Derived.Test.YthglnmhcgagkdaaL1
import Derived.Test.YthglnmhcgagkdaaP0
namespace Go.Proofs.Ythglnmhcgagkdaa
open Go.RowKit
theorem ints_grown {w w1 : World} {g b : Nat} {xs : List Int} (h : IntsAt w (some ⟨b, 0, none⟩) xs) (hg : w.grownBy w1 (some g)) (hne : b ≠ g) : IntsAt w1 (some ⟨b, 0, none⟩) xs :=
  h.keep (fun a e hl => hg.block a.block hl (fun e' => by injection e with e; subst e; injection e' with e'; exact hne e')) hg.size
set_option maxHeartbeats 2000000 in
set_option maxRecDepth 100000 in
theorem c_l30AnyWalk (g : Nat) (p : Int) (w : World) (nn : Int) (A : Option Addr) (cA : Nat) (L : List Arc) (h : RdAt w g p) (hL : OA w (g + 1) (.slice A L.length cA) L) (hl : L.length ≤ 16) (hp0 : 0 ≤ p) (hp1 : p ≤ 800000) :
    Calls Try.prog 70 #[.pointer (some ⟨g, 0, none⟩), .agg #[.int .i64 nn, .slice A L.length cA]] w (DrawnI g p 30 22 w) := by
  have hlt := h.lt
  have D0 : WkSt g w #[.int .i64 nn, .slice A L.length cA] L (.slice A L.length cA) [] (.slice none 0 0) p (w.alloc (.cells #[.int .i64 nn, .slice A L.length cA] 34)) :=
    ⟨⟨Blk.new w _ _, OI.nil _ _, h.below (below_new w _), World.grownBy_alloc w _ (some g)⟩, hL.below (below_new w _)⟩
  clear h hL
  obtain ⟨b, hb⟩ : ∃ b, b = netOkB ⟨nn, L⟩ := ⟨_, rfl⟩
  have HB := Lib.hid hb
  clear hb
  go_enter Try.func70, Try.ntmps70
  obtain ⟨b0, b1⟩ := D0.B.cells2
  go_wp2_with fail
  generalize w.alloc (.cells #[.int .i64 nn, .slice A L.length cA] 34) = W0 at *
  refine (c_l1Ok A cA nn L W0 D0.L.arcs' (by omega)).mono ?_
  rintro e W1 ⟨rfl, hb1⟩
  rw [← HB.out]
  have D1 := D0.below hb1
  have hs1 : w.heap.size ≤ W1.heap.size := D1.G.size
  clear D0 hb1 b0 b1
  obtain ⟨b0, b1⟩ := D1.B.cells2
  cases b with
  | false =>
    have hO2 : Hid (OI (W1.alloc (.cells #[.int .i64 0] 3)) w.heap.size (.slice (some ⟨W1.heap.size, 0, none⟩) 1 1) [0]) := OI.lit W1 w.heap.size [0] hs1 (by simp)
    have HT := Lib.hid (D1.below (below_new W1 (.cells #[.int .i64 0] 3)))
    go_wp2_with fail
    go_ret
    exact ⟨_, [0], rfl, hO2.out, by simp, HT.out.toDSt.took' (by omega) (by omega)⟩
  | true =>
    have hN := netP HB.out.symm
    have hn1 := hN.1
    have hn8 := hN.2.1
    clear hN
    go_wp2_with fail
    have HD2 : Hid (WkSt g w #[.int .i64 nn, .slice A L.length cA] L (.slice A L.length cA) [] (.slice none 0 0) p W1.drew) := D1.below ((Below.refl _ W1).drew)
    have HDB := Lib.hid (D1.below (below_newd W1 (.cells #[.int .i64 3, .int .i64 8, .int .i64 21] 3)))
    have HIB : Hid (IntsAt (W1.alloc (.cells #[.int .i64 3, .int .i64 8, .int .i64 21] 3)).drew (some ⟨W1.heap.size, 0, none⟩) [3, 8, 21]) := IntsAt.drew (IntsAt.lit W1 [3, 8, 21])
    have hneB : W1.heap.size ≠ g := by omega
    have HKB := Lib.hid HDB.out.B.cells2
    clear D1
    go_region_held3 (fun w' => w'.cell? ⟨w.heap.size, 0, none⟩ = some (.int .i64 nn) ∧ w'.cell? ⟨w.heap.size, 1, none⟩ = some (.slice A L.length cA))
      (first | exact kp5 | exact kp4 | exact kp3 | exact HDA.out.B.cells2 | exact HKB.out | go_keep)
      ((first
        | (go_at_call 54; refine (c_pick g p nn _ HD2.out.R hp0 (by omega) (by omega) (by omega)).mono ?_; rintro e W3 ⟨a, rfl, ha0, ha1, hr3, hg3⟩; have HD3 := Lib.hid (HD2.out.tk hlt hg3 hr3); have kp3 := HD3.out.B.cells2; have HI3 : Hid (IntsAt (W3.alloc (.cells #[.int .i64 3, .int .i64 8, .int .i64 21] 3)) (some ⟨W3.heap.size, 0, none⟩) [3, 8, 21]) := IntsAt.lit W3 [3, 8, 21]; have HDA := Lib.hid (HD3.out.below (below_new W3 (.cells #[.int .i64 3, .int .i64 8, .int .i64 21] 3))); have hne : W3.heap.size ≠ g := Nat.ne_of_gt (Nat.lt_of_lt_of_le hlt HD3.out.G.size); clear hr3 hg3)
        | (go_at_call 54; refine (c_pick g p nn _ HDB.out.R hp0 (by omega) (by omega) (by omega)).mono ?_; rintro e W3 ⟨a, rfl, ha0, ha1, hr3, hg3⟩; have HDA := Lib.hid (HDB.out.tk hlt hg3 hr3); have HI3 := Lib.hid (ints_grown HIB.out hg3 hneB); have kp3 := HDA.out.B.cells2; have hne := hneB; clear hr3 hg3)
        | (go_at_call 62; refine (c_one g (p + 1) (some ⟨W1.heap.size, 0, none⟩) 3 [3, 8, 21] _ HDA.out.R (by omega) (by omega) HI3.out (by simp) (by simp) (fun a ha => by injection ha with ha; subst ha; exact hne)).mono ?_; rintro e W4 ⟨s, rfl, hsm, hr4, hg4⟩; have HD4 := Lib.hid (HDA.out.tk hlt hg4 hr4); have kp4 := HD4.out.B.cells2; have hs0 : 0 ≤ s ∧ s ≤ 21 := (by simp at hsm; omega); clear hr4 hg4)
        | (go_at_call 62; refine (c_one g (p + 1) (some ⟨W3.heap.size, 0, none⟩) 3 [3, 8, 21] _ HDA.out.R (by omega) (by omega) HI3.out (by simp) (by simp) (fun a ha => by injection ha with ha; subst ha; exact hne)).mono ?_; rintro e W4 ⟨s, rfl, hsm, hr4, hg4⟩; have HD4 := Lib.hid (HDA.out.tk hlt hg4 hr4); have kp4 := HD4.out.B.cells2; have hs0 : 0 ≤ s ∧ s ≤ 21 := (by simp at hsm; omega); clear hr4 hg4)
        | (go_at_call 100; refine (c_l30Walk g (p + 1 + 1) W4 nn A cA L a s HD4.out.R HD4.out.L hl (by omega) (by omega) hs0.1 hs0.2).mono ?_; rintro e W5 ⟨v5, ws, rfl, hO5, hwl, q, hq0, hq1, hr5, hg5⟩; have HD5 := Lib.hid (HD4.out.tk hlt hg5 hr5); have HO5 := Lib.hid (own_lower hO5 HD4.out.G.size); have kp5 := HD5.out.B.cells2; clear hr5 hg5 hO5)))
    all_goals
      rename_i hHeld
      have HO5 : Hid (OI W5 w.heap.size v5 ws) := HO5
      clear hHeld kp5 kp4 kp3 HDA HI3 hsm hs0 ha0 ha1 HKB b0 b1
      go_wp2_with fail
      refine (c_pick g q 10 W5 HD5.out.R (by omega) (by omega) (by omega) (by omega)).mono ?_
      rintro e W6 ⟨y, rfl, _, _, hr6, hg6⟩
      have HD6 := Lib.hid (HD5.out.tk hlt hg6 hr6)
      have HO6 := Lib.hid (HO5.out.grown hg6 hlt)
      clear hr6 hg6
      by_cases hy : y = 0
      · subst hy
        go_wp2_with fail
        refine (c_pick g (q + 1) 17 W6 HD6.out.R (by omega) (by omega) (by omega) (by omega)).mono ?_
        rintro e W7 ⟨z, rfl, hz0, hz1, hr7, hg7⟩
        have hz17 := hz1 (by omega)
        have HD7 := Lib.hid (HD6.out.tk hlt hg7 hr7)
        have HO7 := Lib.hid (HO6.out.grown hg7 hlt)
        have hs7 : w.heap.size ≤ W7.heap.size := HD7.out.G.size
        clear hr7 hg7 hz1 HO6 HO5 HD6
        go_wp2_with (at_builtin; go_must (refine app_int w.heap.size rfl _ _ rfl v5 ws (z - 1) rfl rfl HO7.out hs7 (by omega) ?_); intro v8 W8 hO8 hg8)
        go_ret
        exact ⟨v8, ws ++ [z - 1], rfl, hO8, by simp; omega, q + 1 + 1, by omega, by omega, HD7.out.R.gb hg8 (fun k hk => Nat.lt_of_lt_of_le hlt (own_row_new HO7.out k hk)), gb_trans HD7.out.G hg8 (.inr (own_row_new HO7.out))⟩
      · have hy' : (y == 0) = false := by simpa using hy
        go_wp2_with fail
        go_ret
        exact ⟨v5, ws, rfl, HO6.out, by omega, q + 1, by omega, by omega, HD6.out.R, HD6.out.G⟩
end Go.Proofs.Ythglnmhcgagkdaa
