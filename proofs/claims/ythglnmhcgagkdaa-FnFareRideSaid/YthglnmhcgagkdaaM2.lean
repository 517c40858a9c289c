/- Walks: nets compared; marks. -/
import Derived.Test.YthglnmhcgagkdaaM1
namespace Go.Proofs.Ythglnmhcgagkdaa
open Go.RowKit
set_option maxHeartbeats 1000000 in
set_option maxRecDepth 100000 in
theorem c_eqArc (a : Arc) (w : World) : Calls Try.prog 108 #[a.val, a.val] w fun e w' => e = .returned (.bool true) ∧ Below w.heap.size w w' := by
  obtain ⟨fr, tt, co, tl, ld⟩ := a
  unfold Arc.val
  simp only
  have e0 : (fr != fr) = false := by simp
  have e1 : (tt != tt) = false := by simp
  have e2 : (co != co) = false := by simp
  have e3 : (tl != tl) = false := by simp
  have e4 : (ld != ld) = false := by simp
  go_enter Try.func108, Try.ntmps108
  go_wp2_with fail
  go_ret
  exact ⟨rfl, below_alloc (below_new _ _) _⟩
set_option maxHeartbeats 1000000 in
set_option maxRecDepth 100000 in
theorem c_eqArcS (A B : Option Addr) (c d : Nat) (L : List Arc) (w : World) (hA : ArcsAt w A L) (hB : ArcsAt w B L) (hl : L.length ≤ 140737488351232) :
    Calls Try.prog 84 #[.slice A L.length c, .slice B L.length d] w fun e w' => e = .returned (.bool true) ∧ Below w.heap.size w w' := by
  have hHA := Lib.hid hA
  have hHB := Lib.hid hB
  have ee : ((L.length : Int) != (L.length : Int)) = false := by simp
  clear hA hB
  go_enter Try.func84, Try.ntmps84
  go_wp2_with fail
  go_loopw [5] (fun v5 wr => ∃ k : Nat, k ≤ L.length ∧ v5 = .int .i64 k ∧ Below w.heap.size w wr) (fun v5 _ => L.length - (intOf v5).toNat)
  case atStart => exact ⟨0, Nat.zero_le _, rfl, Below.refl _ _⟩
  case round =>
    obtain ⟨k, hk, rfl, hB⟩ := hrel
    by_cases hlt : k < L.length
    · have hltI : (k : Int) < (L.length : Int) := by omega
      have hk0 : (0 : Int) ≤ (k : Int) := by omega
      obtain ⟨g, o, e, hg, hac⟩ := (hHA.out.below hB).at (by omega)
      subst e
      obtain ⟨a0, a1, a2, a3, a4⟩ := hac k hlt
      obtain ⟨g2, o2, e, hg2, hac2⟩ := (hHB.out.below hB).at (by omega)
      subst e
      obtain ⟨b0, b1, b2, b3, b4⟩ := hac2 k hlt
      clear hac hac2
      obtain ⟨a, ha⟩ : ∃ a, a = L.getD k arcD := ⟨_, rfl⟩
      rw [← ha] at a0 a1 a2 a3 a4 b0 b1 b2 b3 b4
      clear ha
      obtain ⟨fr, tt, co, tl, ld⟩ := a
      dsimp only at a0 a1 a2 a3 a4 b0 b1 b2 b3 b4
      go_wp2_with fail
      have k0 := cell_regrown a0
      have k1 := cell_regrown a1
      have k2 := cell_regrown a2
      have k3 := cell_regrown a3
      have k4 := cell_regrown a4
      have l0 := cell_regrown b0
      have l1 := cell_regrown b1
      have l2 := cell_regrown b2
      have l3 := cell_regrown b3
      have l4 := cell_regrown b4
      have HC := regrown_call (P := Try.prog) (f := 108) (args := #[.agg #[.int .i64 fr, .int .i64 tt, .int .i64 co, .int .i64 tl, .int .i64 ld], .agg #[.int .i64 fr, .int .i64 tt, .int .i64 co, .int .i64 tl, .int .i64 ld]]) (w := wr) (v := .bool true) (fun w1 hw1 => c_eqArc ⟨fr, tt, co, tl, ld⟩ w1)
      have HCC := Lib.hid HC
      clear HC
      refine wp_region_quiet_below (by kernel_rfl) (by kernel_rfl) ?_
      repeat (quiet_step (exact HCC.out _ _))
      refine wpQuiet_nil ?_
      intro _ hw'
      obtain ⟨⟨dq, osq⟩, hw''⟩ := hw'
      subst hw''
      have hb2 := below_regrown wr dq osq
      clear k0 k1 k2 k3 k4 l0 l1 l2 l3 l4 HCC a0 a1 a2 a3 a4 b0 b1 b2 b3 b4
      generalize Go.Sort.grow (redrawn wr dq) osq = w2 at *
      have HB2 := below_of hB hb2
      clear hb2
      go_wp2_with fail
      go_roundw
      case rel => exact ⟨k + 1, by omega, by go_num, HB2⟩
      case measure => simp [intOf]; omega
    · have hltI : ¬ (k : Int) < (L.length : Int) := by omega
      go_wp2_with fail
      go_ret
      exact ⟨rfl, hB⟩
set_option maxHeartbeats 1000000 in
set_option maxRecDepth 100000 in
theorem c_eqNet (A B : Option Addr) (c d : Nat) (nn : Int) (L : List Arc) (w : World) (hA : ArcsAt w A L) (hB : ArcsAt w B L) (hl : L.length ≤ 140737488351232) :
    Calls Try.prog 33 #[.agg #[.int .i64 nn, .slice A L.length c], .agg #[.int .i64 nn, .slice B L.length d]] w fun e w' => e = .returned (.bool true) ∧ Below w.heap.size w w' := by
  have H2 := below_alloc (below_new w (.cells #[.int .i64 nn, .slice A L.length c] 34)) (.cells #[.int .i64 nn, .slice B L.length d] 34)
  have hA2 := hA.below H2
  have hB2 := hB.below H2
  have ee : (nn != nn) = false := by simp
  clear hA hB
  go_enter Try.func33, Try.ntmps33
  go_wp2_with fail
  refine (c_eqArcS A B c d L _ hA2 hB2 hl).mono ?_
  rintro e w3 ⟨rfl, hb3⟩
  have H3 := below_of H2 hb3
  clear hb3 H2 hA2 hB2
  go_wp2_with fail
  go_ret
  exact ⟨rfl, H3⟩
end Go.Proofs.Ythglnmhcgagkdaa
