/- Walk: spec.l2Ok. -/
import Derived.Test.YthglnmhcgagkdaaP1
namespace Go.Proofs.Ythglnmhcgagkdaa
open Go.RowKit
set_option maxHeartbeats 1000000 in
set_option maxRecDepth 100000 in
theorem c_l2Ok (A : Option Addr) (cA : Nat) (nn : Int) (L : List Arc) (B : Option Addr) (cB : Nat) (ws : List Int) (w : World) (hA : ArcsAt w A L) (hL16 : L.length ≤ 16) (hB : IntsAt w B ws) (hz : ws.length ≤ 140737488351232) :
    Calls Try.prog 75 #[.agg #[.int .i64 nn, .slice A L.length cA], .slice B ws.length cB] w fun e w' => e = .returned (.bool (walkB L ws)) ∧ Below w.heap.size w w' := by
  have B1 := Blk.new w #[.int .i64 nn, .slice A L.length cA] 34
  have HH1 := Lib.hid (below_new w (.cells #[.int .i64 nn, .slice A L.length cA] 34))
  have HA1 := Lib.hid (hA.below HH1.out)
  have HZ1 := Lib.hid (hB.below HH1.out)
  have HC1 := Lib.hid B1
  clear hA hB B1
  go_enter Try.func75, Try.ntmps75
  go_wp2_with fail
  generalize w.alloc (.cells #[.int .i64 nn, .slice A L.length cA] 34) = w2 at *
  go_loopw [5] (fun v5 wr => ∃ k : Nat, k ≤ ws.length ∧ v5 = .int .i64 k ∧ Hid (∃ n, wr = w2.drewN n) ∧ Hid (∀ i, i < k → stepOkB L ws i = true)) (fun v5 _ => ws.length - (intOf v5).toNat)
  case atStart => exact ⟨0, Nat.zero_le _, rfl, ⟨0, rfl⟩, fun i hi => absurd hi (by omega)⟩
  case round =>
    obtain ⟨k, hk, rfl, hw, hp⟩ := hrel
    have N5 : Blk wr w.heap.size #[.int .i64 nn, .slice A L.length cA] 34 := by obtain ⟨n, rfl⟩ := hw.out; exact HC1.out.drewN n
    have A5 : ArcsAt wr A L := by obtain ⟨n, rfl⟩ := hw.out; exact HA1.out
    have F5 : IntsAt wr B ws := by obtain ⟨n, rfl⟩ := hw.out; exact HZ1.out
    obtain ⟨c0, c1⟩ := N5.cells2
    by_cases hlt : k < ws.length
    · have hltI : (k : Int) < (ws.length : Int) := by omega
      have hk0 : (0 : Int) ≤ (k : Int) := by omega
      obtain ⟨fg, fo, e, hfg, hfc⟩ := F5 (by omega)
      subst e
      have xk := hfc k hlt
      have xp := hfc (k - 1) (by omega)
      clear hfc
      have hprev : 0 < k → 0 ≤ ws.getD (k - 1) 0 ∧ ws.getD (k - 1) 0 < L.length := fun h => step_in (hp.out (k - 1) (by omega))
      have hstep : stepOkB L ws k = (inR (ws.getD k 0) 0 ((L.length : Int) - 1) && (decide (k = 0) || (arcI L (ws.getD (k - 1) 0)).to == (arcI L (ws.getD k 0)).fr)) := rfl
      obtain ⟨x, hx⟩ : ∃ x, x = ws.getD k 0 := ⟨_, rfl⟩
      obtain ⟨y, hy⟩ : ∃ y, y = ws.getD (k - 1) 0 := ⟨_, rfl⟩
      rw [← hx] at xk hstep
      rw [← hy] at xp hprev hstep
      obtain ⟨b, hb⟩ : ∃ b, b = inR x 0 ((L.length : Int) - 1) := ⟨_, rfl⟩
      rw [← hb] at hstep
      have HBB := Lib.hid hb
      have HSTEP := Lib.hid hstep
      have ew : IntKind.i64.wrap ((L.length : Int) - 1) = (L.length : Int) - 1 := wrap_in (by omega)
      clear hx hy hstep N5
      cases b with
      | false =>
        clear hb hprev xp
        go_wp2_with fail
        go_quiet ((go_at_call 66; exact q_same (c_l1In_b false _ _ _ _ HBB)))
        clear ew
        go_wp2_with fail
        go_ret
        exact ⟨by unfold walkB; rw [stepsB_false hlt (by rw [HSTEP.out]; rfl), Bool.and_false]; rfl, by obtain ⟨n, rfl⟩ := hw.out; exact below_drewN (below_drewN HH1.out n) nq⟩
      | true =>
        have hxin : 0 ≤ x ∧ x < L.length := by unfold inR at hb; have := hb.symm; simp only [Bool.and_eq_true, decide_eq_true_eq] at this; omega
        clear hb
        have HGO : Hid (stepOkB L ws k = true → ∀ i, i < k + 1 → stepOkB L ws i = true) := fun h i hi => by
          rcases Nat.lt_succ_iff_lt_or_eq.1 hi with h1 | rfl
          · exact hp.out i h1
          · exact h
        rcases Nat.eq_zero_or_pos k with rfl | hkp
        · clear xp hprev
          simp only [Nat.add_zero] at xk
          go_wp2_with fail
          go_quiet ((go_at_call 66; exact q_same (c_l1In_b true _ _ _ _ HBB)))
          clear ew
          go_wp2_with fail
          go_roundw
          case rel => exact ⟨1, by omega, by go_num, by obtain ⟨n, rfl⟩ := hw.out; exact ⟨n + nq, World.drewN_drewN _ _ _⟩, by have := HGO.out (by rw [HSTEP.out]; rfl); simpa [Hid] using this⟩
          case measure => simp [intOf]; omega
        · have hyin := hprev hkp
          obtain ⟨xn, rfl⟩ := Int.eq_ofNat_of_zero_le hxin.1
          obtain ⟨yn, rfl⟩ := Int.eq_ofNat_of_zero_le hyin.1
          obtain ⟨g, o, e, hg, hac⟩ := A5.at (by omega)
          subst e
          obtain ⟨a0, _, _, _, _⟩ := hac xn (by omega)
          obtain ⟨_, a1, _, _, _⟩ := hac yn (by omega)
          have hfr : (arcI L (xn : Int)).fr = (L.getD xn arcD).fr := by unfold arcI; simp
          have hto : (arcI L (yn : Int)).to = (L.getD yn arcD).to := by unfold arcI; simp
          obtain ⟨u, hu⟩ : ∃ u, u = (L.getD xn arcD).fr := ⟨_, rfl⟩
          obtain ⟨t, ht⟩ : ∃ t, t = (L.getD yn arcD).to := ⟨_, rfl⟩
          rw [← hu] at a0 hfr
          rw [← ht] at a1 hto
          have HFR := Lib.hid hfr
          have HTO := Lib.hid hto
          have e1 : IntKind.i64.wrap ((k : Int) - 1) = (k : Int) - 1 := wrap_in (by omega)
          have e2 : (0 : Int) ≤ (k : Int) - 1 := by omega
          have e3 : ((k : Int) - 1).toNat = k - 1 := by omega
          have e4 : (k : Int) - 1 < ws.length := by omega
          have e5 : decide (0 < k) = true := by simpa using hkp
          have x1 := hxin.2
          have x0 := hxin.1
          have y1 := hyin.2
          have y0 := hyin.1
          have HK0 : Hid (decide (k = 0) = false) := decide_eq_false (by omega)
          clear hac hu ht hfr hto hprev hxin hyin
          by_cases hut : t = u
          · have hut' : (t != u) = false := by simpa using hut
            have HUT := Lib.hid hut
            clear hut
            go_wp2_with fail
            go_quiet ((go_at_call 66; exact q_same (c_l1In_b true _ _ _ _ HBB)))
            clear ew e1 e3 e5
            go_wp2_with fail
            go_roundw
            case rel => exact ⟨k + 1, by omega, by go_num, by obtain ⟨n, rfl⟩ := hw.out; exact ⟨n + nq, World.drewN_drewN _ _ _⟩, HGO.out (by rw [HSTEP.out, HFR.out, HTO.out, HUT.out]; simp)⟩
            case measure => simp [intOf]; omega
          · have hut' : (t != u) = true := by simpa using hut
            have HUT : Hid ((t == u) = false) := by show _ = _; simpa using hut
            clear hut
            go_wp2_with fail
            go_quiet ((go_at_call 66; exact q_same (c_l1In_b true _ _ _ _ HBB)))
            clear ew e1 e3 e5
            go_wp2_with fail
            go_ret
            exact ⟨by unfold walkB; rw [stepsB_false hlt (by rw [HSTEP.out, HFR.out, HTO.out, HUT.out, HK0.out]; rfl), Bool.and_false]; rfl, by obtain ⟨n, rfl⟩ := hw.out; exact below_drewN (below_drewN HH1.out n) nq⟩
    · have hltI : ¬ (k : Int) < (ws.length : Int) := by omega
      have HD : Hid (walkB L ws = decide (ws.length ≤ 20)) := by show _ = _; unfold walkB; rw [stepsB_true (fun i hi => hp.out i (by omega)), Bool.and_true]
      have HE : Hid (decide (ws.length ≤ 20) = decide ((ws.length : Int) ≤ 20)) := by show _ = _; simp only [decide_eq_decide]; omega
      go_wp2_with fail
      go_ret
      exact ⟨by rw [HD.out, HE.out]; rfl, by obtain ⟨n, rfl⟩ := hw.out; exact below_drewN HH1.out n⟩
end Go.Proofs.Ythglnmhcgagkdaa
