/- Walks: fares on the reference's side, days and weeks on both sides. -/
import Derived.Test.YthglnmhcgagkdaaA1
namespace Go.Proofs.Ythglnmhcgagkdaa
open Go.RowKit
theorem c_l1In_b (b : Bool) (n lo hi : Int) (w : World) (hb : Hid (b = inR n lo hi)) :
    Calls Try.prog 66 #[.int .i64 n, .int .i64 lo, .int .i64 hi] w fun e w' => e = .returned (.bool b) ∧ w = w' := by
  rw [hb.out]; exact c_l1In n lo hi w
theorem pricesB_false {xs : List Int} {i : Nat} (hi : i < xs.length) (h : inR (xs.getD i 0) 0 99 = false) : pricesB xs = false := by
  unfold pricesB
  rw [List.all_eq_false]
  exact ⟨xs[i], List.getElem_mem hi, by simpa [List.getD_eq_getElem?_getD, hi] using h⟩
theorem pricesB_true {xs : List Int} (h : ∀ i, i < xs.length → inR (xs.getD i 0) 0 99 = true) : pricesB xs = true := by
  unfold pricesB
  rw [List.all_eq_true]
  intro x hx
  obtain ⟨i, hi, rfl⟩ := List.mem_iff_getElem.1 hx
  simpa [List.getD_eq_getElem?_getD, hi] using h i hi
theorem pricesB_at {xs : List Int} (h : pricesB xs = true) (i : Nat) (hi : i < xs.length) : 0 ≤ xs.getD i 0 ∧ xs.getD i 0 ≤ 99 := by
  unfold pricesB at h
  have := List.all_eq_true.1 h xs[i] (List.getElem_mem hi)
  simp [inR] at this
  simpa [List.getD_eq_getElem?_getD, hi] using this
set_option maxHeartbeats 600000 in
set_option maxRecDepth 100000 in
theorem c_l28Ok (A : Option Addr) (c : Nat) (f : Fare) (w : World) (hA : IntsAt w A f.single) (hl : f.single.length ≤ 140737488351232) :
    Calls Try.prog 56 #[.agg #[.slice A f.single.length c, .int .i64 f.day, .int .i64 f.week]] w fun e w' => e = .returned (.bool (fareOkB f)) ∧ Below w.heap.size w w' := by
  obtain ⟨xs, day, week⟩ := f
  simp only at hA hl ⊢
  go_enter Try.func56, Try.ntmps56
  go_wp2_with fail
  go_loopw [3] (fun v3 wr => ∃ k : Nat, k ≤ xs.length ∧ v3 = .int .i64 k ∧ Below w.heap.size w wr ∧ Blk wr w.heap.size #[.slice A xs.length c, .int .i64 day, .int .i64 week] 25 ∧ Hid (∀ i : Nat, i < k → inR (xs.getD i 0) 0 99 = true) ∧ Hid (∀ i : Nat, i + 1 < k → xs.getD i 0 ≤ xs.getD (i + 1) 0)) (fun v3 _ => xs.length - (intOf v3).toNat)
  case atStart => exact ⟨0, Nat.zero_le _, rfl, below_new _ _, Blk.new _ _ _, fun i h1 => absurd h1 (by omega), fun i h1 => absurd h1 (by omega)⟩
  case round =>
    obtain ⟨k, hk, rfl, hb, hB, hp, hs⟩ := hrel
    obtain ⟨c0, c1, c2⟩ := hB.cells3
    by_cases hlt : k < xs.length
    · obtain ⟨g, o, rfl, hg, hc⟩ := hA.below hb (by omega)
      have hx := hc k hlt
      have hy := hc (k - 1) (by omega)
      clear hc hA
      obtain ⟨x, hxx⟩ : ∃ x, x = xs.getD k 0 := ⟨_, rfl⟩
      obtain ⟨y, hyy⟩ : ∃ y, y = xs.getD (k - 1) 0 := ⟨_, rfl⟩
      rw [← hxx] at hx
      rw [← hyy] at hy
      have HX := Lib.hid hxx
      have HY := Lib.hid hyy
      clear hxx hyy
      obtain ⟨b, hbb⟩ : ∃ b, b = inR x 0 99 := ⟨_, rfl⟩
      have HB := Lib.hid hbb
      clear hbb
      cases b
      · clear hy HY
        go_wp2_with fail
        go_quiet ((go_at_call 66; exact q_same (c_l1In_b false _ _ _ _ HB)))
        go_wp2
        go_ret
        exact ⟨by rw [show fareOkB ⟨xs, day, week⟩ = false by unfold fareOkB; simp only; rw [pricesB_false hlt (by rw [← HX.out]; exact HB.out.symm)]; simp]; rfl, below_drewN hb _⟩
      · rcases Nat.eq_zero_or_pos k with rfl | hkp
        · simp only [Nat.add_zero] at hx
          go_wp2_with fail
          go_quiet ((go_at_call 66; exact q_same (c_l1In_b true _ _ _ _ HB)))
          go_wp2
          go_roundw
          case rel =>
            refine ⟨1, by omega, by go_num, below_drewN hb _, hB.drewN _, fun i hi => ?_, fun i hi => absurd hi (by omega)⟩
            have : i = 0 := by omega
            subst this
            rw [← HX.out]; exact HB.out.symm
          case measure => simp [intOf]; omega
        · have e1 : IntKind.i64.wrap ((k : Int) - 1) = (k : Int) - 1 := wrap_in (by omega)
          have e2 : (0 : Int) ≤ (k : Int) - 1 := by omega
          have e3 : ((k : Int) - 1).toNat = k - 1 := by omega
          have e4 : (k : Int) - 1 < xs.length := by omega
          have e5 : decide (0 < k) = true := by simpa using hkp
          go_wp2_with fail
          go_quiet ((go_at_call 66; exact q_same (c_l1In_b true _ _ _ _ HB)))
          clear e1 e3 e5
          go_wp2
          · have h : x < y := by assumption
            go_ret
            exact ⟨by rw [show fareOkB ⟨xs, day, week⟩ = false by
              unfold fareOkB; simp only; rw [sortedB_false (xs := xs) (i := k - 1) (by omega) (by rw [← HY.out, show k - 1 + 1 = k by omega, ← HX.out]; omega)]; simp]; rfl, below_drewN hb _⟩
          · have h : y ≤ x := by assumption
            go_roundw
            case rel =>
              refine ⟨k + 1, by omega, by go_num, below_drewN hb _, hB.drewN _, fun i hi => ?_, fun i hi => ?_⟩
              · rcases Nat.lt_succ_iff_lt_or_eq.1 hi with h1 | rfl
                · exact hp.out i h1
                · rw [← HX.out]; exact HB.out.symm
              · by_cases h1 : i + 1 < k
                · exact hs.out i h1
                · have : i = k - 1 := by omega
                  subst this
                  rw [← HY.out, show k - 1 + 1 = k by omega, ← HX.out]; exact h
            case measure => simp [intOf]; omega
    · obtain ⟨bd, hbd⟩ : ∃ b, b = inR day 0 99 := ⟨_, rfl⟩
      obtain ⟨bw, hbw⟩ : ∃ b, b = inR week 0 990 := ⟨_, rfl⟩
      have HF : Hid (fareOkB ⟨xs, day, week⟩ = (decide (xs.length = 4) && bd && bw)) := by
        show _ = _
        unfold fareOkB
        simp only [hbd, hbw]
        rw [pricesB_true (xs := xs) (fun i hi => hp.out i (by omega)), sortedB_true (xs := xs) (fun i hi => hs.out i (by omega))]
        simp
      have HD := Lib.hid hbd
      have HW := Lib.hid hbw
      clear hbd hbw
      by_cases h4 : xs.length = 4
      · have h4' : ((xs.length : Int) == 4) = true := by rw [beq_iff_eq]; omega
        have H4 := Lib.hid h4
        clear h4
        cases bd
        · go_wp2_with (go_at_call 66; refine (c_l1In_b false _ _ _ _ HD).mono ?_; rintro e w' ⟨rfl, rfl⟩)
          go_ret
          exact ⟨by rw [HF.out, H4.out]; rfl, hb⟩
        · go_wp2_with fail
          refine (c_l1In_b true _ _ _ _ HD).mono ?_
          rintro e w' ⟨rfl, rfl⟩
          go_wp2_with fail
          refine (c_l1In_b bw _ _ _ _ HW).mono ?_
          rintro e w' ⟨rfl, rfl⟩
          go_wp2
          go_ret
          exact ⟨by rw [HF.out, H4.out]; rfl, hb⟩
      · have h4' : ((xs.length : Int) == 4) = false := by rw [beq_eq_false_iff_ne]; omega
        go_wp2
        go_ret
        exact ⟨by rw [HF.out]; simp [h4], hb⟩
theorem c_specFareOk (A : Option Addr) (c : Nat) (f : Fare) (w : World) (hA : IntsAt w A f.single) (hl : f.single.length ≤ 140737488351232) :
    Calls Try.prog 25 #[.agg #[.slice A f.single.length c, .int .i64 f.day, .int .i64 f.week]] w fun e w' => e = .returned (.bool (fareOkB f)) ∧ Below w.heap.size w w' := by
  go_enter Try.func25, Try.ntmps25
  go_wp2_with fail
  refine (c_l28Ok _ _ f _ (hA.below (below_new _ _)) hl).mono ?_
  rintro e w1 ⟨rfl, hb1⟩
  go_wp2
  go_ret
  exact ⟨rfl, below_of (below_new w _) hb1⟩
set_option maxRecDepth 100000 in
theorem c_l28Rides (A : Option Addr) (c : Nat) (xs : List Int) (w : World) (hA : IntsAt w A xs) (hl : xs.length ≤ 140737488351232) :
    Calls Try.prog 57 #[.slice A xs.length c] w fun e w' => e = .returned (.bool (ridesB xs)) ∧ w = w' := by
  go_enter Try.func57, Try.ntmps57
  go_wp2_with fail
  go_loop [3] (fun v3 => ∃ k : Nat, k ≤ xs.length ∧ v3 = .int .i64 k ∧ Hid (∀ i : Nat, i < k → inR (xs.getD i 0) 0 99 = true)) (fun v3 => xs.length - (intOf v3).toNat)
  case atStart => exact ⟨0, Nat.zero_le _, rfl, fun i h1 => absurd h1 (by omega)⟩
  case round =>
    obtain ⟨k, hk, rfl, hp⟩ := hrel
    by_cases hlt : k < xs.length
    · obtain ⟨g, o, rfl, hg, hc⟩ := hA (by omega)
      have hx := hc k hlt
      clear hc hA
      obtain ⟨x, hxx⟩ : ∃ x, x = xs.getD k 0 := ⟨_, rfl⟩
      rw [← hxx] at hx
      have HX := Lib.hid hxx
      clear hxx
      obtain ⟨b, hbb⟩ : ∃ b, b = inR x 0 99 := ⟨_, rfl⟩
      have HB := Lib.hid hbb
      clear hbb
      cases b
      · go_wp2_with (go_at_call 66; refine (c_l1In_b false _ _ _ _ HB).mono ?_; rintro e w' ⟨rfl, rfl⟩)
        go_ret
        exact ⟨by rw [show ridesB xs = false by unfold ridesB; rw [pricesB_false hlt (by rw [← HX.out]; exact HB.out.symm)]; simp]; rfl, rfl⟩
      · go_wp2_with (go_at_call 66; refine (c_l1In_b true _ _ _ _ HB).mono ?_; rintro e w' ⟨rfl, rfl⟩)
        go_round
        case rel =>
          refine ⟨k + 1, by omega, by go_num, fun i hi => ?_⟩
          rcases Nat.lt_succ_iff_lt_or_eq.1 hi with h1 | rfl
          · exact hp.out i h1
          · rw [← HX.out]; exact HB.out.symm
        case measure => simp [intOf]; omega
    · have HF : Hid (ridesB xs = decide (xs.length ≤ 10)) := by
        show _ = _
        unfold ridesB
        rw [pricesB_true (xs := xs) (fun i hi => hp.out i (by omega))]; simp
      go_wp2
      all_goals go_ret
      all_goals exact ⟨by rw [HF.out]; simp; omega, rfl⟩
end Go.Proofs.Ythglnmhcgagkdaa
