/- Walks: the reference's week. -/
import Derived.Test.YthglnmhcgagkdaaA3
import Derived.Lib.QuietBelow
namespace Go.Proofs.Ythglnmhcgagkdaa
open Go.RowKit
theorem regrown_call {P : Program} {f : FuncId} {args : Array Value} {w : World} {v : Value}
    (h : ∀ w1, Below w.heap.size w w1 → Calls P f args w1 fun e w' => e = .returned v ∧ Below w1.heap.size w1 w') (d : Nat) (os : Array Obj) :
    Calls P f args (Go.Sort.grow (redrawn w d) os) fun e w'' => e = .returned v ∧ ∃ p : Regrown, w'' = Go.Sort.grow (redrawn w p.d) p.os := Calls.regrown_of (h _ (below_regrown w d os))
theorem c_l28Rides_b (b : Bool) (A : Option Addr) (c : Nat) (xs : List Int) (w : World) (hA : IntsAt w A xs) (hl : xs.length ≤ 140737488351232) (hb : Hid (b = ridesB xs)) :
    Calls Try.prog 57 #[.slice A xs.length c] w fun e w' => e = .returned (.bool b) ∧ w = w' := by rw [hb.out]; exact c_l28Rides A c xs w hA hl
set_option maxHeartbeats 400000 in
set_option maxRecDepth 100000 in
theorem c_specFareWeek (A B : Option Addr) (c c' : Nat) (f : Fare) (rows : List (List Int)) (w : World) (hB : IntsAt w B f.single) (hfl : f.single.length ≤ 140737488351232) (hA : RowsAt w A rows) (hl : rows.length ≤ 140737488351232) :
    Calls Try.prog 15 #[.agg #[.slice B f.single.length c', .int .i64 f.day, .int .i64 f.week], .slice A rows.length c] w fun e w' => e = .returned (.int .i64 (fareWeekI f rows)) ∧ Below w.heap.size w w' := by
  obtain ⟨bf, hbf⟩ : ∃ b, b = fareOkB f := ⟨_, rfl⟩
  have HF := Lib.hid hbf
  clear hbf
  have HR : Hid (fareWeekI f rows = if bf && decide (rows.length ≤ 7) && rows.all ridesB then min (weekSum f.day rows) f.week else -1) := by
    show _ = _; unfold fareWeekI; rw [← HF.out]
  go_enter Try.func15, Try.ntmps15
  go_wp2_with fail
  refine (c_l28Ok _ _ f _ (hB.below (below_new _ _)) hfl).mono ?_
  rintro e w1 ⟨rfl, hb1⟩
  rw [← HF.out]
  have B1 := (Blk.new w _ _).below hb1
  have HB1 := below_of (below_new w _) hb1
  clear hb1
  obtain ⟨c0, c1, c2⟩ := B1.cells3
  cases bf
  · go_wp2
    go_ret
    exact ⟨by rw [HR.out]; rfl, HB1⟩
  · by_cases h10 : rows.length ≤ 7
    · go_wp2_with fail
      go_loopw [5, 6] (fun v5 v6 wr => ∃ k : Nat, k ≤ rows.length ∧ v6 = .int .i64 k ∧ (∃ s : Int, v5 = .int .i64 s ∧ Hid (s = weekSum f.day (rows.take k))) ∧ Below w.heap.size w wr ∧ Blk wr w.heap.size #[.slice B f.single.length c', .int .i64 f.day, .int .i64 f.week] 25 ∧ Hid (∀ i, i < k → ridesB (rows.getD i []) = true)) (fun _ v6 _ => rows.length - (intOf v6).toNat)
      case atStart => exact ⟨0, Nat.zero_le _, rfl, ⟨0, rfl, by simp [Hid, weekSum]⟩, HB1, B1, fun i hi => absurd hi (by omega)⟩
      case round =>
        clear c0 c1 c2 B1 HB1
        obtain ⟨k, hk, rfl, ⟨s, rfl, hs⟩, hb, hB2, hr⟩ := hrel
        obtain ⟨c0, c1, c2⟩ := hB2.cells3
        have hsb := weekSum_bound (fareOk_day HF.out.symm) k hk hr.out
        rw [← hs.out] at hsb
        by_cases hlt : k < rows.length
        · obtain ⟨g, o, rfl, hg, hc⟩ := hA.below hb (by omega)
          obtain ⟨A', n', hx, hx1, hx2, hx3⟩ := hc k hlt
          obtain ⟨x, hxx⟩ : ∃ x, x = rows.getD k [] := ⟨_, rfl⟩
          rw [← hxx] at hx hx1 hx2 hx3
          have HX := Lib.hid hxx
          clear hxx hc
          obtain ⟨b, hbb⟩ : ∃ b, b = ridesB x := ⟨_, rfl⟩
          have HY := Lib.hid hbb
          clear hbb
          cases b
          · go_wp2_with (go_at_call 57; refine (c_l28Rides_b false _ _ _ _ hx3 hx1 HY).mono ?_; rintro e w2 ⟨rfl, rfl⟩)
            go_ret
            exact ⟨by rw [HR.out, all_false (p := ridesB) [] hlt (by rw [← HX.out]; exact HY.out.symm)]; simp, hb⟩
          · have hdb := dayI_bound (fareOk_day HF.out.symm) HY.out.symm
            obtain ⟨d, hdd⟩ : ∃ d, d = dayI f.day x := ⟨_, rfl⟩
            rw [← hdd] at hdb
            have HZ := Lib.hid hdd
            clear hdd
            go_wp2_with (go_at_call 57; refine (c_l28Rides_b true _ _ _ _ hx3 hx1 HY).mono ?_; rintro e w2 ⟨rfl, rfl⟩)
            have k0 := cell_regrown c0
            have k1 := cell_regrown c1
            have k2 := cell_regrown c2
            have kx := cell_regrown hx
            have HC := regrown_call (P := Try.prog) (f := 58) (args := #[.agg #[.slice B f.single.length c', .int .i64 f.day, .int .i64 f.week], .slice A' x.length n']) (w := wr) (v := .int .i64 d) (fun w1 hw1 => by rw [HZ.out]; exact c_l28Day _ _ _ _ f x w1 (hx3.below hw1) HY.out.symm)
            have HCC := Lib.hid HC
            clear HC
            refine wp_region_quiet_below (by kernel_rfl) (by kernel_rfl) ?_
            have ew : IntKind.i64.wrap (s + d) = s + d := wrap_in (by omega)
            repeat (quiet_step (exact HCC.out _ _))
            refine wpQuiet_nil ?_
            intro _ hw'
            obtain ⟨⟨dq, osq⟩, hw''⟩ := hw'
            subst hw''
            have hb2 := below_regrown wr dq osq
            clear k0 k1 k2 kx c0 c1 c2 HCC ew hx
            generalize Go.Sort.grow (redrawn wr dq) osq = w2 at *
            have HB2 := below_of hb hb2
            have B2 := hB2.below hb2
            clear hb2 hB2 hb hx3
            go_wp2
            go_roundw
            case rel =>
              refine ⟨k + 1, by omega, by go_num, ⟨s + d, rfl, by show _ = _; rw [weekSum_snoc f.day rows k hlt, ← hs.out, ← HX.out, ← HZ.out]⟩, HB2, B2, fun i hi => ?_⟩
              rcases Nat.lt_succ_iff_lt_or_eq.1 hi with h1 | rfl
              · exact hr.out i h1
              · rw [← HX.out]; exact HY.out.symm
            case measure => simp [intOf]; omega
        · have hf : Hid (s = weekSum f.day rows) := by show _ = _; rw [hs.out, List.take_of_length_le (by omega)]
          have HZ : Hid (fareWeekI f rows = min s f.week) := by show _ = _; rw [HR.out, hf.out, all_true (p := ridesB) [] (fun i hi => hr.out i (by omega))]; simp [h10]
          go_wp2
          · have h : f.week < s := by assumption
            go_ret
            exact ⟨by rw [HZ.out]; exact ret_int (by omega), hb⟩
          · have h : s ≤ f.week := by assumption
            go_ret
            exact ⟨by rw [HZ.out]; exact ret_int (by omega), hb⟩
    · go_wp2
      go_ret
      exact ⟨by rw [HR.out]; simp [h10], HB1⟩
end Go.Proofs.Ythglnmhcgagkdaa
