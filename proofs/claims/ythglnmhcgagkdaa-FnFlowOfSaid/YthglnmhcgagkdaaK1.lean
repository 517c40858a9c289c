/- FnFlowOf: the plain law. -/
import Derived.Test.YthglnmhcgagkdaaH7
import Derived.Test.YthglnmhcgagkdaaK0
import Derived.Test.YthglnmhcgagkdaaJ4
namespace Go.Proofs.Ythglnmhcgagkdaa
open Go.RowKit
theorem set_of (mem : Nat → Bool) : ∀ n : Nat, ∃ s, s < 2 ^ n ∧ ∀ v, v < n → s.testBit v = mem v
  | 0 => ⟨0, by simp, fun v hv => absurd hv (by omega)⟩
  | n + 1 => by
    obtain ⟨s, hs, h⟩ := set_of mem n
    have hp : 2 ^ (n + 1) = 2 ^ n + 2 ^ n := by rw [Nat.pow_succ]; omega
    cases hm : mem n with
    | false =>
      refine ⟨s, by omega, fun v hv => ?_⟩
      rcases Nat.lt_succ_iff_lt_or_eq.1 hv with h1 | rfl
      · exact h v h1
      · rw [hm, Nat.testBit_lt_two_pow hs]
    | true =>
      refine ⟨2 ^ n + s, by omega, fun v hv => ?_⟩
      rcases Nat.lt_succ_iff_lt_or_eq.1 hv with h1 | rfl
      · rw [Nat.testBit_two_pow_add_gt h1]; exact h v h1
      · rw [Nat.testBit_two_pow_add_eq, Nat.testBit_lt_two_pow hs, hm]; rfl
theorem cutN_congr {nn : Int} {L : List Arc} (hE : EndsOk nn L) {m m' : Int → Bool} (h : ∀ v, 0 ≤ v → v < nn → m v = m' v) : ∀ k, k ≤ L.length → cutN L m k = cutN L m' k
  | 0, _ => rfl
  | k + 1, hk => by
    have he := hE k (by omega)
    simp only [cutN, cutN_congr hE h k (by omega)]
    rw [h _ he.1.1 he.1.2, h _ he.2.1 he.2.2]
theorem mostN_le {nn : Int} {L : List Arc} (hN : netOkB ⟨nn, L⟩ = true) (f t : Int) (s : Nat) (hm : (memOf s f && !memOf s t) = true) : ∀ S, s < S → 0 ≤ mostN L f t S ∧ mostN L f t S ≤ cutI L s
  | 0, h => absurd h (by omega)
  | S + 1, h => by
    have hc := cutI_bound hN
    simp only [mostN]
    rcases Nat.lt_succ_iff_lt_or_eq.1 h with h1 | rfl
    · have ih := mostN_le hN f t s hm S h1
      have := hc S
      split
      · rename_i hh
        simp only [Bool.and_eq_true, Bool.or_eq_true, decide_eq_true_eq] at hh
        omega
      · exact ih
    · have := hc s
      split
      · exact ⟨this.1, Int.le_refl _⟩
      · rename_i hh
        simp only [hm, Bool.true_and, Bool.or_eq_true, decide_eq_true_eq] at hh
        omega
/-- The flow that is found is as much as the least cut. -/
theorem flow_law {nn : Int} {L : List Arc} {f t : Int} (h : flowI nn L f t ≠ []) : fvB nn L (flowI nn L f t) f t = true ∧ fvI nn L (flowI nn L f t) f t = mostI nn L f t ∧ (flowI nn L f t).length = L.length ∧ (∀ k, k < L.length → 0 ≤ (flowI nn L f t).getD k 0 ∧ (flowI nn L f t).getD k 0 ≤ (L.getD k arcD).ld) ∧ L.length ≤ 16 := by
  have ha : apartB ⟨nn, L⟩ f t = true := by
    cases ha : apartB ⟨nn, L⟩ f t with
    | true => rfl
    | false => unfold flowI at h; rw [ha] at h; exact absurd rfl h
  obtain ⟨hN, hf, ht, hne⟩ := apart_parts ha
  have hn := netOk_parts hN
  obtain ⟨nm, rfl⟩ := Int.eq_ofNat_of_zero_le (show 0 ≤ nn by omega)
  have hE := netOk_ends hN
  have hok := flowI_ok hN hf hne
  have e : flowI nm L f t = flowF nm L f t := by unfold flowI; rw [if_pos ha]; simp
  rw [Int.toNat_natCast] at hok
  rw [e]
  generalize flowF nm L f t = F at *
  obtain ⟨hfo, hpush⟩ := hok
  have hB : fvB nm L F f t = true := by
    unfold fvB
    rw [ha, decide_eq_true hfo.len]
    simp only [Bool.true_and, Bool.and_eq_true]
    refine ⟨flowB_true fun k hk => by have := hfo.bnd k hk; unfold inR; rw [decide_eq_true this.1, decide_eq_true this.2]; rfl, stillB_true fun v hv => ?_⟩
    by_cases h1 : (v : Int) = f
    · exact .inr (.inl h1)
    · by_cases h2 : (v : Int) = t
      · exact .inr (.inr h2)
      · exact .inl (hfo.con v h1 h2)
  refine ⟨hB, ?_, hfo.len, hfo.bnd, hn.2.2.1⟩
  obtain ⟨hm, hnm, hcut⟩ := flow_is_cut hE hf hfo hpush
  have hle := (fv_law hB).2
  have hv : fvI nm L F f t = bal L F f := (fv_flow hB).2.2.2
  obtain ⟨s, hs, hbits⟩ := set_of (fun v => foundHas (reach nm L F f) v) nm
  have hmem : ∀ v : Int, 0 ≤ v → v < nm → memOf s v = foundHas (reach nm L F f) v := fun v h0 h1 => by
    unfold memOf
    rw [hbits v.toNat (by omega)]
    congr 1
    omega
  have hc : cutI L s = cutN L (foundHas (reach nm L F f)) L.length := cutN_congr hE hmem L.length (Nat.le_refl _)
  have hms : (memOf s f && !memOf s t) = true := by rw [hmem f hf.1 hf.2, hmem t ht.1 ht.2, hm, hnm]; rfl
  have := (mostN_le hN f t s hms (2 ^ nm) hs).2
  have e2 : mostI nm L f t = mostN L f t (2 ^ nm) := by unfold mostI; rw [if_pos ha]; simp
  rw [e2] at hle ⊢
  omega
/-! ### the walk -/
set_option maxHeartbeats 2000000 in
set_option maxRecDepth 100000 in
theorem w_FlowOf (A0 : Option Addr) (n c : Nat) (w : World) (h : BytesAt w A0 n) (hc : n ≤ c) (hn9 : n ≤ 9223372036854775807) :
    Calls Try.prog 6 #[.slice A0 n c] w (fun e w' => e = .returned (.bool true) ∧ Below w.heap.size w w') := by
  by_cases hn : n ≤ 1048576
  · go_enter Try.func6, Try.ntmps6
    go_wp2_with fail
    refine (c_DrawFlowOf A0 n c w h hn hc).mono ?_
    rintro e w1 ⟨nn, A, cA, L, f, t, rfl, hA, hL, hb1⟩
    have N1 := Blk.new w1 #[.int .i64 nn, .slice A L.length cA] 34
    have A1 := hA.below (below_new w1 (.cells #[.int .i64 nn, .slice A L.length cA] 34))
    have H1 := below_alloc hb1 (.cells #[.int .i64 nn, .slice A L.length cA] 34)
    clear hA hb1 h
    obtain ⟨c0, c1⟩ := N1.cells2
    go_wp2_with fail
    generalize w1.alloc (.cells #[.int .i64 nn, .slice A L.length cA] 34) = W1 at *
    generalize w1.heap.size = bx at *
    refine (c_FlowOf A cA nn L f t W1 A1 (by omega)).mono ?_
    rintro e w2 ⟨v2, rfl, hO2, hb2⟩
    have N2 := N1.below hb2
    have A2 := A1.below hb2
    have H2 := below_of H1 hb2
    have hlen := flowI_length nn L f t
    obtain ⟨F, hF⟩ : ∃ F, F = flowI nn L f t := ⟨_, rfl⟩
    rw [← hF] at hO2 hlen
    have HF := Lib.hid hF
    obtain ⟨AF, cF, rfl, hcF, hIF2⟩ := hO2.shape
    clear hF hO2 N1 A1 H1 hb2 c0 c1
    obtain ⟨c0, c1⟩ := N2.cells2
    go_wp2_with fail
    refine (c_specFlowOf A cA nn L f t w2 A2 (by omega)).mono ?_
    rintro e w3 ⟨v3, rfl, hO3, hb3⟩
    rw [← HF.out] at hO3
    obtain ⟨AG, cG, rfl, hcG, hIG3⟩ := hO3.shape
    have N3 := N2.below hb3
    have A3 := A2.below hb3
    have H3 := below_of H2 hb3
    have hIF3 := hIF2.below hb3
    clear hO3 N2 A2 H2 hb3 c0 c1 hIF2
    go_wp2_with fail
    refine (c_wkInts AF AG cF cG F F w3 hIF3 hIG3 (by omega)).mono ?_
    rintro e w4 ⟨rfl, hn4⟩
    rw [eqB_iff.2 rfl]
    obtain ⟨n4, hn4⟩ := hn4
    have N4 : Blk w4 bx #[.int .i64 nn, .slice A L.length cA] 34 := by rw [hn4]; exact N3.drewN n4
    have A4 : ArcsAt w4 A L := by rw [hn4]; exact A3
    have F4 : IntsAt w4 AF F := by rw [hn4]; exact hIF3
    have H4 : Below w.heap.size w w4 := by rw [hn4]; exact below_drewN H3 n4
    clear hn4 N3 A3 hIF3 hIG3 H3
    obtain ⟨c0, c1⟩ := N4.cells2
    by_cases hz : F.length = 0
    · have hz' : ((F.length : Int) == 0) = true := by rw [beq_iff_eq]; omega
      have HZ := Lib.hid hz
      clear hz
      go_wp2_with fail
      refine (c_specFlowOf A cA nn L f t w4 A4 (by omega)).mono ?_
      rintro e w5 ⟨v5, rfl, hO5, hb5⟩
      rw [← HF.out] at hO5
      obtain ⟨AK, cK, rfl, hcK, hIK⟩ := hO5.shape
      have F5 := F4.below hb5
      have H5 := below_of H4 hb5
      clear hO5 hb5 c0 c1
      go_wp2_with fail
      refine (c_wkInts AF AK cF cK F F w5 F5 hIK (by omega)).mono ?_
      rintro e w6 ⟨rfl, n6, rfl⟩
      rw [eqB_iff.2 rfl]
      have H6 := below_drewN H5 n6
      go_wp2_with fail
      go_ret
      exact ⟨rfl, H6⟩
    · have hz' : ((F.length : Int) == 0) = false := by rw [beq_eq_false_iff_ne]; omega
      have hne : F ≠ [] := fun e => hz (by rw [e]; rfl)
      have hlaw := flow_law (nn := nn) (L := L) (f := f) (t := t) (by rw [← HF.out]; exact hne)
      rw [← HF.out] at hlaw
      have HLAW := Lib.hid hlaw
      have HL := Lib.hid hlaw.2.2.1
      have HBD := Lib.hid hlaw.2.2.2.1
      have HA4 := Lib.hid A4
      have HF4 := Lib.hid F4
      have HN4 := Lib.hid N4
      have HH4 := Lib.hid H4
      clear hlaw hz hne A4 F4 N4 H4 c0 c1
      go_wp2_with fail
      go_loopw [7] (fun v7 wr => ∃ k : Nat, k ≤ L.length ∧ v7 = .int .i64 k ∧ Hid (∃ n, wr = w4.drewN n)) (fun v7 _ => L.length - (intOf v7).toNat)
      case atStart => exact ⟨0, Nat.zero_le _, rfl, 0, rfl⟩
      case round =>
        obtain ⟨k, hk, rfl, hw⟩ := hrel
        have N5 : Blk wr bx #[.int .i64 nn, .slice A L.length cA] 34 := by obtain ⟨n, rfl⟩ := hw.out; exact HN4.out.drewN n
        have A5 : ArcsAt wr A L := by obtain ⟨n, rfl⟩ := hw.out; exact HA4.out
        have F5 : IntsAt wr AF F := by obtain ⟨n, rfl⟩ := hw.out; exact HF4.out
        obtain ⟨c0, c1⟩ := N5.cells2
        by_cases hlt : k < L.length
        · have hltI : (k : Int) < (L.length : Int) := by omega
          have hltF : (k : Int) < (F.length : Int) := by have := HL.out; omega
          have hk0 : (0 : Int) ≤ (k : Int) := by omega
          obtain ⟨g, o, e, hg, hac⟩ := A5.at (by omega)
          subst e
          obtain ⟨_, _, _, _, a4⟩ := hac k hlt
          clear hac
          obtain ⟨fg, fo, e, hfg, hfc⟩ := F5 (by have := HL.out; omega)
          subst e
          have fk := hfc k (by have := HL.out; omega)
          clear hfc
          have hxb := HBD.out k hlt
          obtain ⟨x, hx⟩ : ∃ x, x = F.getD k 0 := ⟨_, rfl⟩
          rw [← hx] at fk hxb
          obtain ⟨ld, hld⟩ : ∃ x, x = (L.getD k arcD).ld := ⟨_, rfl⟩
          rw [← hld] at a4 hxb
          have d1 : decide (x < 0) = false := decide_eq_false (by omega)
          have d2 : decide (ld < x) = false := decide_eq_false (by omega)
          clear hx hld hxb N5
          go_wp2_with fail
          go_quiet (fail)
          go_wp2_with fail
          go_roundw
          case rel => exact ⟨k + 1, by omega, by go_num, by obtain ⟨n, rfl⟩ := hw.out; exact ⟨n + nq, World.drewN_drewN _ _ _⟩⟩
          case measure => simp [intOf]; omega
        · have hltF : ¬ (k : Int) < (F.length : Int) := by have := HL.out; omega
          have H5 : Below w.heap.size w wr := by obtain ⟨n, rfl⟩ := hw.out; exact below_drewN HH4.out n
          have HA5 := Lib.hid A5
          have HN5 := Lib.hid N5
          clear A5 N5
          go_wp2_with fail
          refine (c_FlowValue A cA nn L AF cF F f t wr HA5.out (by omega) F5).mono ?_
          rintro e w6 ⟨rfl, hb6⟩
          have h1 := HLAW.out.1
          have h2 := HLAW.out.2.1
          rw [h1, h2]
          obtain ⟨m, hm⟩ : ∃ m, m = mostI nn L f t := ⟨_, rfl⟩
          rw [← hm]
          have HM := Lib.hid hm
          have N6 := HN5.out.below hb6
          have A6 := HA5.out.below hb6
          have H6 := below_of H5 hb6
          clear h1 h2 hm hb6 c0 c1
          obtain ⟨c0, c1⟩ := N6.cells2
          go_wp2_with fail
          refine (c_FlowMost A cA nn L f t w6 A6 (by omega)).mono ?_
          rintro e w7 ⟨rfl, hb7⟩
          rw [← HM.out]
          have H7 := Lib.hid (below_of H6 hb7)
          have hmm : (m == m) = true := by simp
          clear hb7 c0 c1
          go_wp2_with fail
          go_ret
          exact ⟨rfl, H7.out⟩
  · go_enter Try.func6, Try.ntmps6
    go_wp2
    go_ret
    exact ⟨rfl, Below.refl _ _⟩
end Go.Proofs.Ythglnmhcgagkdaa
