/- FnFlowValue: the plain law, and the walk. -/
import Derived.Test.YthglnmhcgagkdaaH5
import Derived.Test.YthglnmhcgagkdaaH6
namespace Go.Proofs.Ythglnmhcgagkdaa
open Go.RowKit
/-! ### plain -/
theorem apart_parts {nn : Int} {L : List Arc} {f t : Int} (h : apartB ⟨nn, L⟩ f t = true) : netOkB ⟨nn, L⟩ = true ∧ (0 ≤ f ∧ f < nn) ∧ (0 ≤ t ∧ t < nn) ∧ f ≠ t := by
  have hN : netOkB ⟨nn, L⟩ = true := by unfold apartB nodesInB at h; simp only [Bool.and_eq_true] at h; exact h.1.1
  have hs := apart_split nn L f t hN
  rw [h] at hs
  have h2 := hs.symm
  simp only [Bool.and_eq_true, Bool.not_eq_true', beq_eq_false_iff_ne] at h2
  have h3 := h2.1.1
  have h4 := h2.1.2
  simp [inR] at h3 h4
  exact ⟨hN, ⟨h3.1, by omega⟩, ⟨h4.1, by omega⟩, h2.2⟩
theorem bal_out {nn : Int} {L : List Arc} (hE : EndsOk nn L) (F : List Int) (v : Int) (hv : ¬ (0 ≤ v ∧ v < nn)) : ∀ k, k ≤ L.length → balN L F v k = 0
  | 0, _ => rfl
  | k + 1, hk => by
    have he := hE k (by omega)
    simp only [balN, bal_out hE F v hv k (by omega)]
    rw [if_neg (by omega), if_neg (by omega)]; rfl
theorem fv_flow {nn : Int} {L : List Arc} {F : List Int} {f t : Int} (h : fvB nn L F f t = true) : apartB ⟨nn, L⟩ f t = true ∧ F.length = L.length ∧ FlowOk L F f t ∧ fvI nn L F f t = bal L F f := by
  have h0 := h
  unfold fvB at h
  simp only [Bool.and_eq_true, decide_eq_true_eq] at h
  obtain ⟨⟨⟨ha, hl⟩, hf⟩, hs⟩ := h
  obtain ⟨hN, _, _, _⟩ := apart_parts ha
  refine ⟨ha, hl, ⟨hl, fun k hk => ?_, fun v h1 h2 => ?_⟩, by unfold fvI; rw [h0]; rfl⟩
  · unfold flowB at hf
    have := List.all_eq_true.1 hf k (List.mem_range.2 hk)
    simpa [inR] using this
  · by_cases hv : 0 ≤ v ∧ v < nn
    · unfold stillB at hs
      have := List.all_eq_true.1 hs v.toNat (List.mem_range.2 (by omega))
      have e : ((v.toNat : Nat) : Int) = v := by omega
      rw [e] at this
      simp only [Bool.or_eq_true, beq_iff_eq] at this
      rcases this with h | h | h
      · exact h
      · exact absurd h h1
      · exact absurd h h2
    · exact bal_out (netOk_ends hN) F v hv _ (Nat.le_refl _)
theorem net_all (L : List Arc) (F : List Int) : ∀ k, netN L F (fun _ => true) k = 0
  | 0 => rfl
  | k + 1 => by simp only [netN, net_all L F k, if_true]; omega
theorem sumB_split (f : Int → Int) (mem : Int → Bool) : ∀ n, sumB f mem n + sumB f (fun v => !mem v) n = sumB f (fun _ => true) n
  | 0 => rfl
  | n + 1 => by
    have := sumB_split f mem n
    simp only [sumB, if_true]
    by_cases hm : mem (n : Int) = true
    · simp [hm]; omega
    · simp [hm]; omega
/-- What goes from the first comes to the second. -/
theorem bal_two {nn : Nat} {L : List Arc} {F : List Int} {f t : Int} (hE : EndsOk nn L) (hf : 0 ≤ f ∧ f < nn) (ht : 0 ≤ t ∧ t < nn) (hne : f ≠ t) (h : FlowOk L F f t) : - bal L F t = bal L F f := by
  have h1 := sum_bal hE F (fun _ => true) L.length (Nat.le_refl _)
  rw [net_all] at h1
  have h2 := sumB_split (fun v => balN L F v L.length) (fun v => !(v == t)) nn
  have h3 := sumB_only (f := fun v => balN L F v L.length) (mem := fun v => !(v == t)) (fr := f) (fun v hv hm => h.con v hv (by simpa using hm)) hf.1 (by simpa using hne) nn
  have h4 := sumB_only (f := fun v => balN L F v L.length) (mem := fun v => !!(v == t)) (fr := t) (fun v hv hm => absurd (by simpa using hm) hv) ht.1 (by simp) nn
  rw [if_pos hf.2] at h3
  rw [if_pos ht.2] at h4
  unfold bal
  omega
theorem mostN_spec (L : List Arc) (f t : Int) : ∀ S, (mostN L f t S = -1 ∧ ∀ s, s < S → (memOf s f && !memOf s t) = false) ∨ ∃ s, s < S ∧ (memOf s f && !memOf s t) = true ∧ mostN L f t S = cutI L s
  | 0 => .inl ⟨rfl, fun s hs => absurd hs (by omega)⟩
  | S + 1 => by
    have ih := mostN_spec L f t S
    simp only [mostN]
    by_cases hc : ((memOf S f && !memOf S t) && (decide (mostN L f t S < 0) || decide (cutI L S < mostN L f t S))) = true
    · rw [if_pos hc]
      simp only [Bool.and_eq_true] at hc
      exact .inr ⟨S, by omega, by simp only [Bool.and_eq_true]; exact hc.1, rfl⟩
    · rw [if_neg hc]
      rcases ih with ⟨h1, h2⟩ | ⟨s, h1, h2, h3⟩
      · rw [h1] at hc ⊢
        refine .inl ⟨rfl, fun s hs => ?_⟩
        by_cases e : s = S
        · subst e
          cases hm : (memOf s f && !memOf s t) with
          | false => rfl
          | true => rw [hm] at hc; simp at hc
        · exact h2 s (by omega)
      · exact .inr ⟨s, by omega, h2, h3⟩
theorem memOf_pow (n v : Nat) : memOf (2 ^ n) (v : Int) = decide (n = v) := by
  unfold memOf
  rw [Int.toNat_natCast, Nat.testBit_two_pow]
theorem most_attained {nn : Nat} {L : List Arc} {f t : Int} (hf : 0 ≤ f ∧ f < nn) (ht : 0 ≤ t ∧ t < nn) (hne : f ≠ t) : ∃ s, s < 2 ^ nn ∧ memOf s f = true ∧ memOf s t = false ∧ mostN L f t (2 ^ nn) = cutI L s := by
  rcases mostN_spec L f t (2 ^ nn) with ⟨_, h2⟩ | ⟨s, h1, h2, h3⟩
  · obtain ⟨u, rfl⟩ := Int.eq_ofNat_of_zero_le hf.1
    obtain ⟨v, rfl⟩ := Int.eq_ofNat_of_zero_le ht.1
    have := h2 (2 ^ u) (Nat.pow_lt_pow_right (by omega) (by omega))
    rw [memOf_pow, memOf_pow, decide_eq_true rfl, decide_eq_false (fun e => hne (by rw [e]))] at this
    cases this
  · simp only [Bool.and_eq_true, Bool.not_eq_true'] at h2
    exact ⟨s, h1, h2.1, h2.2, h3⟩
theorem fv_law {nn : Int} {L : List Arc} {F : List Int} {f t : Int} (h : fvB nn L F f t = true) : - bal L F t = fvI nn L F f t ∧ fvI nn L F f t ≤ mostI nn L f t := by
  obtain ⟨ha, hl, hok, hv⟩ := fv_flow h
  obtain ⟨hN, hf, ht, hne⟩ := apart_parts ha
  have hn := netOk_parts hN
  obtain ⟨nm, rfl⟩ := Int.eq_ofNat_of_zero_le (show 0 ≤ nn by omega)
  have hE := netOk_ends hN
  rw [hv]
  refine ⟨bal_two hE hf ht hne hok, ?_⟩
  obtain ⟨s, _, h2, h3, h4⟩ := most_attained (L := L) hf ht hne
  unfold mostI
  rw [if_pos ha, Int.toNat_natCast, h4]
  exact flow_le_cut hE hf hok (memOf s) h2 h3
/-! ### the walk -/
set_option maxHeartbeats 2000000 in
set_option maxRecDepth 100000 in
theorem w_FlowValue (A0 : Option Addr) (n c : Nat) (w : World) (h : BytesAt w A0 n) (hc : n ≤ c) (hn9 : n ≤ 9223372036854775807) :
    Calls Try.prog 4 #[.slice A0 n c] w (fun e w' => e = .returned (.bool true) ∧ Below w.heap.size w w') := by
  by_cases hn : n ≤ 1048576
  · go_enter Try.func4, Try.ntmps4
    go_wp2_with fail
    refine (c_DrawFlowValue A0 n c w h hn hc).mono ?_
    rintro e w1 ⟨nn, A, cA, L, B, cB, F, f, t, rfl, hA, hL, hB, hF, hb1⟩
    have N1 := Blk.new w1 #[.int .i64 nn, .slice A L.length cA] 34
    have A1 := hA.below (below_new w1 (.cells #[.int .i64 nn, .slice A L.length cA] 34))
    have F1 := hB.below (below_new w1 (.cells #[.int .i64 nn, .slice A L.length cA] 34))
    have H1 := below_alloc hb1 (.cells #[.int .i64 nn, .slice A L.length cA] 34)
    clear hA hB hb1 h
    obtain ⟨c0, c1⟩ := N1.cells2
    go_wp2_with fail
    generalize w1.alloc (.cells #[.int .i64 nn, .slice A L.length cA] 34) = W1 at *
    generalize w1.heap.size = bx at *
    refine (c_FlowValue A cA nn L B cB F f t W1 A1 (by omega) F1).mono ?_
    rintro e w2 ⟨rfl, hb2⟩
    obtain ⟨r, hr⟩ : ∃ r, r = fvI nn L F f t := ⟨_, rfl⟩
    obtain ⟨b, hb⟩ : ∃ b, b = fvB nn L F f t := ⟨_, rfl⟩
    rw [← hr, ← hb]
    have HR := Lib.hid hr
    have HB := Lib.hid hb
    have N2 := N1.below hb2
    have A2 := A1.below hb2
    have F2 := F1.below hb2
    have H2 := below_of H1 hb2
    clear hr hb N1 A1 F1 H1 hb2 c0 c1
    obtain ⟨c0, c1⟩ := N2.cells2
    go_wp2_with fail
    refine (c_specFlowValue A cA nn L B cB F f t w2 A2 (by omega) F2).mono ?_
    rintro e w3 ⟨rfl, hb3⟩
    rw [← HR.out, ← HB.out]
    have N3 := N2.below hb3
    have HA3 := Lib.hid (A2.below hb3)
    have HF3 := Lib.hid (F2.below hb3)
    have HN3 := Lib.hid N3
    have H3 := below_of H2 hb3
    clear N2 A2 F2 H2 hb3 c0 c1
    obtain ⟨c0, c1⟩ := N3.cells2
    cases b with
    | false =>
      go_wp2_with fail
      go_ret
      exact ⟨rfl, H3⟩
    | true =>
      obtain ⟨ha, hl, hok, hv⟩ := fv_flow HB.out.symm
      have hlaw := fv_law HB.out.symm
      rw [← HR.out] at hlaw
      have HLAW := Lib.hid hlaw
      have HL := Lib.hid hl
      have HBD : Hid (∀ j, j < L.length → 0 ≤ F.getD j 0 ∧ F.getD j 0 ≤ 9) := fun j hj => by
        have h1 := hok.bnd j hj
        have h2 := arcOk_parts ((netOk_parts (apart_parts ha).1).2.2.2 j hj)
        omega
      clear ha hl hok hv hlaw N3
      go_wp2_with fail
      go_loop [11, 12] (fun v11 v12 => ∃ k : Nat, k ≤ L.length ∧ v12 = .int .i64 k ∧ ∃ s : Int, v11 = .int .i64 s ∧ Hid (s = - balN L F t k)) (fun _ v12 => L.length - (intOf v12).toNat)
      case atStart => exact ⟨0, Nat.zero_le _, rfl, 0, rfl, rfl⟩
      case round =>
        obtain ⟨k, hk, rfl, s, rfl, hs⟩ := hrel
        have hsb := balN_pre (L := L) (F := F) t k (fun j hj => HBD.out j (by omega))
        have hs1 : -200 ≤ s := by rw [hs.out]; omega
        have hs2 : s ≤ 200 := by rw [hs.out]; omega
        have hk16 : (k : Int) ≤ 16 := by omega
        clear hsb
        by_cases hlt : k < L.length
        · have hltI : (k : Int) < (L.length : Int) := by omega
          have hltF : (k : Int) < (F.length : Int) := by have := HL.out; omega
          obtain ⟨g, o, e, hg, hac⟩ := HA3.out.at (by omega)
          subst e
          obtain ⟨a0, a1, _, _, _⟩ := hac k hlt
          clear hac
          obtain ⟨fg, fo, e, hfg, hfc⟩ := HF3.out (by have := HL.out; omega)
          subst e
          have fk := hfc k (by have := HL.out; omega)
          clear hfc
          have hxb := HBD.out k hlt
          obtain ⟨x, hx⟩ : ∃ x, x = F.getD k 0 := ⟨_, rfl⟩
          rw [← hx] at fk hxb
          obtain ⟨u, hu⟩ : ∃ x, x = (L.getD k arcD).fr := ⟨_, rfl⟩
          obtain ⟨v, hv⟩ : ∃ x, x = (L.getD k arcD).to := ⟨_, rfl⟩
          rw [← hu] at a0
          rw [← hv] at a1
          have HSTEP : Hid (balN L F t (k + 1) = balN L F t k + (if u = t then x else 0) - (if v = t then x else 0)) := by
            show _ = _
            rw [hu, hv, hx]; rfl
          have hx0 := hxb.1
          have hx1 := hxb.2
          clear hu hv hx hxb
          by_cases e1 : v = t <;> by_cases e2 : u = t
          all_goals
            have HE1 := Lib.hid e1
            have HE2 := Lib.hid e2
          · have f1 : (v == t) = true := by simpa using e1
            have f2 : (u == t) = true := by simpa using e2
            clear e1 e2
            go_wp2_with fail
            go_round
            case rel => exact ⟨k + 1, by omega, by go_num, _, rfl, by show _ = _; rw [HSTEP.out, if_pos HE1.out, if_pos HE2.out, hs.out]; omega⟩
            case measure => simp [intOf]; omega
          · have f1 : (v == t) = true := by simpa using e1
            have f2 : (u == t) = false := by simpa using e2
            clear e1 e2
            go_wp2_with fail
            go_round
            case rel => exact ⟨k + 1, by omega, by go_num, _, rfl, by show _ = _; rw [HSTEP.out, if_pos HE1.out, if_neg HE2.out, hs.out]; omega⟩
            case measure => simp [intOf]; omega
          · have f1 : (v == t) = false := by simpa using e1
            have f2 : (u == t) = true := by simpa using e2
            clear e1 e2
            go_wp2_with fail
            go_round
            case rel => exact ⟨k + 1, by omega, by go_num, _, rfl, by show _ = _; rw [HSTEP.out, if_neg HE1.out, if_pos HE2.out, hs.out]; omega⟩
            case measure => simp [intOf]; omega
          · have f1 : (v == t) = false := by simpa using e1
            have f2 : (u == t) = false := by simpa using e2
            clear e1 e2
            go_wp2_with fail
            go_round
            case rel => exact ⟨k + 1, by omega, by go_num, _, rfl, by show _ = _; rw [HSTEP.out, if_neg HE1.out, if_neg HE2.out, hs.out]; omega⟩
            case measure => simp [intOf]; omega
        · have hltF : ¬ (k : Int) < (F.length : Int) := by have := HL.out; omega
          have hkL : k = L.length := by omega
          have hsr : s = r := by rw [hs.out, hkL]; exact HLAW.out.1
          subst hsr
          have hss : (s == s) = true := by simp
          clear hkL
          go_wp2_with fail
          refine (c_FlowMost A cA nn L f t w3 HA3.out (by omega)).mono ?_
          rintro e w4 ⟨rfl, hb4⟩
          have hle := HLAW.out.2
          obtain ⟨m, hm⟩ : ∃ m, m = mostI nn L f t := ⟨_, rfl⟩
          rw [← hm] at hle ⊢
          clear hm
          have H4 := Lib.hid (below_of H3 hb4)
          clear hb4 c0 c1
          go_wp2_with fail
          go_ret
          exact ⟨rfl, H4.out⟩
  · go_enter Try.func4, Try.ntmps4
    go_wp2
    go_ret
    exact ⟨rfl, Below.refl _ _⟩
end Go.Proofs.Ythglnmhcgagkdaa
