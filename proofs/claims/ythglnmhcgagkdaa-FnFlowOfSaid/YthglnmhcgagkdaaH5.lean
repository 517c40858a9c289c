/- Walks: the least cut. -/
import Derived.Test.YthglnmhcgagkdaaH4
namespace Go.Proofs.Ythglnmhcgagkdaa
open Go.RowKit
def mostN (L : List Arc) (f t : Int) : Nat → Int
  | 0 => -1
  | s + 1 => if (memOf s f && !memOf s t) && (decide (mostN L f t s < 0) || decide (cutI L s < mostN L f t s)) then cutI L s else mostN L f t s
def mostI (nn : Int) (L : List Arc) (f t : Int) : Int := if apartB ⟨nn, L⟩ f t then mostN L f t (2 ^ nn.toNat) else -1
theorem cutI_bound {nn : Int} {L : List Arc} (h : netOkB ⟨nn, L⟩ = true) (s : Nat) : 0 ≤ cutI L s ∧ cutI L s ≤ 200 := by
  obtain ⟨_, _, h3, h4⟩ := netOk_parts h
  have := cutN_bound (L := L) (memOf s) L.length (fun j hj => by have := arcOk_parts (h4 j hj); omega)
  unfold cutI
  omega
theorem mostN_bound {nn : Int} {L : List Arc} (h : netOkB ⟨nn, L⟩ = true) (f t : Int) : ∀ s, -1 ≤ mostN L f t s ∧ mostN L f t s ≤ 200
  | 0 => by simp [mostN]
  | s + 1 => by
    have ih := mostN_bound h f t s
    have := cutI_bound h s
    simp only [mostN]
    split <;> omega
set_option maxHeartbeats 1000000 in
set_option maxRecDepth 100000 in
theorem c_FlowMost (A : Option Addr) (cA : Nat) (nn : Int) (L : List Arc) (f t : Int) (w : World) (hA : ArcsAt w A L) (hl : L.length ≤ 140737488351232) :
    Calls Try.prog 20 #[.agg #[.int .i64 nn, .slice A L.length cA], .int .i64 f, .int .i64 t] w fun e w' => e = .returned (.int .i64 (mostI nn L f t)) ∧ Below w.heap.size w w' := by
  have B1 := Blk.new w #[.int .i64 nn, .slice A L.length cA] 34
  have HB1 := below_new w (.cells #[.int .i64 nn, .slice A L.length cA] 34)
  have hA1 := hA.below HB1
  have hHA := Lib.hid hA
  obtain ⟨c0, c1⟩ := B1.cells2
  obtain ⟨b0, h0⟩ : ∃ b, b = apartB ⟨nn, L⟩ f t := ⟨_, rfl⟩
  have H0 := Lib.hid h0
  clear h0 hA
  go_enter Try.func20, Try.ntmps20
  go_wp2_with fail
  refine (c_apart A cA nn L f t _ hA1 hl).mono ?_
  rintro e w2 ⟨rfl, hb⟩
  rw [← H0.out]
  have C2 := B1.below hb
  have HB2 := below_of HB1 hb
  clear hb B1 HB1 c0 c1 hA1
  obtain ⟨d0, d1⟩ := C2.cells2
  cases b0 with
  | false =>
    go_wp2_with fail
    go_ret
    exact ⟨by unfold mostI; rw [← H0.out]; rfl, HB2⟩
  | true =>
    have hN : netOkB ⟨nn, L⟩ = true := by have := H0.out.symm; unfold apartB nodesInB at this; simp only [Bool.and_eq_true] at this; exact this.1.1
    obtain ⟨hn1, hn8, hL16, harc⟩ := netOk_parts hN
    have HN := Lib.hid hN
    have hs := apart_split nn L f t hN
    rw [← H0.out] at hs
    obtain ⟨nm, rfl⟩ := Int.eq_ofNat_of_zero_le (show 0 ≤ nn by omega)
    have hfb : 0 ≤ f ∧ f < nm := by simp [inR] at hs; omega
    have htb : 0 ≤ t ∧ t < nm := by simp [inR] at hs; omega
    obtain ⟨fm, rfl⟩ := Int.eq_ofNat_of_zero_le hfb.1
    obtain ⟨tm, rfl⟩ := Int.eq_ofNat_of_zero_le htb.1
    have HM : Hid (mostI nm L fm tm = mostN L fm tm (2 ^ nm)) := by show _ = _; unfold mostI; rw [← H0.out]; simp
    have hp : 2 ^ nm ≤ 2 ^ 8 := Nat.pow_le_pow_right (by omega) (by omega)
    obtain ⟨P, hP⟩ : ∃ P, P = 2 ^ nm := ⟨_, rfl⟩
    have hP8 : P ≤ 256 := by rw [hP]; exact hp
    have hPI : ((2 : Int) ^ nm) = (P : Int) := by rw [hP]; simp
    have hPw : wrap64 ((2 : Int) ^ nm) = (P : Int) := by rw [hPI]; exact IntWalk.wrap64_in _ ⟨by omega, by omega⟩
    rw [← hP] at HM
    clear harc hs hN hp hP hPI
    go_wp2_with fail
    rw [hPw]
    clear hPw d0 d1
    go_loopw [7, 17] (fun v7 v17 wr => ∃ s : Nat, s ≤ P ∧ v17 = .int .i64 s ∧ (∃ y, v7 = .int .i64 y ∧ Hid (y = mostN L fm tm s)) ∧ Blk wr w.heap.size #[.int .i64 nm, .slice A L.length cA] 34 ∧ Below w.heap.size w wr) (fun _ v17 _ => P - (intOf v17).toNat)
    case atStart => exact ⟨0, Nat.zero_le _, rfl, ⟨-1, rfl, rfl⟩, C2, HB2⟩
    case round =>
      clear C2 HB2
      obtain ⟨s, hs, rfl, ⟨y, rfl, hy⟩, hN, hB⟩ := hrel
      by_cases hlt : s < P
      · have hltI : (s : Int) < (P : Int) := by omega
        have hs256 : s ≤ 256 := by omega
        have hsI : (s : Int) ≤ 256 := by omega
        have hs0 : (0 : Int) ≤ (s : Int) := by omega
        have hf0 : (0 : Int) ≤ (fm : Int) := by omega
        have ht0 : (0 : Int) ≤ (tm : Int) := by omega
        have hf8 : (fm : Int) ≤ 8 := by omega
        have ht8 : (tm : Int) ≤ 8 := by omega
        have hyb := mostN_bound HN.out fm tm s
        rw [← hy.out] at hyb
        have hcb := cutI_bound HN.out s
        obtain ⟨c, hc⟩ : ∃ c, c = cutI L s := ⟨_, rfl⟩
        rw [← hc] at hcb
        obtain ⟨b1, hb1⟩ : ∃ b, b = s.testBit fm := ⟨_, rfl⟩
        obtain ⟨b2, hb2⟩ : ∃ b, b = s.testBit tm := ⟨_, rfl⟩
        have t1 := bit_of s fm b1 hs256 hb1
        have t2 := bit_of s tm b2 hs256 hb2
        have HSTEP : Hid (mostN L fm tm (s + 1) = if (b1 && !b2) && (decide (y < 0) || decide (c < y)) then c else y) := by
          show _ = _
          rw [hy.out, hc, hb1, hb2]; rfl
        have HC := Lib.hid hc
        have HB := Lib.hid hB
        obtain ⟨n0, n1⟩ := hN.cells2
        have HNN := Lib.hid hN
        clear hb1 hb2 hc hB hN hfb htb
        by_cases hb : b1 = true ∧ b2 = false
        · obtain ⟨rfl, rfl⟩ := hb
          simp only [Bool.toInt_true, Bool.toInt_false] at t1 t2
          by_cases hy0 : y < 0
          · go_wp2_with fail
            refine (c_cut A cA nm L s wr (hHA.out.below HB.out) HN.out hs256).mono ?_
            rintro e w5 ⟨rfl, hb5⟩
            rw [← HC.out]
            have HB5 := Lib.hid (below_of HB.out hb5)
            have HN5 := Lib.hid (HNN.out.below hb5)
            clear hb5 n0 n1
            go_wp2_with fail
            go_roundw
            case rel => exact ⟨s + 1, by omega, by go_num, ⟨_, rfl, by show _ = _; rw [HSTEP.out]; simp [hy0]⟩, HN5.out, HB5.out⟩
            case measure => simp [intOf]; omega
          · go_wp2_with fail
            refine (c_cut A cA nm L s wr (hHA.out.below HB.out) HN.out hs256).mono ?_
            rintro e w5 ⟨rfl, hb5⟩
            rw [← HC.out]
            have HB5 := Lib.hid (below_of HB.out hb5)
            have N5 := HNN.out.below hb5
            have HN5 := Lib.hid N5
            clear hb5 n0 n1
            obtain ⟨n0, n1⟩ := N5.cells2
            clear N5
            by_cases hcy : c < y
            · go_wp2_with fail
              refine (c_cut A cA nm L s w5 (hHA.out.below HB5.out) HN.out hs256).mono ?_
              rintro e w6 ⟨rfl, hb6⟩
              rw [← HC.out]
              have HB6 := Lib.hid (below_of HB5.out hb6)
              have HN6 := Lib.hid (HN5.out.below hb6)
              clear hb6 n0 n1
              go_wp2_with fail
              go_roundw
              case rel => exact ⟨s + 1, by omega, by go_num, ⟨_, rfl, by show _ = _; rw [HSTEP.out]; simp [hcy]⟩, HN6.out, HB6.out⟩
              case measure => simp [intOf]; omega
            · go_wp2_with fail
              go_roundw
              case rel => exact ⟨s + 1, by omega, by go_num, ⟨_, rfl, by show _ = _; rw [HSTEP.out]; simp; omega⟩, HN5.out, HB5.out⟩
              case measure => simp [intOf]; omega
        · have HNF : Hid (b1 = true → b2 = false → False) := fun h1 h2 => hb ⟨h1, h2⟩
          have HNB : Hid (mostN L fm tm (s + 1) = y) := by
            show _ = _; rw [HSTEP.out]
            cases b1 <;> cases b2 <;> simp at hb ⊢
          cases b1 <;> cases b2 <;> simp only [Bool.toInt_true, Bool.toInt_false] at t1 t2 <;> clear hb
          case true.false => exact (HNF.out rfl rfl).elim
          all_goals
            go_wp2_with fail
            go_roundw
            case rel => exact ⟨s + 1, by omega, by go_num, ⟨_, rfl, HNB.out.symm⟩, HNN.out, HB.out⟩
            case measure => simp [intOf]; omega
      · have hltI : ¬ (s : Int) < (P : Int) := by omega
        have hsP : s = P := by omega
        have HY : Hid (y = mostI nm L fm tm) := by show _ = _; rw [hy.out, hsP]; exact HM.out.symm
        clear hsP
        go_wp2_with fail
        go_ret
        exact ⟨by rw [← HY.out]; rfl, hB⟩
end Go.Proofs.Ythglnmhcgagkdaa
