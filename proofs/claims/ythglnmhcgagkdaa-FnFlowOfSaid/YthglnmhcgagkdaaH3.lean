/- Walks: spec.FlowValue; cuts. -/
import Derived.Test.YthglnmhcgagkdaaH2
namespace Go.Proofs.Ythglnmhcgagkdaa
open Go.RowKit
set_option maxHeartbeats 1000000 in
set_option maxRecDepth 100000 in
theorem c_specFlowValue (A : Option Addr) (cA : Nat) (nn : Int) (L : List Arc) (AF : Option Addr) (cF : Nat) (F : List Int) (f t : Int) (w : World) (hA : ArcsAt w A L) (hl : L.length ≤ 140737488351232) (hF : IntsAt w AF F) :
    Calls Try.prog 19 #[.agg #[.int .i64 nn, .slice A L.length cA], .slice AF F.length cF, .int .i64 f, .int .i64 t] w (ValueAns nn L F f t w) := by
  have B1 := Blk.new w #[.int .i64 nn, .slice A L.length cA] 34
  have HB1 := below_new w (.cells #[.int .i64 nn, .slice A L.length cA] 34)
  have hA1 := hA.below HB1
  have hHA := Lib.hid hA
  have hHF := Lib.hid hF
  obtain ⟨c0, c1⟩ := B1.cells2
  obtain ⟨b0, h0⟩ : ∃ b, b = netOkB ⟨nn, L⟩ := ⟨_, rfl⟩
  have H0 := Lib.hid h0
  clear h0 hA hF
  go_enter Try.func19, Try.ntmps19
  go_wp2_with fail
  refine (c_l1Ok A cA nn L _ hA1 hl).mono ?_
  rintro e w2 ⟨rfl, hb⟩
  rw [← H0.out]
  have C2 := B1.below hb
  have HB2 := below_of HB1 hb
  clear hb B1 HB1 c0 c1 hA1
  obtain ⟨d0, d1⟩ := C2.cells2
  cases b0 with
  | false =>
    go_wp2_with fail
    go_ret2
    exact fv_end (by unfold fvB apartB nodesInB; rw [← H0.out]; rfl) HB2
  | true =>
    obtain ⟨hn1, hn8, hL16, _⟩ := netOk_parts H0.out.symm
    have HS := Lib.hid (apart_split nn L f t H0.out.symm)
    obtain ⟨b1, h1⟩ : ∃ b, b = inR f 0 (nn - 1) := ⟨_, rfl⟩
    obtain ⟨b2, h2⟩ : ∃ b, b = inR t 0 (nn - 1) := ⟨_, rfl⟩
    have H1 := Lib.hid h1
    have H2 := Lib.hid h2
    clear h1 h2
    go_wp2_with fail
    refine (c_l1In_b b1 _ _ _ _ H1).mono ?_
    rintro e w' ⟨rfl, rfl⟩
    cases b1 with
    | false =>
      go_wp2_with fail
      go_ret2
      exact fv_end (by unfold fvB; rw [HS.out, ← H1.out]; rfl) HB2
    | true =>
      go_wp2_with fail
      refine (c_l1In_b b2 _ _ _ _ H2).mono ?_
      rintro e w' ⟨rfl, rfl⟩
      cases b2 with
      | false =>
        go_wp2_with fail
        go_ret2
        exact fv_end (by unfold fvB; rw [HS.out, ← H1.out, ← H2.out]; rfl) HB2
      | true =>
        by_cases hft : f = t
        · have hft' : (f == t) = true := by simpa using hft
          have HFT := Lib.hid hft'
          clear hft
          go_wp2_with fail
          go_ret2
          exact fv_end (by unfold fvB; rw [HS.out, ← H1.out, ← H2.out, HFT.out]; rfl) HB2
        · have hft' : (f == t) = false := by simpa using hft
          have HFT := Lib.hid hft'
          clear hft
          have HAP : Hid (apartB ⟨nn, L⟩ f t = true) := by show _ = _; rw [HS.out, ← H1.out, ← H2.out, HFT.out]; rfl
          by_cases hlen : F.length = L.length
          · have hlen' : ((F.length : Int) != (L.length : Int)) = false := by simp; omega
            have HLEN := Lib.hid hlen
            clear hlen
            have hf := H1.out
            have ht := H2.out
            simp [inR] at hf ht
            obtain ⟨nm, rfl⟩ := Int.eq_ofNat_of_zero_le (show 0 ≤ nn by omega)
            obtain ⟨fm, rfl⟩ := Int.eq_ofNat_of_zero_le hf.1
            obtain ⟨tm, rfl⟩ := Int.eq_ofNat_of_zero_le ht.1
            clear hf ht
            go_wp2_with fail
            refine (c_l25Ok A cA nm L AF cF F fm tm w2 (hHA.out.below HB2) (hHF.out.below HB2) HLEN.out HAP.out).mono ?_
            rintro e w3 ⟨rfl, hb3⟩
            obtain ⟨r1, hr1⟩ : ∃ r, r = fvI nm L F fm tm := ⟨_, rfl⟩
            obtain ⟨r2, hr2⟩ : ∃ r, r = fvB nm L F fm tm := ⟨_, rfl⟩
            rw [← hr1, ← hr2]
            have HR1 := Lib.hid hr1
            have HR2 := Lib.hid hr2
            have HB3 := Lib.hid (below_of HB2 hb3)
            clear hr1 hr2 hb3
            go_wp2_with fail
            go_ret2
            exact ⟨by rw [← HR1.out, ← HR2.out]; rfl, HB3.out⟩
          · have hlen' : ((F.length : Int) != (L.length : Int)) = true := by simp; omega
            go_wp2_with fail
            go_ret2
            exact fv_end (by unfold fvB; simp [hlen]) HB2
end Go.Proofs.Ythglnmhcgagkdaa
