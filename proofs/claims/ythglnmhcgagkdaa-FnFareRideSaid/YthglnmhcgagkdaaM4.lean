/- Walk: FnExactFlowOf. -/
import Derived.Test.YthglnmhcgagkdaaM3
import Derived.Test.YthglnmhcgagkdaaJ4
import Derived.Test.YthglnmhcgagkdaaH6
namespace Go.Proofs.Ythglnmhcgagkdaa
open Go.RowKit
theorem OI.ints {w : World} {base n c : Nat} {A : Option Addr} {xs : List Int} (h : OI w base (.slice A n c) xs) : IntsAt w A xs := by
  obtain ⟨A', c', e, _, h'⟩ := h.shape
  injection e with e1 _ _
  rw [e1]; exact h'
theorem OA.arcs {w : World} {base n c : Nat} {A : Option Addr} {xs : List Arc} (h : OA w base (.slice A n c) xs) : ArcsAt w A xs := by
  obtain ⟨A', c', e, _, h'⟩ := h.shape
  injection e with e1 _ _
  rw [e1]; exact h'
set_option maxHeartbeats 4000000 in
set_option maxRecDepth 100000 in
theorem w_ExactFlowOf (A : Option Addr) (c : Nat) (nn : Int) (L : List Arc) (f t : Int) (w : World) (hA : ArcsAt w A L) (hl : L.length ≤ 9223372036854775807) :
    Calls Try.prog 7 #[.agg #[.int .i64 nn, .slice A L.length c], .int .i64 f, .int .i64 t] w fun e w' => e = .returned (.bool true) ∧ Below w.heap.size w w' := by
  have N1 := Blk.new w #[.int .i64 nn, .slice A L.length c] 53
  have H1 := below_new w (.cells #[.int .i64 nn, .slice A L.length c] 53)
  have A1 := hA.below H1
  have HA0 := Lib.hid hA
  obtain ⟨c0, c1⟩ := N1.cells2
  clear hA
  go_enter Try.func7, Try.ntmps7
  go_wp2_with fail
  generalize w.alloc (.cells #[.int .i64 nn, .slice A L.length c] 53) = W1 at *
  refine (c_szNet A L.length c nn 1048576 W1 hl (by omega) (by omega)).mono ?_
  rintro e w2 ⟨rfl, hb2⟩
  have hr := szI_range L.length 1048576 (by omega) (by omega)
  obtain ⟨s, hs⟩ : ∃ s, s = szI L.length 1048576 := ⟨_, rfl⟩
  rw [← hs] at hr ⊢
  have N2 := N1.below hb2
  have A2 := A1.below hb2
  have H2 := below_of H1 hb2
  clear hs hb2 N1 A1 H1 c0 c1
  obtain ⟨c0, c1⟩ := N2.cells2
  by_cases hs0 : s < 0
  · go_wp2_with fail
    go_ret
    exact ⟨rfl, H2⟩
  · have hL : L.length ≤ 1048576 := by omega
    go_wp2_with fail
    refine (c_toNet A c nn L w2 A2 hL).mono ?_
    rintro e w3 ⟨B, cB, rfl, hcB, hO3, hb3⟩
    have N3 := N2.below hb3
    have A3 := A2.below hb3
    have H3 := below_of H2 hb3
    have hIB : ArcsAt w3 B L := hO3.arcs
    clear hO3 hb3 N2 A2 H2 c0 c1 hr hs0
    go_wp2_with fail
    refine (c_specFlowOf B cB nn L f t w3 hIB (by omega)).mono ?_
    rintro e w4 ⟨vW, rfl, hW4, hb4⟩
    obtain ⟨F, hF⟩ : ∃ F, F = flowI nn L f t := ⟨_, rfl⟩
    have hFl : F.length ≤ 1048576 := by rw [hF]; have := flowI_length nn L f t; omega
    rw [← hF] at hW4
    have HF := Lib.hid hF
    obtain ⟨AW, cW, rfl, hcW, _⟩ := hW4.shape
    have W4o : OI w4 w.heap.size (.slice AW F.length cW) F := own_lower hW4 H3.size
    have N4 := N3.below hb4
    have A4 := A3.below hb4
    have H4 := below_of H3 hb4
    clear hF hW4 hb4 N3 A3 H3 hIB
    obtain ⟨c0, c1⟩ := N4.cells2
    go_wp2_with fail
    refine (c_toNet A c nn L w4 A4 hL).mono ?_
    rintro e w5 ⟨X, cX, rfl, hcX, hX5, hb5⟩
    have hwx : w4.heap.size ≤ w5.heap.size := hb5.size
    have W5o := W4o.below hb5
    have N5 := N4.below hb5
    have A5 := A4.below hb5
    have H5 := below_of H4 hb5
    have X6 := hX5.below (below_new w5 (.cells #[.int .i64 nn, .slice X L.length cX] 34))
    have B6 := Blk.new w5 #[.int .i64 nn, .slice X L.length cX] 34
    have W6o := W5o.below (below_new w5 (.cells #[.int .i64 nn, .slice X L.length cX] 34))
    have N6 := N5.alloc (.cells #[.int .i64 nn, .slice X L.length cX] 34)
    have A6 := A5.below (below_new w5 (.cells #[.int .i64 nn, .slice X L.length cX] 34))
    have H6 := below_alloc H5 (.cells #[.int .i64 nn, .slice X L.length cX] 34)
    have hX6 : OA (w5.alloc (.cells #[.int .i64 nn, .slice X L.length cX] 34)) w.heap.size (.slice X L.length cX) L := own_lower X6 H4.size
    clear W4o N4 A4 H4 hX5 hb5 W5o N5 A5 H5 X6 c0 c1
    obtain ⟨b0, b1⟩ := B6.cells2
    go_wp2_with fail
    generalize w5.alloc (.cells #[.int .i64 nn, .slice X L.length cX] 34) = W6 at *
    generalize w5.heap.size = bx at *
    have hIX : ArcsAt W6 X L := hX6.arcs
    refine (c_FlowOf X cX nn L f t W6 hIX (by omega)).mono ?_
    rintro e w7 ⟨vG, rfl, hG7, hb7⟩
    rw [← HF.out] at hG7
    obtain ⟨AG, cG, rfl, hcG, _⟩ := hG7.shape
    have hgap : ∀ k, (Value.slice AW F.length cW).ownBlock = some k → k < W6.heap.size := fun k hk => (own_ge W6o k hk).2
    have HGAP := Lib.hid hgap
    have W7o := W6o.below hb7
    have N7 := N6.below hb7
    have A7 := A6.below hb7
    have B7 := B6.below hb7
    have X7 := hX6.below hb7
    have H7 := below_of H6 hb7
    have hs7 := hb7.size
    have hsw : w.heap.size ≤ W6.heap.size := H6.size
    clear hgap W6o N6 A6 B6 hX6 H6 hb7 b0 b1 hIX
    have G7 : OI w7 W6.heap.size (.slice AG F.length cG) F := hG7
    clear hG7
    have iG : IntsAt w7 AG F := G7.ints
    have iW : IntsAt w7 AW F := W7o.ints
    go_wp2_with fail
    refine (c_eqIntS AG AW cG cW F F w7 iG iW (by omega)).mono ?_
    rintro e w8 ⟨rfl, n8, h8⟩
    rw [eqB_iff.2 rfl]
    have W8o : OI w8 w.heap.size (.slice AW F.length cW) F := by rw [h8]; exact W7o
    have G8 : OI w8 W6.heap.size (.slice AG F.length cG) F := by rw [h8]; exact G7
    have N8 : Blk w8 w.heap.size #[.int .i64 nn, .slice A L.length c] 53 := by rw [h8]; exact N7.drewN n8
    have A8 : ArcsAt w8 A L := by rw [h8]; exact A7
    have B8 : Blk w8 bx #[.int .i64 nn, .slice X L.length cX] 34 := by rw [h8]; exact B7.drewN n8
    have X8 : OA w8 w.heap.size (.slice X L.length cX) L := by rw [h8]; exact X7
    have H8 : Below w.heap.size w w8 := by rw [h8]; exact below_drewN H7 n8
    clear h8 W7o G7 N7 A7 B7 X7 H7 iG iW
    obtain ⟨c0, c1⟩ := N8.cells2
    obtain ⟨b0, b1⟩ := B8.cells2
    go_wp2_with fail
    have HA8 : Hid (ArcsAt w8.drew A L) := A8
    have HN8 : Hid (Blk w8.drew w.heap.size #[.int .i64 nn, .slice A L.length c] 53) := N8.drewN 1
    have HB8 : Hid (Blk w8.drew bx #[.int .i64 nn, .slice X L.length cX] 34) := B8.drewN 1
    have HX8 : Hid (OA w8.drew w.heap.size (.slice X L.length cX) L) := X8
    have HW8 : Hid (OI w8.drew w.heap.size (.slice AW F.length cW) F) := W8o
    have HG8 : Hid (OI w8.drew W6.heap.size (.slice AG F.length cG) F) := G8
    have HH8 : Hid (Below w.heap.size w w8.drew) := below_drewN H8 1
    clear A8 N8 B8 X8 W8o G8 H8
    go_region_held3 (fun w' => w'.cell? ⟨bx, 0, none⟩ = some (.int .i64 nn) ∧ w'.cell? ⟨bx, 1, none⟩ = some (.slice X L.length cX) ∧ w'.cell? ⟨w.heap.size, 0, none⟩ = some (.int .i64 nn) ∧ w'.cell? ⟨w.heap.size, 1, none⟩ = some (.slice A L.length c)) (first | exact ⟨b0'', b1'', c0'', c1''⟩ | exact ⟨b0', b1', c0', c1'⟩ | go_keep) ((first | (go_at_call 31; refine (c_toNet A c nn L w8.drew HA8.out hL).mono ?_; rintro e w9 ⟨Y, cY, rfl, hcY, hY9, hb9⟩; have N9 := HN8.out.below hb9; have B9 := HB8.out.below hb9; obtain ⟨c0', c1'⟩ := N9.cells2; obtain ⟨b0', b1'⟩ := B9.cells2; have HN9 := Lib.hid N9; have HB9 := Lib.hid B9; have HY9 := Lib.hid hY9; have Hb9 := Lib.hid hb9; clear N9 B9 hY9 hb9) | (go_at_call 33; refine (c_eqNet X Y cX cY nn L w9 (HX8.out.below Hb9.out).arcs HY9.out.arcs (by omega)).mono ?_; rintro e w10 ⟨rfl, hb10⟩; have N10 := HN9.out.below hb10; have B10 := HB9.out.below hb10; obtain ⟨c0'', c1''⟩ := N10.cells2; obtain ⟨b0'', b1''⟩ := B10.cells2; have HN10 := Lib.hid N10; have HB10 := Lib.hid B10; have Hb10 := Lib.hid hb10; clear N10 B10 hb10)))
    rename_i hHeld
    clear hHeld
    have hb810 := below_of Hb9.out Hb10.out
    have HA10 := Lib.hid (HA8.out.below hb810)
    have HX10 := Lib.hid (HX8.out.below hb810)
    have HW10 := Lib.hid (HW8.out.below hb810)
    have HG10 := Lib.hid (HG8.out.below hb810)
    have HH10 := Lib.hid (below_of HH8.out hb810)
    clear hb810 HA8 HN8 HB8 HX8 HW8 HG8 HH8 HN9 HB9 HY9 Hb9 Hb10 b0 b1 c0 c1 b0' b1' c0' c1'
    go_wp2_with fail
    refine (c_markNet w.heap.size nn (.slice X L.length cX) L 1 w10 HX10.out hL (by omega) (by omega)).mono ?_
    rintro e w11 ⟨rfl, hg11⟩
    have hxb : ∀ k, (Value.slice X L.length cX).ownBlock = some k → w.heap.size ≤ k := fun k hk => (own_ge HX10.out k hk).1
    have N11 := HN10.out.grown hg11 (fun e => own_ne_blk HX10.out HN10.out (by decide) e.symm)
    have H11 := below_gb HH10.out hg11 hxb
    have W11 : OI w11 w.heap.size (.slice AW F.length cW) F := own_move HW10.out (fun k hk _ hlt => hg11.block k hlt (fun e => own_apart HW10.out HX10.out (by decide) k hk e.symm))
    have G11 : OI w11 W6.heap.size (.slice AG F.length cG) F := own_move HG10.out (fun k hk _ hlt => hg11.block k hlt (fun e => own_apart HG10.out HX10.out (by decide) k hk e.symm))
    have hk11 : (0 : Int) ≤ 1 + 5 * (L.length : Int) := by omega
    have HN11 := Lib.hid N11
    have HH11 := Lib.hid H11
    have HW11 := Lib.hid W11
    have HG11 := Lib.hid G11
    clear N11 H11 W11 G11 hg11 hxb HN10 HB10 HA10 HX10 HW10 HG10 HH10 b0'' b1'' c0'' c1''
    obtain ⟨k11, hk⟩ : ∃ k, k = 1 + 5 * (L.length : Int) := ⟨_, rfl⟩
    rw [← hk] at hk11 ⊢
    clear hk
    go_wp2_with fail
    refine (c_eqIntS AG AW cG cW F F w11 HG11.out.ints HW11.out.ints (by omega)).mono ?_
    rintro e w12 ⟨rfl, n12, h12⟩
    rw [eqB_iff.2 rfl]
    have HW12 : Hid (OI w12 w.heap.size (.slice AW F.length cW) F) := by rw [h12]; exact HW11.out
    have HG12 : Hid (OI w12 W6.heap.size (.slice AG F.length cG) F) := by rw [h12]; exact HG11.out
    have HN12 : Hid (Blk w12 w.heap.size #[.int .i64 nn, .slice A L.length c] 53) := by rw [h12]; exact HN11.out.drewN n12
    have HH12 : Hid (Below w.heap.size w w12) := by rw [h12]; exact below_drewN HH11.out n12
    clear h12 HN11 HH11 HW11 HG11
    go_wp2_with fail
    refine (c_markIntS W6.heap.size (.slice AG F.length cG) F 1 w12 HG12.out hFl (by omega) (by omega)).mono ?_
    rintro e w13 ⟨rfl, hg13, ys, hys, hG13⟩
    have HW13 : Hid (OI w13 w.heap.size (.slice AW F.length cW) F) := own_move HW12.out (fun k hk _ hlt => hg13.block k hlt (fun e => by
      have h1 := HGAP.out k hk
      have h2 := (own_ge HG12.out k e.symm).1
      omega))
    have hgw : ∀ k, (Value.slice AG F.length cG).ownBlock = some k → w.heap.size ≤ k := fun k hk => Nat.le_trans hsw (own_ge HG12.out k hk).1
    have HH13 := Lib.hid (below_gb HH12.out hg13 hgw)
    have N13 := HN12.out.grown hg13 (fun e => own_ne_blk HG12.out HN12.out (by decide) e.symm)
    have HG13 := Lib.hid hG13
    have HYS := Lib.hid hys
    obtain ⟨c0, c1⟩ := N13.cells2
    have HN13 := Lib.hid N13
    obtain ⟨m, hm⟩ : ∃ m, m = 1 + (F.length : Int) := ⟨_, rfl⟩
    have hm0 : 0 ≤ m := by omega
    have hmm : (m != m) = false := by simp
    have hheld : ∀ w', IntsAt w' AG ys → Calls Try.prog 36 #[.slice AG F.length cG, .int .i64 1] w' fun e w'' => e = .returned (.int .i64 m) ∧ w' = w'' := fun w' h => by rw [hm]; exact c_heldIntS AG cG F.length ys 1 w' h HYS.out hFl (by omega) (by omega)
    have HHELD := Lib.hid hheld
    rw [← hm]
    clear hg13 hgw hG13 hys N13 hm hheld HN12 HH12 HW12 HG12
    go_wp2_with fail
    refine (HHELD.out w13 HG13.out.ints).mono ?_
    rintro e w' ⟨rfl, rfl⟩
    go_wp2_with fail
    refine (c_toNet A c nn L w13 (HA0.out.below HH13.out) hL).mono ?_
    rintro e w14 ⟨Z, cZ, rfl, hcZ, hZ14, hb14⟩
    have HN14 := Lib.hid (HN13.out.below hb14)
    have HH14 := Lib.hid (below_of HH13.out hb14)
    have HW14 := Lib.hid (HW13.out.below hb14)
    have HG14 := Lib.hid (HG13.out.below hb14)
    have HZ14 := Lib.hid hZ14
    clear hb14 hZ14 HN13 HH13 HW13 HG13 c0 c1
    go_wp2_with fail
    refine (c_FlowOf Z cZ nn L f t w14 HZ14.out.arcs (by omega)).mono ?_
    rintro e w15 ⟨vK, rfl, hK15, hb15⟩
    rw [← HF.out] at hK15
    obtain ⟨AK, cK, rfl, hcK, hIK⟩ := hK15.shape
    have HH15 := Lib.hid (below_of HH14.out hb15)
    have HW15 := Lib.hid (HW14.out.below hb15)
    have HG15 := Lib.hid (HG14.out.below hb15)
    clear hb15 hK15 HN14 HH14 HW14 HG14 HZ14
    go_wp2_with fail
    refine (c_eqIntS AK AW cK cW F F w15 hIK HW15.out.ints (by omega)).mono ?_
    rintro e w16 ⟨rfl, n16, h16⟩
    rw [eqB_iff.2 rfl]
    have HG16 : Hid (OI w16 W6.heap.size (.slice AG F.length cG) ys) := by rw [h16]; exact HG15.out
    have HH16 : Hid (Below w.heap.size w w16) := by rw [h16]; exact below_drewN HH15.out n16
    clear h16 HH15 HW15 HG15
    go_wp2_with fail
    refine (HHELD.out w16 HG16.out.ints).mono ?_
    rintro e w' ⟨rfl, rfl⟩
    go_wp2_with fail
    go_ret
    exact ⟨rfl, HH16.out⟩
end Go.Proofs.Ythglnmhcgagkdaa
