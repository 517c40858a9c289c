/- Walks: NetOk, nodesIn, apart. -/
import Derived.Test.YthglnmhcgagkdaaN0
namespace Go.Proofs.Ythglnmhcgagkdaa
open Go.RowKit
set_option maxHeartbeats 400000 in
set_option maxRecDepth 100000 in
theorem c_NetOk1 (gb : Nat) (nn : Int) (v : Value) (hv : ∃ A n c, v = .slice A n c) (a : Arc) (w : World) (hB : Blk w gb #[.int .i64 nn, v] 34) :
    Calls Try.prog 120 #[a.val, .pointer (some ⟨gb, 0, none⟩)] w fun e w' => e = .returned (.bool (badB nn a)) ∧ Below w.heap.size w w' := by
  obtain ⟨fr, to, co, tl, ld⟩ := a
  obtain ⟨A', n', c', rfl⟩ := hv
  unfold Arc.val
  simp only
  obtain ⟨b0, h0⟩ : ∃ b, b = hasB nn [fr, to] := ⟨_, rfl⟩
  obtain ⟨b1, h1⟩ : ∃ b, b = inR co 0 99 := ⟨_, rfl⟩
  obtain ⟨b2, h2⟩ : ∃ b, b = inR tl 0 99 := ⟨_, rfl⟩
  obtain ⟨b3, h3⟩ : ∃ b, b = inR ld 0 9 := ⟨_, rfl⟩
  have HR : Hid (badB nn ⟨fr, to, co, tl, ld⟩ = (!b0 || (fr == to) || !b1 || !b2 || !b3)) := by show _ = _; unfold badB; simp only [h0, h1, h2, h3]
  have H0 := Lib.hid h0
  have H1 := Lib.hid h1
  have H2 := Lib.hid h2
  have H3 := Lib.hid h3
  clear h0 h1 h2 h3
  have B1 := hB.alloc (.cells #[.int .i64 fr, .int .i64 to, .int .i64 co, .int .i64 tl, .int .i64 ld] 40)
  have C1 := Blk.new w #[.int .i64 fr, .int .i64 to, .int .i64 co, .int .i64 tl, .int .i64 ld] 40
  have HB1 := below_new w (.cells #[.int .i64 fr, .int .i64 to, .int .i64 co, .int .i64 tl, .int .i64 ld] 40)
  obtain ⟨c0, c1⟩ := hB.cells2
  have hlt := hB.lt
  have HL : IntsAt ((w.alloc (.cells #[.int .i64 fr, .int .i64 to, .int .i64 co, .int .i64 tl, .int .i64 ld] 40)).alloc (.cells #[.int .i64 fr, .int .i64 to] 3)) (some ⟨w.heap.size + 1, 0, none⟩) [fr, to] := by
    have := IntsAt.lit (w.alloc (.cells #[.int .i64 fr, .int .i64 to, .int .i64 co, .int .i64 tl, .int .i64 ld] 40)) [fr, to]
    have hz : (w.alloc (.cells #[.int .i64 fr, .int .i64 to, .int .i64 co, .int .i64 tl, .int .i64 ld] 40)).heap.size = w.heap.size + 1 := Array.size_push ..
    rw [hz] at this
    exact this
  go_enter Try.func120, Try.ntmps120
  go_wp2_with fail
  refine (c_has_b b0 nn _ ⟨_, _, _, rfl⟩ (some ⟨w.heap.size + 1, 0, none⟩) 2 [fr, to] _ HL (by simp) H0).mono ?_
  rintro e w2 ⟨rfl, hb2⟩
  have C2 := (C1.alloc (.cells #[.int .i64 fr, .int .i64 to] 3)).below hb2
  have HB2 := below_of (below_alloc HB1 (.cells #[.int .i64 fr, .int .i64 to] 3)) hb2
  clear hb2 B1 C1 HB1 c0 c1 hB HL
  obtain ⟨d0, d1, d2, d3, d4⟩ := C2.cells5
  cases b0
  · go_wp2
    go_ret
    exact ⟨by rw [HR.out]; rfl, HB2⟩
  · by_cases hft : fr = to
    · have hft' : (fr == to) = true := by simpa using hft
      have HFT := Lib.hid hft'
      clear hft
      go_wp2
      go_ret
      exact ⟨by rw [HR.out, HFT.out]; rfl, HB2⟩
    · have hft' : (fr == to) = false := by simpa using hft
      have HFT := Lib.hid hft'
      clear hft
      go_wp2_with fail
      refine (c_costOk_b b1 _ _ H1).mono ?_
      rintro e w' ⟨rfl, rfl⟩
      cases b1
      · go_wp2
        go_ret
        exact ⟨by rw [HR.out, HFT.out]; rfl, HB2⟩
      · go_wp2_with fail
        refine (c_costOk_b b2 _ _ H2).mono ?_
        rintro e w' ⟨rfl, rfl⟩
        cases b2
        · go_wp2
          go_ret
          exact ⟨by rw [HR.out, HFT.out]; rfl, HB2⟩
        · go_wp2_with fail
          refine (c_within_b b3 _ _ _ _ H3).mono ?_
          rintro e w' ⟨rfl, rfl⟩
          cases b3 <;> (go_wp2; go_ret; exact ⟨by rw [HR.out, HFT.out]; rfl, HB2⟩)

theorem clo_NetOk1 (gb : Nat) (nn : Int) (v : Value) (hv : ∃ A n c, v = .slice A n c) (w : World) (hB : Blk w gb #[.int .i64 nn, v] 34) : CloA 120 #[.pointer (some ⟨gb, 0, none⟩)] (badB nn) w where
  run := fun xa w => by simp [go_sem]
  calls := fun x w1 hb => (c_NetOk1 gb nn v hv x w1 (hB.below hb)).mono fun e w' h => h
theorem netOk_bad (N : Net) (h0 : inR N.nodes 1 8 = true) (h1 : decide (N.arcs.length ≤ 16) = true) : (!N.arcs.any (badB N.nodes)) = netOkB N := by
  unfold netOkB
  rw [h0, h1, Bool.true_and, Bool.true_and, List.all_eq_not_any_not]
  have hn : 1 ≤ N.nodes ∧ N.nodes ≤ 8 := by simpa [inR] using h0
  congr 2
  funext a
  unfold arcOkB badB hasB
  rw [top_in hn.1 hn.2]
  simp only [List.all_cons, List.all_nil, Bool.and_true, Bool.not_and, Bool.not_not, Bool.or_assoc]
theorem c_NetOk (A : Option Addr) (c : Nat) (nn : Int) (L : List Arc) (w : World) (hA : ArcsAt w A L) (hl : L.length ≤ 140737488351232) :
    Calls Try.prog 90 #[.agg #[.int .i64 nn, .slice A L.length c]] w fun e w' => e = .returned (.bool (netOkB ⟨nn, L⟩)) ∧ Below w.heap.size w w' := by
  have B1 := Blk.new w #[.int .i64 nn, .slice A L.length c] 34
  have HB1 := below_new w (.cells #[.int .i64 nn, .slice A L.length c] 34)
  obtain ⟨c0, c1⟩ := B1.cells2
  have hA1 := hA.below HB1
  have HC := Lib.hid (clo_NetOk1 _ nn (.slice A L.length c) ⟨_, _, _, rfl⟩ _ B1)
  obtain ⟨b0, h0⟩ : ∃ b, b = inR nn 1 8 := ⟨_, rfl⟩
  obtain ⟨b1, h1⟩ : ∃ b, b = L.any (badB nn) := ⟨_, rfl⟩
  have hlI : decide ((L.length : Int) ≤ 16) = decide (L.length ≤ 16) := by simp only [decide_eq_decide]; omega
  have H0 := Lib.hid h0
  have H1 := Lib.hid h1
  clear h0 h1 B1
  go_enter Try.func90, Try.ntmps90
  go_wp2_with fail
  refine (c_within_b b0 _ _ _ _ H0).mono ?_
  rintro e w' ⟨rfl, rfl⟩
  cases b0
  · go_wp2
    go_ret
    exact ⟨by unfold netOkB; rw [← H0.out]; rfl, HB1⟩
  · by_cases h16 : L.length ≤ 16
    · have h16' : (L.length : Int) ≤ 16 := by omega
      go_wp2_with fail
      refine (c_ContainsFuncA A c L _ _ _ _ hA1 hl HC.out).mono ?_
      rintro e w' ⟨rfl, hb⟩
      have HB2 := below_of HB1 hb
      clear hb
      rw [← H1.out]
      go_wp2
      go_ret
      exact ⟨by simp only [H1.out, netOk_bad ⟨nn, L⟩ H0.out.symm (by simpa using h16)]; rfl, HB2⟩
    · have h16' : ¬ (L.length : Int) ≤ 16 := by omega
      go_wp2
      go_ret
      exact ⟨by unfold netOkB; simp [h16], HB1⟩
/-! ### nodesIn, apart -/
def nodesInB (N : Net) (xs : List Int) : Bool := netOkB N && hasB N.nodes xs
def apartB (N : Net) (f t : Int) : Bool := nodesInB N [f, t] && !(f == t)
theorem c_nodesIn (A : Option Addr) (c : Nat) (nn : Int) (L : List Arc) (B : Option Addr) (d : Nat) (xs : List Int) (w : World) (hA : ArcsAt w A L) (hl : L.length ≤ 140737488351232) (hX : IntsAt w B xs) (hx : xs.length ≤ 140737488351232) :
    Calls Try.prog 88 #[.agg #[.int .i64 nn, .slice A L.length c], .slice B xs.length d] w fun e w' => e = .returned (.bool (nodesInB ⟨nn, L⟩ xs)) ∧ Below w.heap.size w w' := by
  have B1 := Blk.new w #[.int .i64 nn, .slice A L.length c] 34
  have HB1 := below_new w (.cells #[.int .i64 nn, .slice A L.length c] 34)
  obtain ⟨c0, c1⟩ := B1.cells2
  obtain ⟨b0, h0⟩ : ∃ b, b = netOkB ⟨nn, L⟩ := ⟨_, rfl⟩
  obtain ⟨b1, h1⟩ : ∃ b, b = hasB nn xs := ⟨_, rfl⟩
  have HR : Hid (nodesInB ⟨nn, L⟩ xs = (b0 && b1)) := by show _ = _; rw [h0, h1]; rfl
  have H0 := Lib.hid h0
  have H1 := Lib.hid h1
  clear h0 h1
  go_enter Try.func88, Try.ntmps88
  go_wp2_with fail
  refine (c_NetOk A c nn L _ (hA.below HB1) hl).mono ?_
  rintro e w2 ⟨rfl, hb⟩
  have C2 := B1.below hb
  have HB2 := below_of HB1 hb
  rw [← H0.out]
  clear hb B1 HB1 c0 c1
  obtain ⟨d0, d1⟩ := C2.cells2
  have hX2 := hX.below HB2
  cases b0
  · go_wp2
    go_ret
    exact ⟨by rw [HR.out]; rfl, HB2⟩
  · go_wp2_with fail
    refine (c_has_b b1 nn _ ⟨_, _, _, rfl⟩ B d xs w2 hX2 hx H1).mono ?_
    rintro e w3 ⟨rfl, hb⟩
    have HB3 := below_of HB2 hb
    cases b1 <;> (go_wp2; go_ret; exact ⟨by rw [HR.out]; rfl, HB3⟩)
theorem c_apart (A : Option Addr) (c : Nat) (nn : Int) (L : List Arc) (f t : Int) (w : World) (hA : ArcsAt w A L) (hl : L.length ≤ 140737488351232) :
    Calls Try.prog 63 #[.agg #[.int .i64 nn, .slice A L.length c], .int .i64 f, .int .i64 t] w fun e w' => e = .returned (.bool (apartB ⟨nn, L⟩ f t)) ∧ Below w.heap.size w w' := by
  have B1 := Blk.new w #[.int .i64 nn, .slice A L.length c] 34
  have HB1 := below_new w (.cells #[.int .i64 nn, .slice A L.length c] 34)
  obtain ⟨c0, c1⟩ := B1.cells2
  obtain ⟨b0, h0⟩ : ∃ b, b = nodesInB ⟨nn, L⟩ [f, t] := ⟨_, rfl⟩
  have HR : Hid (apartB ⟨nn, L⟩ f t = (b0 && !(f == t))) := by show _ = _; rw [h0]; rfl
  have H0 := Lib.hid h0
  clear h0
  have HL : IntsAt ((w.alloc (.cells #[.int .i64 nn, .slice A L.length c] 34)).alloc (.cells #[.int .i64 f, .int .i64 t] 3)) (some ⟨w.heap.size + 1, 0, none⟩) [f, t] := by
    have := IntsAt.lit (w.alloc (.cells #[.int .i64 nn, .slice A L.length c] 34)) [f, t]
    have hz : (w.alloc (.cells #[.int .i64 nn, .slice A L.length c] 34)).heap.size = w.heap.size + 1 := Array.size_push ..
    rw [hz] at this
    exact this
  have HB1' := below_alloc HB1 (.cells #[.int .i64 f, .int .i64 t] 3)
  go_enter Try.func63, Try.ntmps63
  go_wp2_with fail
  refine (c_nodesIn A c nn L (some ⟨w.heap.size + 1, 0, none⟩) 2 [f, t] _ (hA.below HB1') hl HL (by simp)).mono ?_
  rintro e w2 ⟨rfl, hb⟩
  have HB2 := below_of HB1' hb
  rw [← H0.out]
  clear hb B1 HB1 HB1' HL c0 c1
  cases b0
  · go_wp2
    go_ret
    exact ⟨by rw [HR.out]; rfl, HB2⟩
  · go_wp2
    go_ret
    exact ⟨by rw [HR.out]; rfl, HB2⟩
end Go.Proofs.Ythglnmhcgagkdaa
