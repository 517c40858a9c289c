/- Walks: sizes, copies, comparison of fares. -/
import Derived.Test.YthglnmhcgagkdaaM2
namespace Go.Proofs.Ythglnmhcgagkdaa
open Go.RowKit
theorem c_szIntS (A : Option Addr) (n c : Nat) (left : Int) (w : World) (hn : n ≤ 9223372036854775807) (h0 : 0 ≤ left) (h1 : left ≤ 1048576) :
    Calls Try.prog 86 #[.slice A n c, .int .i64 left] w fun e w' => e = .returned (.int .i64 (szI n left)) ∧ w = w' := by
  by_cases hl : left - n < 0
  · have HZ : Hid (szI n left = -1) := by show _ = _; unfold szI; rw [if_pos hl]
    go_enter Try.func86, Try.ntmps86
    go_wp2_with fail
    go_ret
    exact ⟨by rw [HZ.out]; rfl, rfl⟩
  · have HZ : Hid (szI n left = left - n) := by show _ = _; unfold szI; rw [if_neg hl]
    go_enter Try.func86, Try.ntmps86
    go_wp2_with fail
    go_ret
    exact ⟨by rw [HZ.out]; rfl, rfl⟩
theorem c_szFare (A : Option Addr) (n c : Nat) (day week left : Int) (w : World) (hn : n ≤ 9223372036854775807) (h0 : 0 ≤ left) (h1 : left ≤ 1048576) :
    Calls Try.prog 37 #[.agg #[.slice A n c, .int .i64 day, .int .i64 week], .int .i64 left] w fun e w' => e = .returned (.int .i64 (szI n left)) ∧ Below w.heap.size w w' := by
  have hr := szI_range n left (by omega) h1
  go_enter Try.func37, Try.ntmps37
  go_wp2_with fail
  refine (c_szIntS A n c left _ hn h0 h1).mono ?_
  rintro e w' ⟨rfl, rfl⟩
  obtain ⟨y, hy⟩ : ∃ y, y = szI n left := ⟨_, rfl⟩
  rw [← hy] at hr ⊢
  have HY := Lib.hid hy
  clear hy
  have HB := Lib.hid (below_new w (.cells #[.slice A n c, .int .i64 day, .int .i64 week] 60))
  by_cases h2 : y < 0
  · have hy1 : y = -1 := by omega
    subst hy1
    go_wp2_with fail
    go_ret
    exact ⟨by rw [← HY.out]; rfl, HB.out⟩
  · go_wp2_with fail
    go_ret
    exact ⟨by rw [← HY.out]; rfl, HB.out⟩
/-- A fare that is being copied. -/
structure TFSt (w : World) (br bo : Nat) (cx cq : Array Value) (v : Value) (xs : List Int) (W : World) : Prop where
  X : Blk W w.heap.size cx 60
  R : ∃ cr, Blk W br cr 25 ∧ cr.size = 3
  Q : Blk W bo cq 25
  O : OI W w.heap.size v xs
  b : Below w.heap.size w W
theorem TFSt.set {w : World} {br bo : Nat} {cx cq : Array Value} {v : Value} {xs : List Int} {W : World} (h : TFSt w br bo cx cq v xs W) (h1 : w.heap.size < bo) (h2 : br ≠ bo) (i : Nat) (u : Value) : TFSt w br bo cx (cq.setIfInBounds i u) v xs (W.setCell ⟨bo, i, none⟩ u) := by
  obtain ⟨cr, hR, hs⟩ := h.R
  exact ⟨h.X.far (p := ⟨bo, i, none⟩) (Nat.ne_of_lt h1) u, ⟨cr, hR.far (p := ⟨bo, i, none⟩) h2 u, hs⟩, h.Q.set i u, own_far h.O (p := ⟨bo, i, none⟩) (own_ne_blk h.O h.Q (by decide)) u, h.b.setCell (p := ⟨bo, i, none⟩) (Nat.le_of_lt h1) u⟩
def MadeF (f : Fare) (w : World) (e : Ending) (w' : World) : Prop := ∃ A c, e = .returned (.agg #[.slice A f.single.length c, .int .i64 f.day, .int .i64 f.week]) ∧ f.single.length ≤ c ∧ OI w' w.heap.size (.slice A f.single.length c) f.single ∧ Below w.heap.size w w'
set_option maxHeartbeats 1000000 in
set_option maxRecDepth 100000 in
theorem c_toFare (A : Option Addr) (c : Nat) (f : Fare) (w : World) (hA : IntsAt w A f.single) (hl : f.single.length ≤ 1048576) :
    Calls Try.prog 38 #[.agg #[.slice A f.single.length c, .int .i64 f.day, .int .i64 f.week]] w (MadeF f w) := by
  obtain ⟨xs, day, week⟩ := f
  unfold MadeF
  simp only at hA hl ⊢
  have hHA := Lib.hid hA
  clear hA
  go_enter Try.func38, Try.ntmps38
  go_upto_region 2 with fail
  have s1 : (w.alloc (.cells #[.slice A xs.length c, .int .i64 day, .int .i64 week] 60)).heap.size = w.heap.size + 1 := by simp
  have s2 : ((w.alloc (.cells #[.slice A xs.length c, .int .i64 day, .int .i64 week] 60)).alloc (.cells #[.slice none 0 0, .int .i64 0, .int .i64 0] 25)).heap.size = w.heap.size + 1 + 1 := by simp
  have BX := ((Blk.new w #[.slice A xs.length c, .int .i64 day, .int .i64 week] 60).alloc (.cells #[.slice none 0 0, .int .i64 0, .int .i64 0] 25)).alloc (.cells #[.slice none 0 0, .int .i64 0, .int .i64 0] 25)
  have BR := (Blk.new (w.alloc (.cells #[.slice A xs.length c, .int .i64 day, .int .i64 week] 60)) #[.slice none 0 0, .int .i64 0, .int .i64 0] 25).alloc (.cells #[.slice none 0 0, .int .i64 0, .int .i64 0] 25)
  rw [s1] at BR
  have BO := Blk.new ((w.alloc (.cells #[.slice A xs.length c, .int .i64 day, .int .i64 week] 60)).alloc (.cells #[.slice none 0 0, .int .i64 0, .int .i64 0] 25)) #[.slice none 0 0, .int .i64 0, .int .i64 0] 25
  rw [s2] at BO
  have H3 := below_alloc (below_alloc (below_new w (.cells #[.slice A xs.length c, .int .i64 day, .int .i64 week] 60)) (.cells #[.slice none 0 0, .int .i64 0, .int .i64 0] 25)) (.cells #[.slice none 0 0, .int .i64 0, .int .i64 0] 25)
  clear s1 s2
  generalize (((w.alloc (.cells #[.slice A xs.length c, .int .i64 day, .int .i64 week] 60)).alloc (.cells #[.slice none 0 0, .int .i64 0, .int .i64 0] 25)).alloc (.cells #[.slice none 0 0, .int .i64 0, .int .i64 0] 25)) = W3 at *
  obtain ⟨bo, hbo⟩ : ∃ b, b = w.heap.size + 1 + 1 := ⟨_, rfl⟩
  obtain ⟨br, hbr⟩ : ∃ b, b = w.heap.size + 1 := ⟨_, rfl⟩
  rw [← hbo] at BO ⊢
  rw [← hbr] at BR ⊢
  have hne : br ≠ bo := by omega
  have hbo' : w.heap.size < bo := by omega
  have hbr' : w.heap.size ≤ br := by omega
  obtain ⟨x0, x1, x2⟩ := BX.cells3
  clear hbo hbr
  go_wp2_with fail
  refine (c_toIntS A c xs W3 (hHA.out.below H3) hl).mono ?_
  rintro e w4 ⟨v, rfl, hO4, hb4⟩
  obtain ⟨A4, c4, rfl, hc4, _⟩ := hO4.shape
  have T4 : TFSt w br bo #[.slice A xs.length c, .int .i64 day, .int .i64 week] #[.slice none 0 0, .int .i64 0, .int .i64 0] (.slice A4 xs.length c4) xs w4 := ⟨BX.below hb4, ⟨_, BR.below hb4, rfl⟩, BO.below hb4, own_lower hO4 H3.size, below_of H3 hb4⟩
  clear hO4 hb4 BR BO BX H3 x0 x1 x2
  have q0 := T4.Q.cell 0
  have f0 := T4.Q.frozen 0
  have T5 := Lib.hid (T4.set hbo' hne 0 (.slice A4 xs.length c4))
  clear T4
  go_upto_region 3 with fail
  generalize w4.setCell ⟨bo, 0, none⟩ (.slice A4 xs.length c4) = W5 at *
  clear q0 f0
  have q0 := T5.out.Q.cell 1
  have f0 := T5.out.Q.frozen 1
  obtain ⟨x0, x1, x2⟩ := T5.out.X.cells3
  have T6 := Lib.hid (T5.out.set hbo' hne 1 (.int .i64 day))
  clear T5
  go_upto_region 4 with fail
  generalize W5.setCell ⟨bo, 1, none⟩ (.int .i64 day) = W6 at *
  clear q0 f0 x0 x1 x2
  have q0 := T6.out.Q.cell 2
  have f0 := T6.out.Q.frozen 2
  obtain ⟨x0, x1, x2⟩ := T6.out.X.cells3
  have T7 := Lib.hid (T6.out.set hbo' hne 2 (.int .i64 week))
  clear T6
  go_upto_region 5 with fail
  generalize W6.setCell ⟨bo, 2, none⟩ (.int .i64 week) = W7 at *
  clear q0 f0 x0 x1 x2
  have Q7 : Blk W7 bo #[.slice A4 xs.length c4, .int .i64 day, .int .i64 week] 25 := T7.out.Q
  obtain ⟨o0, o1, o2⟩ := Q7.cells3
  obtain ⟨cr, hR, hcr⟩ := T7.out.R
  obtain ⟨ra, rb, rc, rfl⟩ : ∃ a b c, cr = #[a, b, c] := by
    obtain ⟨l⟩ := cr
    match l, hcr with
    | [a, b, c], _ => exact ⟨a, b, c, rfl⟩
  obtain ⟨r0, r1, r2⟩ := hR.cells3
  have rf0 := hR.frozen 0
  have rf1 := hR.frozen 1
  have rf2 := hR.frozen 2
  have R8 := Lib.hid (three_set hR (.slice A4 xs.length c4) (.int .i64 day) (.int .i64 week))
  have O7 := T7.out.O
  have O8 : Hid (OI (((W7.setCell ⟨br, 0, none⟩ (.slice A4 xs.length c4)).setCell ⟨br, 1, none⟩ (.int .i64 day)).setCell ⟨br, 2, none⟩ (.int .i64 week)) w.heap.size (.slice A4 xs.length c4) xs) := own_far (own_far (own_far O7 (p := ⟨br, 0, none⟩) (own_ne_blk O7 hR (by decide)) _) (p := ⟨br, 1, none⟩) (own_ne_blk O7 hR (by decide)) _) (p := ⟨br, 2, none⟩) (own_ne_blk O7 hR (by decide)) _
  have H8 := Lib.hid (((T7.out.b.setCell (p := ⟨br, 0, none⟩) hbr' (.slice A4 xs.length c4)).setCell (p := ⟨br, 1, none⟩) hbr' (.int .i64 day)).setCell (p := ⟨br, 2, none⟩) hbr' (.int .i64 week))
  clear T7 Q7 hR O7
  go_wp2_with fail
  obtain ⟨q0, q1, q2⟩ := R8.out.cells3
  refine bodyPost_ret (v := .agg #[.slice A4 xs.length c4, .int .i64 day, .int .i64 week]) (by simp [results, Try.results38, go_sem, q0, q1, q2]) rfl ⟨A4, c4, rfl, hc4, O8.out, H8.out⟩
set_option maxHeartbeats 1000000 in
set_option maxRecDepth 100000 in
theorem c_eqFare (A B : Option Addr) (c d : Nat) (f : Fare) (w : World) (hA : IntsAt w A f.single) (hB : IntsAt w B f.single) (hl : f.single.length ≤ 140737488351232) :
    Calls Try.prog 40 #[.agg #[.slice A f.single.length c, .int .i64 f.day, .int .i64 f.week], .agg #[.slice B f.single.length d, .int .i64 f.day, .int .i64 f.week]] w fun e w' => e = .returned (.bool true) ∧ Below w.heap.size w w' := by
  obtain ⟨xs, day, week⟩ := f
  simp only at hA hB hl ⊢
  have H2 := below_alloc (below_new w (.cells #[.slice A xs.length c, .int .i64 day, .int .i64 week] 25)) (.cells #[.slice B xs.length d, .int .i64 day, .int .i64 week] 25)
  have F2 := (Blk.new w #[.slice A xs.length c, .int .i64 day, .int .i64 week] 25).alloc (.cells #[.slice B xs.length d, .int .i64 day, .int .i64 week] 25)
  have G2 : Blk ((w.alloc (.cells #[.slice A xs.length c, .int .i64 day, .int .i64 week] 25)).alloc (.cells #[.slice B xs.length d, .int .i64 day, .int .i64 week] 25)) (w.heap.size + 1) #[.slice B xs.length d, .int .i64 day, .int .i64 week] 25 := by simpa using Blk.new (w.alloc (.cells #[.slice A xs.length c, .int .i64 day, .int .i64 week] 25)) #[.slice B xs.length d, .int .i64 day, .int .i64 week] 25
  have hA2 := hA.below H2
  have hB2 := hB.below H2
  have ee : (day != day) = false := by simp
  have ek : (week != week) = false := by simp
  clear hA hB
  go_enter Try.func40, Try.ntmps40
  obtain ⟨c0, c1, c2⟩ := F2.cells3
  obtain ⟨d0, d1, d2⟩ := G2.cells3
  go_wp2_with fail
  generalize (w.alloc (.cells #[.slice A xs.length c, .int .i64 day, .int .i64 week] 25)).alloc (.cells #[.slice B xs.length d, .int .i64 day, .int .i64 week] 25) = W2 at *
  refine (c_eqIntS A B c d xs xs W2 hA2 hB2 hl).mono ?_
  rintro e w3 ⟨rfl, n, rfl⟩
  rw [eqB_iff.2 rfl]
  have F3 := F2.drewN n
  have G3 := G2.drewN n
  have H3 := Lib.hid (below_drewN H2 n)
  clear F2 G2 H2 hA2 hB2 c0 c1 c2 d0 d1 d2
  generalize W2.drewN n = W3 at *
  obtain ⟨c0, c1, c2⟩ := F3.cells3
  obtain ⟨d0, d1, d2⟩ := G3.cells3
  go_wp2_with fail
  go_ret
  exact ⟨rfl, H3.out⟩
end Go.Proofs.Ythglnmhcgagkdaa
