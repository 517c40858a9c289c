/- Walks: what is drawn: one of a list, a reader, rides, a fare, a week. -/
import Derived.Test.YthglnmhcgagkdaaD0
namespace Go.Proofs.Ythglnmhcgagkdaa
open Go.RowKit
def OneOf (g : Nat) (p : Int) (xs : List Int) (w : World) (e : Ending) (w' : World) : Prop := ∃ x : Int, e = .returned (.int .i64 x) ∧ x ∈ xs ∧ RdAt w' g (p + 1) ∧ w.grownBy w' (some g)
set_option maxHeartbeats 400000 in
theorem c_one (g : Nat) (p : Int) (A : Option Addr) (c : Nat) (xs : List Int) (w : World) (h : RdAt w g p) (hp0 : 0 ≤ p) (hp1 : p ≤ 1000000) (hA : IntsAt w A xs) (hx0 : 0 < xs.length) (hx1 : xs.length ≤ 1000) (hne : ∀ a, A = some a → a.block ≠ g) :
    Calls Try.prog 62 #[.pointer (some ⟨g, 0, none⟩), .slice A xs.length c] w (OneOf g p xs w) := by
  obtain ⟨g0, o, rfl, hg0, hc⟩ := hA hx0
  have hne' := hne _ rfl
  clear hne hA
  have HC := Lib.hid hc
  clear hc
  go_enter Try.func62, Try.ntmps62
  go_wp2_with fail
  refine (c_pick g p xs.length w h hp0 hp1 (by omega) (by omega)).mono ?_
  rintro e w1 ⟨k, rfl, hk0, hk1, hr, hg⟩
  obtain ⟨j, rfl⟩ : ∃ j : Nat, k = j := ⟨k.toNat, by omega⟩
  have hj : j < xs.length := by have := hk1 (by omega); omega
  have hcell : w1.cell? ⟨g0, o + j, none⟩ = some (.int .i64 (xs.getD j 0)) := (cell_keep (hg.block g0 hg0 (fun e => hne' (by injection e))) _).trans (HC.out j hj)
  obtain ⟨x, hx⟩ : ∃ x, x = xs.getD j 0 := ⟨_, rfl⟩
  have HX : Hid (x ∈ xs) := by rw [hx, List.getD_eq_getElem?_getD, List.getElem?_eq_getElem hj]; exact List.getElem_mem hj
  rw [← hx] at hcell
  have HR := Lib.hid hr
  have HG := Lib.hid hg
  clear hx hr hg hk1 HC h
  go_wp2
  go_ret
  exact ⟨x, rfl, HX.out, HR.out, HG.out⟩
/-- The bytes of a code. -/
def BytesAt (w : World) (A : Option Addr) (n : Nat) : Prop := 0 < n → ∃ g o, A = some ⟨g, o, none⟩ ∧ g < w.heap.size ∧ ∀ i, i < n → ∃ b : Int, 0 ≤ b ∧ b ≤ 255 ∧ w.cell? ⟨g, o + i, none⟩ = some (.int .u8 b)
def Opened (w : World) (e : Ending) (w' : World) : Prop := e = .returned (.pointer (some ⟨w.heap.size, 0, none⟩)) ∧ RdAt w' w.heap.size 0 ∧ Below w.heap.size w w'
theorem rd_new {w : World} {A : Option Addr} {n c : Nat} (h : BytesAt w A n) (hn : n ≤ 2000) : RdAt (w.alloc (.cells #[.slice A n c, .int .i64 0] 107)) w.heap.size 0 := by
  refine ⟨A, n, c, Blk.new _ _ _, hn, fun hp => ?_⟩
  obtain ⟨g, o, e, hg, hc⟩ := h hp
  refine ⟨g, o, e, hg, fun i hi => ?_⟩
  obtain ⟨b, h1, h2, h3⟩ := hc i hi
  exact ⟨b, h1, h2, (cell_keep (Below.heap_alloc w _ g hg) _).trans h3⟩
set_option maxHeartbeats 400000 in
theorem c_Open (A : Option Addr) (n c : Nat) (w : World) (h : BytesAt w A n) (hn : n ≤ 1048576) (hc : n ≤ c) :
    Calls Try.prog 52 #[.slice A n c] w (Opened w) := by
  have HB := Lib.hid h
  clear h
  by_cases h2 : n ≤ 2000
  · go_enter Try.func52, Try.ntmps52
    go_wp2
    go_ret
    exact ⟨rfl, rd_new HB.out h2, below_new _ _⟩
  · have HZ : Hid (BytesAt w A 2000) := fun _ => by
      obtain ⟨g, o, e, hg, hcell⟩ := HB.out (by omega)
      exact ⟨g, o, e, hg, fun i hi => hcell i (by omega)⟩
    go_enter Try.func52, Try.ntmps52
    go_wp2
    go_ret
    exact ⟨rfl, rd_new HZ.out (by omega), below_new _ _⟩
/-- A list is drawn: it is new; the reader has gone on. -/
def DrawnI (g : Nat) (p : Int) (m len : Nat) (w : World) (e : Ending) (w' : World) : Prop := ∃ v xs, e = .returned v ∧ OI w' w.heap.size v xs ∧ xs.length ≤ len ∧ Took g p m w w'
theorem own_row_new {w : World} {base : Nat} {v : Value} {xs : List Int} (h : OI w base v xs) : ∀ k, v.ownBlock = some k → base ≤ k := fun k hk => (own_ge h k hk).1
set_option maxHeartbeats 800000 in
set_option maxRecDepth 100000 in
theorem c_Rides (g : Nat) (p : Int) (w : World) (h : RdAt w g p) (hp0 : 0 ≤ p) (hp1 : p ≤ 900000) :
    Calls Try.prog 55 #[.pointer (some ⟨g, 0, none⟩)] w (DrawnI g p 10 10 w) := by
  have hlt := h.lt
  go_enter Try.func55, Try.ntmps55
  go_wp2_with fail
  have hr0 : RdAt (w.alloc (.cells #[] 3)) g p := h.below (below_new _ _)
  refine (c_pick g p 6 _ hr0 hp0 (by omega) (by omega) (by omega)).mono ?_
  rintro e w1 ⟨k, rfl, hk0, hk1, hr, hg⟩
  have hk6 := hk1 (by omega)
  have HO : OI w1 w.heap.size (.slice (some ⟨w.heap.size, 0, none⟩) 0 0) [] := (OI.lit w w.heap.size [] (Nat.le_refl _) (by simp)).grown hg hlt
  have HT : Took g p 1 w w1 := ⟨p + 1, by omega, by omega, hr, gb_trans (World.grownBy_alloc w _ (some g)) hg (.inl rfl)⟩
  clear hr hg hk1 hr0
  go_wp2_with fail
  go_loopw [3, 4] (fun v3 v4 wr => ∃ (j : Int) (xs : List Int), 0 ≤ j ∧ j ≤ 6 ∧ v4 = .int .i64 j ∧ OI wr w.heap.size v3 xs ∧ xs.length + j ≤ 6 ∧ Took g p (1 + xs.length) w wr) (fun _ v4 _ => (intOf v4).toNat)
  case atStart => exact ⟨k, [], hk0, by omega, rfl, HO, by simp; omega, HT⟩
  case round =>
    clear HO HT hk0 hk6 h
    obtain ⟨j, xs, hj0, hj6, rfl, hO, hxl, q, hq0, hq1, hr, hg⟩ := hrel
    by_cases hlt2 : 0 < j
    · have HO := Lib.hid hO
      have HG := Lib.hid hg
      clear hO hg
      go_wp2_with fail
      refine (c_pick g q 15 _ hr (by omega) (by omega) (by omega) (by omega)).mono ?_
      rintro e w1 ⟨y, rfl, hy0, hy1, hr1, hg1⟩
      have HO1 := Lib.hid (HO.out.grown hg1 hlt)
      have HG1 := Lib.hid (gb_trans HG.out hg1 (.inl rfl))
      have HR1 := Lib.hid hr1
      clear hr1 hg1 hy1 HO HG hr
      go_wp2_with (at_builtin; go_must (refine app_int w.heap.size rfl _ _ rfl u3 xs y rfl rfl HO1.out HG1.out.size (by omega) ?_); intro v2 w2 hO2 hg2)
      go_roundw
      case rel =>
        exact ⟨j - 1, xs ++ [y], by omega, by omega, rfl, hO2, by simp; omega, q + 1, by omega, by simp; omega, HR1.out.gb hg2 (fun k hk => Nat.lt_of_lt_of_le hlt (own_row_new HO1.out k hk)), gb_trans HG1.out hg2 (.inr (own_row_new HO1.out))⟩
      case measure => simp [intOf]; omega
    · have HO := Lib.hid hO
      have HG := Lib.hid hg
      clear hO hg
      go_wp2_with fail
      refine (c_pick g q 14 _ hr (by omega) (by omega) (by omega) (by omega)).mono ?_
      rintro e w1 ⟨y, rfl, hy0, hy1, hr1, hg1⟩
      have HO1 := HO.out.grown hg1 hlt
      have HG1 := gb_trans HG.out hg1 (.inl rfl)
      clear hg1 hy1 HO HG hr
      by_cases hy : y = 0
      · subst hy
        have HO2 := Lib.hid (HO1.below (below_new w1 (.cells #[.int .i64 (-1), .int .i64 100] 3)))
        have hr2 := hr1.below (below_new w1 (.cells #[.int .i64 (-1), .int .i64 100] 3))
        have HG2 := Lib.hid (gb_alloc HG1 (.cells #[.int .i64 (-1), .int .i64 100] 3))
        have hlt1 := hr1.lt
        clear HO1 HG1 hr1
        go_wp2_with fail
        refine (c_one g (q + 1) (some ⟨w1.heap.size, 0, none⟩) 2 [-1, 100] _ hr2 (by omega) (by omega) (IntsAt.lit w1 [-1, 100]) (by simp) (by simp) (fun a ha => by injection ha with ha; subst ha; simp; omega)).mono ?_
        rintro e w3 ⟨y, rfl, _, hr3, hg3⟩
        have HO3 := Lib.hid (HO2.out.grown hg3 hlt)
        have HG3 := Lib.hid (gb_trans HG2.out hg3 (.inl rfl))
        have HR3 := Lib.hid hr3
        clear hr3 hg3 HO2 HG2 hr2
        go_wp2_with (at_builtin; go_must (refine app_int w.heap.size rfl _ _ rfl u3 xs y rfl rfl HO3.out HG3.out.size (by omega) ?_); intro v2 w2 hO2 hg2)
        go_ret
        exact ⟨v2, _, rfl, hO2, by simp; omega, q + 1 + 1, by omega, by omega, HR3.out.gb hg2 (fun k hk => Nat.lt_of_lt_of_le hlt (own_row_new HO3.out k hk)), gb_trans HG3.out hg2 (.inr (own_row_new HO3.out))⟩
      · have hy2 : (y == 0) = false := by rw [beq_eq_false_iff_ne]; exact hy
        have HO2 := Lib.hid HO1
        have HG2 := Lib.hid HG1
        have HR2 := Lib.hid hr1
        clear HO1 HG1 hr1
        go_wp2
        go_ret
        exact ⟨u3, xs, rfl, HO2.out, by omega, q + 1, by omega, by omega, HR2.out, HG2.out⟩
end Go.Proofs.Ythglnmhcgagkdaa
