/- Walks: a fare is drawn, and a week. -/
import Derived.Test.YthglnmhcgagkdaaD1
import Derived.Test.YthglnmhcgagkdaaA4
import Derived.Deep.RegionHeld3
import Derived.KernelRfl
namespace Go.Proofs.Ythglnmhcgagkdaa
open Go.RowKit
theorem own_ne_blk {w : World} {base : Nat} {e : TypeId} {size n : Nat} {v : Value} {xs : List Value} {g : Nat} {cs : Array Value} {t : TypeId} (h : w.ownsRow base e size v n xs) (hB : Blk w g cs t) (ht : e ≠ t) : v.ownBlock ≠ some g := by
  rcases h.2 with ⟨rfl, _⟩ | ⟨g', cap, cur, rfl, _, hh, _⟩
  · simp [Value.ownBlock]
  · intro he
    have : g' = g := by simpa [Value.ownBlock] using he
    subst this
    unfold Blk at hB
    rw [hh] at hB
    injection hB with hB
    injection hB with _ hB
    exact ht hB
theorem own_far {w : World} {base : Nat} {e : TypeId} {size n : Nat} {v : Value} {xs : List Value} (h : w.ownsRow base e size v n xs) {p : Addr} (hp : v.ownBlock ≠ some p.block) (u : Value) : (w.setCell p u).ownsRow base e size v n xs :=
  own_move h (fun k hk _ _ => Below.heap_setCell w p u k (fun e => hp (by rw [hk, e])))
theorem OI.any {w : World} {base : Nat} {v : Value} {xs : List Int} (h : OI w base v xs) : ∃ A n c, v = .slice A n c := by
  obtain ⟨A, c, h, _⟩ := h.shape
  exact ⟨A, _, c, h⟩
theorem RdAt.drew {w : World} {g : Nat} {p : Int} (h : RdAt w g p) : RdAt w.drew g p := h.keep fun _ _ => rfl
theorem IntsAt.drew {w : World} {A : Option Addr} {xs : List Int} (h : IntsAt w A xs) : IntsAt w.drew A xs := h
theorem frozen_keep {w w' : World} {g j : Nat} (h : w'.heap[g]? = w.heap[g]?) (hf : w.frozen? ⟨g, j, none⟩ = false) : w'.frozen? ⟨g, j, none⟩ = false := (World.frozen?_of_block (w := w) h).trans hf
/-- The fare that is being drawn: its box, its prices. -/
def FareBox (w : World) (base gb : Nat) (xs : List Int) (day week : Int) : Prop := ∃ v, Blk w gb #[v, .int .i64 day, .int .i64 week] 25 ∧ OI w base v xs
theorem FareBox.grown {w w1 : World} {base gb g : Nat} {xs : List Int} {day week : Int} (h : FareBox w base gb xs day week) (hg : w.grownBy w1 (some g)) (hlt : g < base) (hb : base ≤ gb) : FareBox w1 base gb xs day week := by
  obtain ⟨v, h1, h2⟩ := h
  exact ⟨v, h1.grown hg (fun e => by injection e with e; omega), h2.grown hg hlt⟩
/-- A fare is drawn. -/
def DrawnFare (g : Nat) (p : Int) (m : Nat) (w : World) (e : Ending) (w' : World) : Prop :=
  ∃ (A : Option Addr) (c : Nat) (f : Fare), e = .returned (.agg #[.slice A f.single.length c, .int .i64 f.day, .int .i64 f.week]) ∧ IntsAt w' A f.single ∧ f.single.length ≤ 10 ∧ (∀ a, A = some a → w.heap.size ≤ a.block) ∧ Took g p m w w'
theorem fare_end {g : Nat} {p q : Int} {m r : Nat} {w w1 : World} {A : Option Addr} {c : Nat} {day week : Int} {xs : List Int} (hr : r = w.heap.size) (hlt : g < w.heap.size) (hO : IntsAt w1 A xs) (hl : xs.length ≤ 10) (hne : ∀ a, A = some a → a.block ≠ r) (hge : ∀ a, A = some a → w.heap.size ≤ a.block) (hR : RdAt w1 g q) (h0 : p ≤ q) (h1 : q ≤ p + m) (hG : w.grownBy w1 (some g)) :
    DrawnFare g p m w (.returned (.agg #[.slice A xs.length c, .int .i64 day, .int .i64 week])) (((w1.setCell ⟨r, 0, none⟩ (.slice A xs.length c)).setCell ⟨r, 1, none⟩ (.int .i64 day)).setCell ⟨r, 2, none⟩ (.int .i64 week)) := by
  subst hr
  refine ⟨A, c, ⟨xs, day, week⟩, rfl, hO.keep (fun a ha _ => ?_) (by simp), hl, hge, q, h0, h1, hR.keep (fun k hk => ?_), gb_set_new (gb_set_new (gb_set_new hG (Nat.le_refl _) _) (Nat.le_refl _) _) (Nat.le_refl _) _⟩
  · have := hne a ha
    rw [Below.heap_setCell _ _ _ _ this, Below.heap_setCell _ _ _ _ this, Below.heap_setCell _ _ _ _ this]
  · rw [Below.heap_setCell _ _ _ _ (by simp; omega), Below.heap_setCell _ _ _ _ (by simp; omega), Below.heap_setCell _ _ _ _ (by simp; omega)]
theorem three_set {w : World} {r : Nat} {a b c : Value} {t : TypeId} (h : Blk w r #[a, b, c] t) (x y z : Value) : Blk (((w.setCell ⟨r, 0, none⟩ x).setCell ⟨r, 1, none⟩ y).setCell ⟨r, 2, none⟩ z) r #[x, y, z] t := by
  have := ((h.set 0 x).set 1 y).set 2 z
  simpa using this
/-- All that holds behind the switch. -/
structure FSt (g : Nat) (w : World) (gb : Nat) (W : World) (v : Value) (day week : Int) (xs : List Int) (q : Int) : Prop where
  B : Blk W gb #[v, .int .i64 day, .int .i64 week] 25
  Z : Blk W w.heap.size #[.slice none 0 0, .int .i64 0, .int .i64 0] 25
  O : OI W w.heap.size v xs
  R : RdAt W g q
  G : w.grownBy W (some g)
theorem FSt.grown {g : Nat} {w : World} {gb : Nat} {W W1 : World} {v : Value} {day week : Int} {xs : List Int} {q q' : Int} (h : FSt g w gb W v day week xs q) (hlt : g < w.heap.size) (hgb : w.heap.size < gb) (hg : W.grownBy W1 (some g)) (hr : RdAt W1 g q') : FSt g w gb W1 v day week xs q' :=
  ⟨h.B.grown hg (fun e => by injection e with e; omega), h.Z.grown hg (fun e => by injection e with e; omega), h.O.grown hg hlt, hr, gb_trans h.G hg (.inl rfl)⟩
theorem FSt.alloc {g : Nat} {w : World} {gb : Nat} {W : World} {v : Value} {day week : Int} {xs : List Int} {q : Int} (h : FSt g w gb W v day week xs q) (o : Obj) : FSt g w gb (W.alloc o) v day week xs q :=
  ⟨h.B.alloc o, h.Z.alloc o, h.O.below (below_new _ _), h.R.below (below_new _ _), gb_alloc h.G o⟩
theorem FSt.drew {g : Nat} {w : World} {gb : Nat} {W : World} {v : Value} {day week : Int} {xs : List Int} {q : Int} (h : FSt g w gb W v day week xs q) : FSt g w gb W.drew v day week xs q :=
  ⟨h.B, h.Z, h.O, h.R.drew, ⟨h.G.os, h.G.tape, h.G.output, h.G.size, h.G.block⟩⟩
theorem FSt.setRow {g : Nat} {w : World} {gb : Nat} {W : World} {g1 k : Nat} {day week : Int} {xs : List Int} {q : Int} (h : FSt g w gb W (.slice (some ⟨g1, 0, none⟩) xs.length k) day week xs q) (hlt : g < w.heap.size) (hb : w.heap.size ≤ g1) (j : Nat) (y : Int) : FSt g w gb (W.setCell ⟨g1, j, none⟩ (.int .i64 y)) (.slice (some ⟨g1, 0, none⟩) (xs.set j y).length k) day week (xs.set j y) q := by
  have n1 := own_ne_blk h.O h.B (by decide)
  have n2 := own_ne_blk h.O h.Z (by decide)
  simp only [Value.ownBlock, ne_eq, Option.some.injEq] at n1 n2
  refine ⟨?_, h.Z.far (p := ⟨g1, j, none⟩) (fun e => n2 e.symm) _, ?_, h.R.gb (grown_set W g1 j _) (fun k hk => by injection hk with hk; omega), gb_set_new h.G hb _⟩
  · rw [List.length_set]; exact h.B.far (p := ⟨g1, j, none⟩) (fun e => n1 e.symm) _
  · have := h.O.set j y
    rw [List.length_set]; exact this
theorem FSt.setDay {g : Nat} {w : World} {gb : Nat} {W : World} {v : Value} {day week : Int} {xs : List Int} {q : Int} (h : FSt g w gb W v day week xs q) (hlt : g < w.heap.size) (hgb : w.heap.size < gb) (y : Int) : FSt g w gb (W.setCell ⟨gb, 1, none⟩ (.int .i64 y)) v y week xs q :=
  ⟨by simpa using h.B.set 1 (.int .i64 y), h.Z.far (p := ⟨gb, 1, none⟩) (Nat.ne_of_lt hgb) _, own_far h.O (p := ⟨gb, 1, none⟩) (own_ne_blk h.O h.B (by decide)) _, h.R.gb (grown_set W gb 1 _) (fun k hk => by injection hk with hk; omega), gb_set_new h.G (p := ⟨gb, 1, none⟩) (Nat.le_of_lt hgb) _⟩
set_option maxHeartbeats 2000000 in
set_option maxRecDepth 100000 in
theorem c_Fare (g : Nat) (p : Int) (w : World) (h : RdAt w g p) (hp0 : 0 ≤ p) (hp1 : p ≤ 900000) :
    Calls Try.prog 53 #[.pointer (some ⟨g, 0, none⟩)] w (DrawnFare g p 20 w) := by
  have hlt := h.lt
  have h1 := h.below (below_new w (.cells #[.slice none 0 0, .int .i64 0, .int .i64 0] 25))
  have B0 := Blk.new w #[.slice none 0 0, .int .i64 0, .int .i64 0] 25
  have G0 := World.grownBy_alloc w (.cells #[.slice none 0 0, .int .i64 0, .int .i64 0] 25) (some g)
  go_enter Try.func53, Try.ntmps53
  go_wp2_with fail
  refine (c_pick g p 30 _ h1 hp0 (by omega) (by omega) (by omega)).mono ?_
  rintro e w1 ⟨d, rfl, hd0, hd1, hr1, hg1⟩
  have G1 := gb_trans G0 hg1 (.inl rfl)
  have B1 := B0.grown hg1 (fun e => by injection e with e; omega)
  have hd1 := hd1 (by omega)
  clear hg1 G0 B0 h1
  go_wp2_with fail
  refine (c_pick g (p + 1) 100 _ hr1 (by omega) (by omega) (by omega) (by omega)).mono ?_
  rintro e w2 ⟨k, rfl, hk0, hk1, hr2, hg2⟩
  have G2 := gb_trans G1 hg2 (.inl rfl)
  have B2 := B1.grown hg2 (fun e => by injection e with e; omega)
  have hk1 := hk1 (by omega)
  clear hg2 G1 B1 hr1
  have hs2 := B2.lt
  have h3 := hr2.below (below_new w2 (.cells #[.slice none 0 0, .int .i64 (10 + d), .int .i64 (40 + k)] 25))
  have B3 := B2.alloc (.cells #[.slice none 0 0, .int .i64 (10 + d), .int .i64 (40 + k)] 25)
  have F3 : FareBox (w2.alloc (.cells #[.slice none 0 0, .int .i64 (10 + d), .int .i64 (40 + k)] 25)) w.heap.size w2.heap.size [] (10 + d) (40 + k) := ⟨_, Blk.new _ _ _, OI.nil _ _⟩
  have G3 := gb_alloc G2 (.cells #[.slice none 0 0, .int .i64 (10 + d), .int .i64 (40 + k)] 25)
  clear G2 B2 hr2
  go_wp2_with fail
  refine (c_pick g (p + 1 + 1) 6 _ h3 (by omega) (by omega) (by omega) (by omega)).mono ?_
  rintro e w3 ⟨c, rfl, hc0, hc1, hr4, hg4⟩
  have G4 := gb_trans G3 hg4 (.inl rfl)
  have B4 := B3.grown hg4 (fun e => by injection e with e; omega)
  have F4 := F3.grown hg4 hlt (Nat.le_of_lt hs2)
  have hc1 := hc1 (by omega)
  clear hg4 G3 B3 F3 h3
  go_wp2_with fail
  obtain ⟨gb, hgb⟩ : ∃ gb, gb = w2.heap.size := ⟨_, rfl⟩
  rw [← hgb] at F4 hs2 ⊢
  obtain ⟨day, hday⟩ : ∃ x, x = 10 + d := ⟨_, rfl⟩
  obtain ⟨week, hweek⟩ : ∃ x, x = 40 + k := ⟨_, rfl⟩
  rw [← hday, ← hweek] at F4
  rw [← hday, ← hweek]
  clear hgb hday hweek hd0 hd1 hk0 hk1
  go_loopw [4, 5] (fun v4 v5 wr => ∃ (j : Nat) (c : Int) (xs : List Int), j ≤ 4 ∧ v5 = .int .i64 j ∧ v4 = .int .i64 c ∧ 0 ≤ c ∧ c ≤ 6 + 5 * j ∧ xs.length = j ∧ FareBox wr w.heap.size gb xs day week ∧ Blk wr w.heap.size #[.slice none 0 0, .int .i64 0, .int .i64 0] 25 ∧ RdAt wr g (p + 3 + j) ∧ w.grownBy wr (some g)) (fun _ v5 _ => 4 - (intOf v5).toNat)
  case atStart => exact ⟨0, c, [], by omega, rfl, rfl, hc0, by omega, rfl, F4, B4, by rw [show p + 3 + ((0 : Nat) : Int) = p + 1 + 1 + 1 by omega]; exact hr4, G4⟩
  case round =>
    clear hc0 hr4 G4 B4 F4 hc1 h
    obtain ⟨j, c, xs, hj, rfl, rfl, hc0, hc1, hxl, ⟨v, hB, hO⟩, B4, hr, hg⟩ := hrel
    obtain ⟨c0, c1, c2⟩ := hB.cells3
    have HO := Lib.hid hO
    have HB := Lib.hid hB
    have HZ := Lib.hid B4
    have HG := Lib.hid hg
    have HL := Lib.hid hxl
    have HR := Lib.hid hr
    have hne := own_ne_blk hO hB (by decide)
    have hne2 := own_ne_blk hO B4 (by decide)
    clear hO hB hg hxl B4 hr
    by_cases hlt4 : j < 4
    · go_wp2_with (at_builtin; go_must (refine app_int w.heap.size rfl _ _ rfl v xs c rfl rfl HO.out HG.out.size (by have := HL.out; omega) ?_); intro v2 w2 hO2 hg2; have B2 := HB.out.grown hg2 (fun e => hne e.symm); have Z2 := HZ.out.grown hg2 (fun e => hne2 e.symm); have R2 := HR.out.gb hg2 (fun k hk => Nat.lt_of_lt_of_le hlt (own_row_new HO.out k hk)); have G2 := gb_trans HG.out hg2 (.inr (own_row_new HO.out)); have ne2 := own_ne_blk hO2 B2 (by decide); have H2 : Hid (OI (w2.setCell ⟨gb, 0, none⟩ v2) w.heap.size v2 (xs ++ [c])) := own_far hO2 ne2 _; have HB2 := Lib.hid (B2.set 0 v2); have HZ2 := Lib.hid (Z2.far (p := ⟨gb, 0, none⟩) (Nat.ne_of_lt hs2) v2); have HR2 := Lib.hid (R2.gb (grown_set w2 gb 0 v2) (fun k hk => by injection hk with hk; omega)); have HG2 := Lib.hid (gb_set_new G2 (p := ⟨gb, 0, none⟩) (Nat.le_of_lt hs2) v2); obtain ⟨c0', c1', c2'⟩ := B2.cells3; have fz := B2.frozen 0; obtain ⟨A2, n2, k2, e2⟩ := OI.any hO2; subst e2; clear hO2 hg2 c0 c1 c2 B2 Z2 R2 G2 ne2 hne hne2)
      generalize w2.setCell ⟨gb, 0, none⟩ (.slice A2 n2 k2) = w3 at *
      refine (c_pick g (p + 3 + j) 5 _ HR2.out (by omega) (by omega) (by omega) (by omega)).mono ?_
      rintro e w4 ⟨y, rfl, hy0, hy1, hr4, hg4⟩
      have hy1 := hy1 (by omega)
      have H4 := Lib.hid (H2.out.grown hg4 hlt)
      have HB4 := Lib.hid (HB2.out.grown hg4 (fun e => by injection e with e; omega))
      have HZ4 := Lib.hid (HZ2.out.grown hg4 (fun e => by injection e with e; omega))
      have HG4 := Lib.hid (gb_trans HG2.out hg4 (.inl rfl))
      have HR4 := Lib.hid hr4
      clear hr4 hg4 H2 HB2 HZ2 HG2 HR2
      go_wp2
      go_roundw
      case rel =>
        exact ⟨j + 1, c + y, xs ++ [c], by omega, by go_num, rfl, by omega, by omega, by simp [HL.out], ⟨_, HB4.out, H4.out⟩, HZ4.out, by rw [show p + 3 + ((j + 1 : Nat) : Int) = p + 3 + j + 1 by omega]; exact HR4.out, HG4.out⟩
      case measure => simp [intOf]; omega
    · go_wp2_with fail
      refine (c_pick g (p + 3 + j) 14 _ HR.out (by omega) (by omega) (by omega) (by omega)).mono ?_
      rintro e w4 ⟨y, rfl, hy0, hy1, hr4, hg4⟩
      have H4 := Lib.hid (HO.out.grown hg4 hlt)
      have B4 := HB.out.grown hg4 (fun e => by injection e with e; omega)
      have HB4 := Lib.hid B4
      have Z4 := HZ.out.grown hg4 (fun e => by injection e with e; omega)
      have HZ4 := Lib.hid Z4
      have HG4 := Lib.hid (gb_trans HG.out hg4 (.inl rfl))
      have HR4 := Lib.hid hr4
      have S4 : FSt g w gb w4 v day week xs (p + 3 + j + 1) := ⟨B4, Z4, H4.out, hr4, HG4.out⟩
      have HL4 : Hid (xs.length = 4) := by show _ = _; rw [HL.out]; omega
      obtain ⟨q, hq⟩ : ∃ q, q = p + 3 + j + 1 := ⟨_, rfl⟩
      have hq0 : p ≤ q := by omega
      have hq1 : q ≤ p + 8 := by omega
      rw [← hq] at S4
      clear hq hr4 hg4 HO HB HZ HR HG c0 c1 c2 H4 HB4 HZ4 HG4 HR4 HL B4 Z4 hne hne2
      have HS := Lib.hid S4
      obtain ⟨c0', c1', c2'⟩ := S4.B.cells3
      have hgs4 := S4.B.lt
      obtain ⟨z0, z1, z2⟩ := S4.Z.cells3
      have y0 := S4.Z.frozen 0
      have y1 := S4.Z.frozen 1
      have y2 := S4.Z.frozen 2
      clear S4
      obtain ⟨g1, k1, rfl, hb1, hs1, hcc, hff⟩ := HS.out.O.at (by have := HL4.out; omega)
      have Hcc := Lib.hid hcc
      have Hff := Lib.hid hff
      clear hcc hff
      have hk1 : xs.length ≤ k1 := by obtain ⟨_, _, e, h, _⟩ := HS.out.O.shape; injection e with _ _ e; omega
      have hk3 : (1 : Int) ≤ (xs.length : Int) := by have := HL4.out; omega
      have fz := HS.out.B.frozen 0
      have hd := run_drop g1 0 xs.length k1 1 (by omega) hk3 (by have := HL4.out; omega)
      simp only [Nat.zero_add, Int.toNat_one] at hd
      go_wp2_with fail
      · have hlen : (1 : Int) < (xs.length : Int) := by have := HL4.out; omega
        have f1 := Hff.out 1
        have cc1 := Hcc.out 1 (by omega)
        clear c1' c2' z0 z1 z2 y0 y1 y2 hd fz
        have hn1 : ¬ (gb = g1) := fun e => own_ne_blk HS.out.O HS.out.B (by decide) (by simp [Value.ownBlock, e])
        have hgs : gb < (w4.alloc (.cells #[.int .i64 (-1), .int .i64 100] 3)).drew.heap.size := by simp; omega
        have hgs1 : g1 < (w4.alloc (.cells #[.int .i64 (-1), .int .i64 100] 3)).drew.heap.size := by simp; omega
        go_region_held3 (fun w' => w'.cell? ⟨gb, 0, none⟩ = some (.slice (some ⟨g1, 0, none⟩) xs.length k1)) (first | go_keep | (rw [cell_keep (hg5.block gb hgs (by simp; omega))]; go_keep) | exact (cell_keep (Below.heap_setCell _ _ _ _ hn1) _).trans (by assumption)) ((go_at_call 62; refine (c_one g q _ 2 [-1, 100] _ (HS.out.alloc (.cells #[.int .i64 (-1), .int .i64 100] 3)).drew.R (by omega) (by omega) (IntsAt.drew (IntsAt.lit w4 [-1, 100])) (by simp) (by simp) (fun a ha => by injection ha with ha; subst ha; simp; have := HS.out.R.lt; omega)).mono ?_; rintro e w5 ⟨y, rfl, hy, hr5, hg5⟩; have HS5 := Lib.hid ((HS.out.alloc (.cells #[.int .i64 (-1), .int .i64 100] 3)).drew.grown hlt hs2 hg5 hr5); have cc5 := (cell_keep (hg5.block g1 hgs1 (by simp; omega)) 1).trans ((cell_keep (Below.heap_alloc w4 (.cells #[.int .i64 (-1), .int .i64 100] 3) g1 hs1) 1).trans cc1); have f5 := frozen_keep (hg5.block g1 hgs1 (by simp; omega)) ((frozen_keep (Below.heap_alloc w4 (.cells #[.int .i64 (-1), .int .i64 100] 3) g1 hs1) f1)); clear hr5))
        have S6 := HS5.out.setRow hlt hb1 1 y
        clear hg5 cc5 f5 HS5 cc1 f1 c0' hgs hgs1
        generalize w5.setCell ⟨g1, 1, none⟩ (.int .i64 y) = W6 at *
        rw [List.length_set] at S6
        obtain ⟨c0', c1', c2'⟩ := S6.B.cells3
        have z0 := S6.Z.cells3
        obtain ⟨z0, z1, z2⟩ := z0
        have y0 := S6.Z.frozen 0
        have y1 := S6.Z.frozen 1
        have y2 := S6.Z.frozen 2
        have HS6 := Lib.hid S6
        clear S6
        go_wp2
        have O6 := HS6.out.O
        have n6 := own_ne_blk O6 HS6.out.Z (by decide)
        obtain ⟨A6, k6, e6, _, hA6⟩ := O6.shape
        injection e6 with e7 e8 e9
        subst e7 e9
        rw [e8]
        have E7 := fare_end (p := p) (m := 20) (c := k1) (day := day) (week := week) rfl hlt hA6 (by rw [← e8]; have := HL4.out; omega) (fun a ha => by injection ha with ha; subst ha; intro e; exact n6 (by simp [Value.ownBlock, ← e])) (fun a ha => by injection ha with ha; subst ha; exact hb1) HS6.out.R (by omega) (by omega) HS6.out.G
        have Z7 := three_set HS6.out.Z (.slice (some ⟨g1, 0, none⟩) (xs.set 1 y).length k1) (.int .i64 day) (.int .i64 week)
        generalize ((W6.setCell ⟨w.heap.size, 0, none⟩ (.slice (some ⟨g1, 0, none⟩) (xs.set 1 y).length k1)).setCell ⟨w.heap.size, 1, none⟩ (.int .i64 day)).setCell ⟨w.heap.size, 2, none⟩ (.int .i64 week) = W7 at *
        obtain ⟨r0, r1, r2⟩ := Z7.cells3
        refine bodyPost_ret (v := .agg #[.slice (some ⟨g1, 0, none⟩) (xs.set 1 y).length k1, .int .i64 day, .int .i64 week]) (by simp [results, Try.results53, go_sem, r0, r1, r2]) rfl E7
      · clear z0 z1 z2 y0 y1 y2 hd fz
        have SA := HS.out.alloc (.cells #[.int .i64 (-1), .int .i64 100] 3)
        have HSA := Lib.hid SA
        clear SA c0' c1' c2'
        go_wp2_with fail
        refine (c_one g q _ 2 [-1, 100] _ HSA.out.R (by omega) (by omega) (IntsAt.lit w4 [-1, 100]) (by simp) (by simp) (fun a ha => by injection ha with ha; subst ha; simp; have := HS.out.R.lt; omega)).mono ?_
        rintro e w5 ⟨x, rfl, _, hr5, hg5⟩
        have S5 := HSA.out.grown hlt hs2 hg5 hr5
        obtain ⟨c0', c1', c2'⟩ := S5.B.cells3
        have f1 := S5.B.frozen 1
        have HS6 := Lib.hid (S5.setDay hlt hs2 x)
        clear S5 HSA hr5 hg5
        go_upto_region 15 with (fail)
        generalize w5.setCell ⟨gb, 1, none⟩ (.int .i64 x) = W6 at *
        clear c0' c1' c2' f1
        obtain ⟨c0', c1', c2'⟩ := HS6.out.B.cells3
        obtain ⟨z0, z1, z2⟩ := HS6.out.Z.cells3
        have y0 := HS6.out.Z.frozen 0
        have y1 := HS6.out.Z.frozen 1
        have y2 := HS6.out.Z.frozen 2
        have O6 := HS6.out.O
        have n6 := own_ne_blk O6 HS6.out.Z (by decide)
        obtain ⟨A6, k6, e6, _, hA6⟩ := O6.shape
        injection e6 with e7 e8 e9
        subst e7 e9
        have E7 := fare_end (p := p) (m := 20) (c := k1) (day := x) (week := week) rfl hlt hA6 (by have := HL4.out; omega) (fun a ha => by injection ha with ha; subst ha; intro e; exact n6 (by simp [Value.ownBlock, ← e])) (fun a ha => by injection ha with ha; subst ha; exact hb1) HS6.out.R (by omega) (by omega) HS6.out.G
        have Z7 := three_set HS6.out.Z (.slice (some ⟨g1, 0, none⟩) xs.length k1) (.int .i64 x) (.int .i64 week)
        have HE7 := Lib.hid E7
        have HZ7 := Lib.hid Z7
        clear E7 Z7 O6 n6 hA6 e8
        go_wp2
        generalize ((W6.setCell ⟨w.heap.size, 0, none⟩ (.slice (some ⟨g1, 0, none⟩) xs.length k1)).setCell ⟨w.heap.size, 1, none⟩ (.int .i64 x)).setCell ⟨w.heap.size, 2, none⟩ (.int .i64 week) = W7 at *
        obtain ⟨r0, r1, r2⟩ := HZ7.out.cells3
        refine bodyPost_ret (v := .agg #[.slice (some ⟨g1, 0, none⟩) xs.length k1, .int .i64 x, .int .i64 week]) (by simp [results, Try.results53, go_sem, r0, r1, r2]) rfl HE7.out
      · have O6 := HS.out.O
        have n6 := own_ne_blk O6 HS.out.Z (by decide)
        have n7 := own_ne_blk O6 HS.out.B (by decide)
        obtain ⟨A6, k6, e6, _, hA6⟩ := O6.shape
        injection e6 with e7 e8 e9
        subst e7 e9
        have hA7 : IntsAt (w4.setCell ⟨gb, 0, none⟩ (.slice (some ⟨g1, 0 + 1, none⟩) (xs.length - 1) (k1 - 1))) (some ⟨g1, 0 + 1, none⟩) (xs.drop 1) := (hA6.drop 1).keep (fun a ha _ => by injection ha with ha; subst ha; exact Below.heap_setCell _ _ _ _ (fun e => n7 (by simp [Value.ownBlock]; exact e))) (by simp)
        have hR7 : RdAt (w4.setCell ⟨gb, 0, none⟩ (.slice (some ⟨g1, 0 + 1, none⟩) (xs.length - 1) (k1 - 1))) g q := HS.out.R.gb (grown_set w4 gb 0 _) (fun k hk => by injection hk with hk; omega)
        have hG7 : w.grownBy (w4.setCell ⟨gb, 0, none⟩ (.slice (some ⟨g1, 0 + 1, none⟩) (xs.length - 1) (k1 - 1))) (some g) := gb_set_new HS.out.G (p := ⟨gb, 0, none⟩) (Nat.le_of_lt hs2) _
        have hZ7 : Blk (w4.setCell ⟨gb, 0, none⟩ (.slice (some ⟨g1, 0 + 1, none⟩) (xs.length - 1) (k1 - 1))) w.heap.size #[.slice none 0 0, .int .i64 0, .int .i64 0] 25 := HS.out.Z.far (p := ⟨gb, 0, none⟩) (Nat.ne_of_lt hs2) _
        have n8 : ¬ (g1 = w.heap.size) := fun e => n6 (by simp [Value.ownBlock, e])
        simp only [Nat.zero_add] at hA7 hR7 hG7 hZ7
        have E7 := fare_end (p := p) (m := 20) (c := k1 - 1) (day := day) (week := week) rfl hlt hA7 (by have := HL4.out; simp; omega) (fun a ha => by injection ha with ha; subst ha; exact n8) (fun a ha => by injection ha with ha; subst ha; exact hb1) hR7 (by omega) (by omega) hG7
        have Z7 := three_set hZ7 (.slice (some ⟨g1, 1, none⟩) (xs.drop 1).length (k1 - 1)) (.int .i64 day) (.int .i64 week)
        rw [List.length_drop] at E7 Z7
        generalize (((w4.setCell ⟨gb, 0, none⟩ (.slice (some ⟨g1, 1, none⟩) (xs.length - 1) (k1 - 1))).setCell ⟨w.heap.size, 0, none⟩ (.slice (some ⟨g1, 1, none⟩) (xs.length - 1) (k1 - 1))).setCell ⟨w.heap.size, 1, none⟩ (.int .i64 day)).setCell ⟨w.heap.size, 2, none⟩ (.int .i64 week) = W7 at *
        obtain ⟨r0, r1, r2⟩ := Z7.cells3
        refine bodyPost_ret (v := .agg #[.slice (some ⟨g1, 1, none⟩) (xs.length - 1) (k1 - 1), .int .i64 day, .int .i64 week]) (by simp [results, Try.results53, go_sem, r0, r1, r2]) rfl E7
      · have O6 := HS.out.O
        have n6 := own_ne_blk O6 HS.out.Z (by decide)
        obtain ⟨A6, k6, e6, _, hA6⟩ := O6.shape
        injection e6 with e7 e8 e9
        subst e7 e9
        have E7 := fare_end (p := p) (m := 20) (c := k1) (day := day) (week := week) rfl hlt hA6 (by have := HL4.out; omega) (fun a ha => by injection ha with ha; subst ha; intro e; exact n6 (by simp [Value.ownBlock, ← e])) (fun a ha => by injection ha with ha; subst ha; exact hb1) HS.out.R (by omega) (by omega) HS.out.G
        have Z7 := three_set HS.out.Z (.slice (some ⟨g1, 0, none⟩) xs.length k1) (.int .i64 day) (.int .i64 week)
        generalize ((w4.setCell ⟨w.heap.size, 0, none⟩ (.slice (some ⟨g1, 0, none⟩) xs.length k1)).setCell ⟨w.heap.size, 1, none⟩ (.int .i64 day)).setCell ⟨w.heap.size, 2, none⟩ (.int .i64 week) = W7 at *
        obtain ⟨r0, r1, r2⟩ := Z7.cells3
        refine bodyPost_ret (v := .agg #[.slice (some ⟨g1, 0, none⟩) xs.length k1, .int .i64 day, .int .i64 week]) (by simp [results, Try.results53, go_sem, r0, r1, r2]) rfl E7
end Go.Proofs.Ythglnmhcgagkdaa
