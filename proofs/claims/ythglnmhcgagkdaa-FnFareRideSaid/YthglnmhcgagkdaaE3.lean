/- Walk: any net. -/
import Derived.Test.YthglnmhcgagkdaaE2
namespace Go.Proofs.Ythglnmhcgagkdaa
open Go.RowKit
theorem arcCells_set (y : Int) (j : Nat) (hj : j < 5) : ∀ (L : List Arc) (k : Nat), k < L.length → ∃ L' : List Arc, L'.length = L.length ∧ arcCells L' = (arcCells L).set (k * 5 + j) (.int .i64 y)
  | [], k, h => absurd h (by simp)
  | a :: L, 0, _ => by
    have : j = 0 ∨ j = 1 ∨ j = 2 ∨ j = 3 ∨ j = 4 := by omega
    rcases this with rfl | rfl | rfl | rfl | rfl
    · exact ⟨⟨y, a.to, a.co, a.tl, a.ld⟩ :: L, rfl, by simp [arcCells, Arc.cells]⟩
    · exact ⟨⟨a.fr, y, a.co, a.tl, a.ld⟩ :: L, rfl, by simp [arcCells, Arc.cells]⟩
    · exact ⟨⟨a.fr, a.to, y, a.tl, a.ld⟩ :: L, rfl, by simp [arcCells, Arc.cells]⟩
    · exact ⟨⟨a.fr, a.to, a.co, y, a.ld⟩ :: L, rfl, by simp [arcCells, Arc.cells]⟩
    · exact ⟨⟨a.fr, a.to, a.co, a.tl, y⟩ :: L, rfl, by simp [arcCells, Arc.cells]⟩
  | a :: L, k + 1, h => by
    obtain ⟨L', h1, h2⟩ := arcCells_set y j hj L k (by simpa using h)
    refine ⟨a :: L', by simp [h1], ?_⟩
    rw [show (k + 1) * 5 + j = a.cells.length + (k * 5 + j) by simp [Arc.cells]; omega]
    show a.cells ++ arcCells L' = (a.cells ++ arcCells L).set _ _
    rw [h2, List.set_append_right _ _ (by omega), Nat.add_sub_cancel_left]
theorem cell_setCell_off (w : World) (g i j : Nat) (v : Value) (h : i ≠ j) : (w.setCell ⟨g, i, none⟩ v).cell? ⟨g, j, none⟩ = w.cell? ⟨g, j, none⟩ := by
  unfold World.cell? World.setCell
  simp only [Array.getElem?_modify, if_true]
  cases w.heap[g]? with
  | none => rfl
  | some o => cases o <;> simp [Array.getElem?_setIfInBounds_ne h]
theorem NSt.setRow {g : Nat} {w : World} {nb : Nat} {nn : Int} {W : World} {g1 cA : Nat} {L : List Arc} {q : Int} (h : NSt g w nb nn W (.slice (some ⟨g1, 0, none⟩) L.length cA) L q) (hlt : g < w.heap.size) (hb : w.heap.size ≤ g1) (k j : Nat) (hk : k < L.length) (hj : j < 5) (y : Int) :
    ∃ L' : List Arc, L'.length = L.length ∧ NSt g w nb nn (W.setCell ⟨g1, k * 5 + j, none⟩ (.int .i64 y)) (.slice (some ⟨g1, 0, none⟩) L.length cA) L' q := by
  obtain ⟨L', hl, hs⟩ := arcCells_set y j hj L k hk
  have n1 := own_ne_blk h.O h.B (by decide)
  have n2 := own_ne_blk h.O h.Z (by decide)
  simp only [Value.ownBlock, ne_eq, Option.some.injEq] at n1 n2
  refine ⟨L', hl, h.Z.far (p := ⟨g1, _, none⟩) (fun e => n2 e.symm) _, h.B.far (p := ⟨g1, _, none⟩) (fun e => n1 e.symm) _, ?_, h.R.gb (grown_set W g1 _ _) (fun k hk => by injection hk with hk; omega), gb_set_new h.G hb _⟩
  have := (World.ownsRow.stored h.O (k * 5 + j) (.int .i64 y)).1
  rw [← hs] at this
  unfold OA
  rw [hl]
  exact this
theorem NSt.grown {g : Nat} {w : World} {nb : Nat} {nn : Int} {W W1 : World} {v : Value} {L : List Arc} {q q' : Int} (h : NSt g w nb nn W v L q) (hlt : g < w.heap.size) (hs : w.heap.size < nb) (hg : W.grownBy W1 (some g)) (hr : RdAt W1 g q') : NSt g w nb nn W1 v L q' := h.move hlt hs hr hg
theorem NSt.setNodes {g : Nat} {w : World} {nb : Nat} {nn : Int} {W : World} {v : Value} {L : List Arc} {q : Int} (h : NSt g w nb nn W v L q) (hlt : g < w.heap.size) (hs : w.heap.size < nb) (x : Int) : NSt g w nb x (W.setCell ⟨nb, 0, none⟩ (.int .i64 x)) v L q :=
  ⟨h.Z.far (p := ⟨nb, 0, none⟩) (Nat.ne_of_lt hs) _, by simpa using h.B.set 0 (.int .i64 x), own_far h.O (p := ⟨nb, 0, none⟩) (own_ne_blk h.O h.B (by decide)) _, h.R.gb (grown_set W nb 0 _) (fun k hk => by injection hk with hk; omega), gb_set_new h.G (p := ⟨nb, 0, none⟩) (Nat.le_of_lt hs) _⟩
structure NSt' (g : Nat) (w : World) (nn : Int) (W : World) (v : Value) (L : List Arc) (q : Int) : Prop where
  Z : Blk W w.heap.size #[.int .i64 nn, v] 34
  O : OA W w.heap.size v L
  R : RdAt W g q
  G : w.grownBy W (some g)
theorem NSt.fin {g : Nat} {w : World} {nb : Nat} {nn : Int} {W : World} {A : Option Addr} {cA : Nat} {L : List Arc} {q : Int} (h : NSt g w nb nn W (.slice A L.length cA) L q) (hlt : g < w.heap.size) :
    NSt' g w nn ((W.setCell ⟨w.heap.size, 0, none⟩ (.int .i64 nn)).setCell ⟨w.heap.size, 1, none⟩ (.slice A L.length cA)) (.slice A L.length cA) L q := by
  refine ⟨by have := (h.Z.set 0 (.int .i64 nn)).set 1 (.slice A L.length cA); simpa using this, own_far (own_far h.O (p := ⟨w.heap.size, 0, none⟩) (own_ne_blk h.O h.Z (by decide)) (.int .i64 nn)) (p := ⟨w.heap.size, 1, none⟩) (own_ne_blk h.O h.Z (by decide)) (.slice A L.length cA),
    (h.R.gb (grown_set W w.heap.size 0 (.int .i64 nn)) (fun k hk => by injection hk with hk; omega)).gb (grown_set _ w.heap.size 1 (.slice A L.length cA)) (fun k hk => by injection hk with hk; omega),
    gb_set_new (p := ⟨w.heap.size, 1, none⟩) (gb_set_new (p := ⟨w.heap.size, 0, none⟩) h.G (Nat.le_refl _) (.int .i64 nn)) (Nat.le_refl _) (.slice A L.length cA)⟩
set_option maxHeartbeats 1000000 in
set_option maxRecDepth 100000 in
theorem c_AnyNet (g : Nat) (p : Int) (w : World) (h : RdAt w g p) (hp0 : 0 ≤ p) (hp1 : p ≤ 800000) :
    Calls Try.prog 60 #[.pointer (some ⟨g, 0, none⟩)] w (DrawnNet g p 110 w) := by
  have hlt := h.lt
  have h1 := h.below (below_new w (.cells #[.int .i64 0, .slice none 0 0] 34))
  have B0 := Blk.new w #[.int .i64 0, .slice none 0 0] 34
  have G0 := World.grownBy_alloc w (.cells #[.int .i64 0, .slice none 0 0] 34) (some g)
  go_enter Try.func60, Try.ntmps60
  go_wp2_with fail
  refine (c_Net g p _ h1 hp0 (by omega)).mono ?_
  rintro e w1 ⟨nn, v, L, rfl, hn0, hn9, hO, hL, q, hq0, hq1, hr1, hg1⟩
  have G1 := gb_trans G0 hg1 (.inl rfl)
  have B1 := B0.grown hg1 (fun e => by injection e with e; omega)
  have hs1 := B1.lt
  obtain ⟨A, cA, rfl, hcA, _⟩ := hO.shape
  have hO' : OA w1 w.heap.size (.slice A L.length cA) L := own_lower hO (by simp)
  have S2 : NSt g w w1.heap.size nn (w1.alloc (.cells #[.int .i64 nn, .slice A L.length cA] 34)) (.slice A L.length cA) L q :=
    ⟨B1.alloc _, Blk.new _ _ _, hO'.below (below_new _ _), hr1.below (below_new _ _), gb_alloc G1 _⟩
  clear hr1 hg1 G1 G0 B1 B0 h1 hO hO'
  obtain ⟨nb, hnb⟩ : ∃ nb, nb = w1.heap.size := ⟨_, rfl⟩
  rw [← hnb] at S2 hs1
  obtain ⟨W2, hW2⟩ : ∃ W, W = w1.alloc (.cells #[.int .i64 nn, .slice A L.length cA] 34) := ⟨_, rfl⟩
  rw [← hW2] at S2
  obtain ⟨b0, b1⟩ := S2.B.cells2
  obtain ⟨z0, z1⟩ := S2.Z.cells2
  have y0 := S2.Z.frozen 0
  have y1 := S2.Z.frozen 1
  by_cases hpos : 0 < L.length
  · have hposI : (0 : Int) < (L.length : Int) := by omega
    have hb0 := S2.R
    have HS2 := Lib.hid S2
    clear S2
    rw [hW2] at b0 b1
    go_wp2_with fail
    rw [← hW2, ← hnb]
    rw [← hW2] at b0 b1
    clear hW2 hnb
    refine (c_pick g q L.length _ hb0 (by omega) (by omega) (by omega) (by omega)).mono ?_
    rintro e w3 ⟨k, rfl, hk0, hk1, hr3, hg3⟩
    have hk1 := hk1 (by omega)
    obtain ⟨kk, rfl⟩ := Int.eq_ofNat_of_zero_le hk0
    have hkL : kk < L.length := by omega
    have S3 := HS2.out.grown hlt hs1 hg3 hr3
    clear HS2 hr3 hg3 b0 b1 z0 z1 y0 y1 hb0 hk0
    go_wp2_with fail
    refine (c_pick g (q + 1) 16 _ S3.R (by omega) (by omega) (by omega) (by omega)).mono ?_
    rintro e w4 ⟨m, rfl, hm0, _, hr4, hg4⟩
    have S4 := S3.grown hlt hs1 hg4 hr4
    clear S3 hr4 hg4
    obtain ⟨b0, b1⟩ := S4.B.cells2
    obtain ⟨z0, z1⟩ := S4.Z.cells2
    have y0 := S4.Z.frozen 0
    have y1 := S4.Z.frozen 1
    have fb0 := S4.B.frozen 0
    have HS4 := Lib.hid S4
    obtain ⟨g1, cap, e1, hc1, hg1b, hg1s, hcell, hfr⟩ := own_at S4.O hpos
    injection e1 with e1 _ e2
    subst e1 e2
    obtain ⟨fr, hfrr⟩ : ∃ fr, fr = (L.getD kk arcD).fr := ⟨_, rfl⟩
    have a0 : w4.cell? ⟨g1, kk * 5, none⟩ = some (.int .i64 fr) := hcell (kk * 5 + 0) _ (by rw [arcCells_at L kk 0 hkL (by omega), hfrr]; rfl)
    obtain ⟨v1, hv1⟩ : ∃ v, v = (L.getD kk arcD).to := ⟨_, rfl⟩
    obtain ⟨v2, hv2⟩ : ∃ v, v = (L.getD kk arcD).co := ⟨_, rfl⟩
    have a1 : w4.cell? ⟨g1, kk * 5 + 1, none⟩ = some (.int .i64 v1) := hcell (kk * 5 + 1) _ (by rw [arcCells_at L kk 1 hkL (by omega), hv1]; rfl)
    have a2 : w4.cell? ⟨g1, kk * 5 + 2, none⟩ = some (.int .i64 v2) := hcell (kk * 5 + 2) _ (by rw [arcCells_at L kk 2 hkL (by omega), hv2]; rfl)
    clear hv1 hv2
    have hn1 : ¬ (nb = g1) := fun e => own_ne_blk S4.O S4.B (by decide) (by simp [Value.ownBlock, e])
    clear hfrr
    have f1 := hfr (kk * 5 + 1)
    have f2 := hfr (kk * 5 + 2)
    have hbs := S4.B.lt
    clear hcell hfr S4
    by_cases h0 : m = 0
    · subst h0
      go_wp2_with fail
      have hgs : nb < (w4.alloc (.cells #[.int .i64 (-1), .int .i64 8, .int .i64 fr] 3)).drew.heap.size := by simp; omega
      have hgs1 : g1 < (w4.alloc (.cells #[.int .i64 (-1), .int .i64 8, .int .i64 fr] 3)).drew.heap.size := by simp; omega
      have HS5 := Lib.hid ((HS4.out.alloc (.cells #[.int .i64 (-1), .int .i64 8, .int .i64 fr] 3)).drew)
      have hkN : 0 ≤ (kk : Int) := by omega
      go_region_held3 (fun w' => w'.cell? ⟨nb, 1, none⟩ = some (.slice (some ⟨g1, 0, none⟩) L.length cA) ∧ w'.cell? ⟨g1, kk * 5, none⟩ = some (.int .i64 fr)) (first | go_keep | exact ⟨(cell_keep (Below.heap_setCell _ _ _ _ hn1) _).trans (by assumption), (cell_setCell_off _ _ _ _ _ (by omega)).trans (by assumption)⟩ | exact (cell_setCell_off _ _ _ _ _ (by omega)).trans (by assumption) | (refine ⟨(cell_keep (hg5.block nb hgs (by simp; omega)) _).trans ?_, (cell_keep (hg5.block g1 hgs1 (by simp; omega)) _).trans ?_⟩ <;> go_keep) | (refine (cell_keep (hg5.block nb hgs (by simp; omega)) _).trans ?_; go_keep) | (refine ⟨(cell_keep (Below.heap_setCell _ _ _ _ hn1) _).trans (by assumption), ?_⟩; go_keep) | exact (cell_keep (Below.heap_setCell _ _ _ _ hn1) _).trans (by assumption)) ((go_at_call 62; refine (c_one g (q + 1 + 1) _ 3 [-1, 8, fr] _ HS5.out.R (by omega) (by omega) (IntsAt.drew (IntsAt.lit w4 [-1, 8, fr])) (by simp) (by simp) (fun a ha => by injection ha with ha; subst ha; show w4.heap.size ≠ g; omega)).mono ?_; rintro e w5 ⟨y, rfl, _, hr5, hg5⟩; have HS6 := Lib.hid (HS5.out.grown hlt hs1 hg5 hr5); have f5 := frozen_keep (hg5.block g1 hgs1 (by simp; omega)) ((frozen_keep (Below.heap_alloc w4 (.cells #[.int .i64 (-1), .int .i64 8, .int .i64 fr] 3) g1 hg1s) f1)); have cb5 := (cell_keep (hg5.block nb hgs (by simp; omega)) 1).trans ((cell_keep (Below.heap_alloc w4 (.cells #[.int .i64 (-1), .int .i64 8, .int .i64 fr] 3) nb hbs) 1).trans b1); have ca5 := (cell_keep (hg5.block g1 hgs1 (by simp; omega)) (kk * 5 + 1)).trans ((cell_keep (Below.heap_alloc w4 (.cells #[.int .i64 (-1), .int .i64 8, .int .i64 fr] 3) g1 hg1s) (kk * 5 + 1)).trans a1); have ca0 := (cell_keep (hg5.block g1 hgs1 (by simp; omega)) (kk * 5)).trans ((cell_keep (Below.heap_alloc w4 (.cells #[.int .i64 (-1), .int .i64 8, .int .i64 fr] 3) g1 hg1s) (kk * 5)).trans a0); clear hr5))
      obtain ⟨L2, hL2, S7⟩ := HS6.out.setRow hlt hg1b kk 1 hkL (by omega) y
      have HF := Lib.hid (show NSt g w nb nn _ (.slice (some ⟨g1, 0, none⟩) L2.length cA) L2 _ from hL2 ▸ S7)
      clear S7 hg5 f5 cb5 ca5 HS6 a0 a1 a2 b0 b1 z0 z1 y0 y1
      generalize w5.setCell ⟨g1, kk * 5 + 1, none⟩ (.int .i64 y) = W7 at *
      have HFb := HF.out.B
      rw [hL2] at HFb
      obtain ⟨b0', b1'⟩ := HFb.cells2
      obtain ⟨z0', z1'⟩ := HF.out.Z.cells2
      have y0' := HF.out.Z.frozen 0
      have y1' := HF.out.Z.frozen 1
      have HF2 := Lib.hid (HF.out.fin hlt)
      rw [hL2] at HF2
      go_wp2_with fail
      obtain ⟨r0, r1⟩ := HF2.out.Z.cells2
      refine bodyPost_ret (v := .agg #[.int .i64 nn, .slice (some ⟨g1, 0, none⟩) L.length cA]) (by simp [results, Try.results60, go_sem, r0, r1]) rfl ⟨nn, _, L2, rfl, by omega, by omega, HF2.out.O, by omega, q + 1 + 1 + 1, by omega, by omega, HF2.out.R, HF2.out.G⟩
    · have h0' : (m == 0) = false := by simpa using h0
      by_cases h1 : m = 1
      · subst h1
        go_wp2_with fail
        have hgs : nb < (w4.alloc (.cells #[.int .i64 (-1), .int .i64 100] 3)).drew.heap.size := by simp; omega
        have hgs1 : g1 < (w4.alloc (.cells #[.int .i64 (-1), .int .i64 100] 3)).drew.heap.size := by simp; omega
        have HS5 := Lib.hid ((HS4.out.alloc (.cells #[.int .i64 (-1), .int .i64 100] 3)).drew)
        have hkN : 0 ≤ (kk : Int) := by omega
        go_region_held3 (fun w' => w'.cell? ⟨nb, 1, none⟩ = some (.slice (some ⟨g1, 0, none⟩) L.length cA)) (first | go_keep | exact ⟨(cell_keep (Below.heap_setCell _ _ _ _ hn1) _).trans (by assumption), (cell_setCell_off _ _ _ _ _ (by omega)).trans (by assumption)⟩ | exact (cell_setCell_off _ _ _ _ _ (by omega)).trans (by assumption) | (refine ⟨(cell_keep (hg5.block nb hgs (by simp; omega)) _).trans ?_, (cell_keep (hg5.block g1 hgs1 (by simp; omega)) _).trans ?_⟩ <;> go_keep) | (refine (cell_keep (hg5.block nb hgs (by simp; omega)) _).trans ?_; go_keep) | (refine ⟨(cell_keep (Below.heap_setCell _ _ _ _ hn1) _).trans (by assumption), ?_⟩; go_keep) | exact (cell_keep (Below.heap_setCell _ _ _ _ hn1) _).trans (by assumption)) ((go_at_call 62; refine (c_one g (q + 1 + 1) _ 2 [-1, 100] _ HS5.out.R (by omega) (by omega) (IntsAt.drew (IntsAt.lit w4 [-1, 100])) (by simp) (by simp) (fun a ha => by injection ha with ha; subst ha; show w4.heap.size ≠ g; omega)).mono ?_; rintro e w5 ⟨y, rfl, _, hr5, hg5⟩; have HS6 := Lib.hid (HS5.out.grown hlt hs1 hg5 hr5); have f5 := frozen_keep (hg5.block g1 hgs1 (by simp; omega)) ((frozen_keep (Below.heap_alloc w4 (.cells #[.int .i64 (-1), .int .i64 100] 3) g1 hg1s) f2)); have cb5 := (cell_keep (hg5.block nb hgs (by simp; omega)) 1).trans ((cell_keep (Below.heap_alloc w4 (.cells #[.int .i64 (-1), .int .i64 100] 3) nb hbs) 1).trans b1); have ca5 := (cell_keep (hg5.block g1 hgs1 (by simp; omega)) (kk * 5 + 2)).trans ((cell_keep (Below.heap_alloc w4 (.cells #[.int .i64 (-1), .int .i64 100] 3) g1 hg1s) (kk * 5 + 2)).trans a2); clear hr5))
        obtain ⟨L2, hL2, S7⟩ := HS6.out.setRow hlt hg1b kk 2 hkL (by omega) y
        have HF := Lib.hid (show NSt g w nb nn _ (.slice (some ⟨g1, 0, none⟩) L2.length cA) L2 _ from hL2 ▸ S7)
        clear S7 hg5 f5 cb5 ca5 HS6 a0 a1 a2 b0 b1 z0 z1 y0 y1
        generalize w5.setCell ⟨g1, kk * 5 + 2, none⟩ (.int .i64 y) = W7 at *
        have HFb := HF.out.B
        rw [hL2] at HFb
        obtain ⟨b0', b1'⟩ := HFb.cells2
        obtain ⟨z0', z1'⟩ := HF.out.Z.cells2
        have y0' := HF.out.Z.frozen 0
        have y1' := HF.out.Z.frozen 1
        have HF2 := Lib.hid (HF.out.fin hlt)
        rw [hL2] at HF2
        go_wp2_with fail
        obtain ⟨r0, r1⟩ := HF2.out.Z.cells2
        refine bodyPost_ret (v := .agg #[.int .i64 nn, .slice (some ⟨g1, 0, none⟩) L.length cA]) (by simp [results, Try.results60, go_sem, r0, r1]) rfl ⟨nn, _, L2, rfl, by omega, by omega, HF2.out.O, by omega, q + 1 + 1 + 1, by omega, by omega, HF2.out.R, HF2.out.G⟩
      · have h1' : (m == 1) = false := by simpa using h1
        by_cases h2 : m = 2
        · subst h2
          have R5 := HS4.out.R.below (below_new w4 (.cells #[.int .i64 0, .int .i64 1, .int .i64 9, .int .i64 8] 3))
          have HS5 := Lib.hid (HS4.out.alloc (.cells #[.int .i64 0, .int .i64 1, .int .i64 9, .int .i64 8] 3))
          go_wp2_with fail
          refine (c_one g (q + 1 + 1) (some ⟨w4.heap.size, 0, none⟩) 4 [0, 1, 9, 8] _ R5 (by omega) (by omega) (IntsAt.lit w4 [0, 1, 9, 8]) (by simp) (by simp) (fun a ha => by injection ha with ha; subst ha; show w4.heap.size ≠ g; omega)).mono ?_
          rintro e w6 ⟨x, rfl, hx, hr6, hg6⟩
          have hx0 : 0 ≤ x ∧ x ≤ 9 := by simp at hx; omega
          have S6 := HS5.out.grown hlt hs1 hg6 hr6
          obtain ⟨b0', b1'⟩ := S6.B.cells2
          have fb := S6.B.frozen 0
          have S7 := S6.setNodes hlt hs1 x
          obtain ⟨z0', z1'⟩ := S7.Z.cells2
          have y0' := S7.Z.frozen 0
          have y1' := S7.Z.frozen 1
          obtain ⟨c0', c1'⟩ := S7.B.cells2
          have HF := Lib.hid (S7.fin hlt)
          clear S6 S7 hr6 hg6 R5 HS5 b0 b1 z0 z1 y0 y1
          go_wp2_with fail
          obtain ⟨r0, r1⟩ := HF.out.Z.cells2
          refine bodyPost_ret (v := .agg #[.int .i64 x, .slice (some ⟨g1, 0, none⟩) L.length cA]) (by simp [results, Try.results60, go_sem, r0, r1]) rfl ⟨x, _, L, rfl, by omega, by omega, HF.out.O, by omega, q + 1 + 1 + 1, by omega, by omega, HF.out.R, HF.out.G⟩
        · have h2' : (m == 2) = false := by simpa using h2
          have HF := Lib.hid (HS4.out.fin hlt)
          go_wp2_with fail
          obtain ⟨r0, r1⟩ := HF.out.Z.cells2
          refine bodyPost_ret (v := .agg #[.int .i64 nn, .slice (some ⟨g1, 0, none⟩) L.length cA]) (by simp [results, Try.results60, go_sem, r0, r1]) rfl ⟨nn, _, L, rfl, by omega, by omega, HF.out.O, by omega, q + 1 + 1, by omega, by omega, HF.out.R, HF.out.G⟩
  · have hposI : ¬ (0 : Int) < (L.length : Int) := by omega
    have hF := Lib.hid (S2.fin hlt)
    rw [hW2] at b0 b1 z0 z1 y0 y1
    rw [hW2] at hF
    go_wp2_with fail
    obtain ⟨r0, r1⟩ := hF.out.Z.cells2
    refine bodyPost_ret (v := .agg #[.int .i64 nn, .slice A L.length cA]) (by simp [results, Try.results60, go_sem, r0, r1]) rfl ⟨nn, _, L, rfl, by omega, by omega, hF.out.O, by omega, q, by omega, by omega, hF.out.R, hF.out.G⟩
end Go.Proofs.Ythglnmhcgagkdaa
