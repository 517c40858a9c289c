/- Walks: fares and rides of days are drawn. -/
import Derived.Test.YthglnmhcgagkdaaD2
import Derived.Test.YthglnmhcgagkdaaB1
namespace Go.Proofs.Ythglnmhcgagkdaa
open Go.RowKit
def DrawnWeek (w : World) (e : Ending) (w' : World) : Prop := ∃ (A : Option Addr) (c : Nat) (f : Fare) (B : Option Addr) (k : Nat) (rows : List (List Int)),
  e = .returned (.tuple #[.agg #[.slice A f.single.length c, .int .i64 f.day, .int .i64 f.week], .slice B rows.length k]) ∧ IntsAt w' A f.single ∧ f.single.length ≤ 10 ∧ RowsAt w' B rows ∧ rows.length ≤ k ∧ rows.length ≤ 10 ∧
    (∀ i, i < rows.length → (rows.getD i []).length ≤ 10) ∧ Below w.heap.size w w'
theorem gb_below_new {w w1 w2 : World} {g : Nat} (h : Below w.heap.size w w1) (hg : w1.grownBy w2 (some g)) (hle : w.heap.size ≤ g) : Below w.heap.size w w2 := below_gb h hg (fun k hk => by injection hk with hk; omega)
/-- While the days are drawn. -/
structure WSt (w : World) (g bf base : Nat) (AF : Option Addr) (cF : Nat) (f : Fare) (W : World) (q : Int) (v : Value) (rows : List (List Int)) : Prop where
  B : Blk W w.heap.size #[.slice none 0 0, .int .i64 0, .int .i64 0] 25
  F : Blk W bf #[.slice AF f.single.length cF, .int .i64 f.day, .int .i64 f.week] 25
  A : IntsAt W AF f.single
  R : RdAt W g q
  H : Below w.heap.size w W
  O : OR W base v rows
  L : ∀ i, i < rows.length → (rows.getD i []).length ≤ 10
  S : base ≤ W.heap.size
structure WOrd (w : World) (g bf base : Nat) (AF : Option Addr) (f : Fare) : Prop where
  o1 : w.heap.size < g
  o2 : g < bf
  o3 : bf < base
  a1 : ∀ a, AF = some a → a.block < bf ∨ f.single = []
  a2 : ∀ a, AF = some a → g < a.block
theorem IntsAt.keep' {w w' : World} {A : Option Addr} {xs : List Int} (h : IntsAt w A xs) (hk : ∀ a, A = some a → xs ≠ [] → a.block < w.heap.size → w'.heap[a.block]? = w.heap[a.block]?) (hs : w.heap.size ≤ w'.heap.size) : IntsAt w' A xs := fun hp => by
  obtain ⟨g, o, e, hg, hc⟩ := h hp
  exact ⟨g, o, e, Nat.lt_of_lt_of_le hg hs, fun i hi => by rw [cell_keep (hk _ e (by intro h0; simp [h0] at hp) hg)]; exact hc i hi⟩
theorem WSt.grown {w : World} {g bf base : Nat} {AF : Option Addr} {cF : Nat} {f : Fare} {W W1 : World} {q q' : Int} {v : Value} {rows : List (List Int)} (h : WSt w g bf base AF cF f W q v rows) (o : WOrd w g bf base AF f) (hg : W.grownBy W1 (some g)) (hr : RdAt W1 g q') : WSt w g bf base AF cF f W1 q' v rows := by
  have o1 := o.o1; have o2 := o.o2; have o3 := o.o3
  exact ⟨h.B.grown hg (fun e => by injection e with e; omega), h.F.grown hg (fun e => by injection e with e; omega), h.A.keep (fun a ha hl => hg.block _ hl (fun e => by injection e with e; have := o.a2 a ha; omega)) hg.size, hr, gb_below_new h.H hg (by omega), h.O.grown hg (by omega), h.L, Nat.le_trans h.S hg.size⟩
theorem WSt.alloc {w : World} {g bf base : Nat} {AF : Option Addr} {cF : Nat} {f : Fare} {W : World} {q : Int} {v : Value} {rows : List (List Int)} (h : WSt w g bf base AF cF f W q v rows) (o : Obj) : WSt w g bf base AF cF f (W.alloc o) q v rows :=
  ⟨h.B.alloc o, h.F.alloc o, h.A.below (below_new _ _), h.R.below (below_new _ _), below_alloc h.H o, h.O.below (below_new _ _), h.L, by simp; exact Nat.le_succ_of_le h.S⟩
theorem WSt.row {w : World} {g bf base : Nat} {AF : Option Addr} {cF : Nat} {f : Fare} {W W1 : World} {q : Int} {v v1 : Value} {rows : List (List Int)} {y : List Int} (h : WSt w g bf base AF cF f W q v rows) (o : WOrd w g bf base AF f) (hO : OR W1 base v1 (rows ++ [y])) (hg : W.grownBy W1 v.ownBlock) (hy : y.length ≤ 10) : WSt w g bf base AF cF f W1 q v1 (rows ++ [y]) := by
  have o1 := o.o1; have o2 := o.o2; have o3 := o.o3
  have hn : ∀ k, v.ownBlock = some k → base ≤ k := fun k hk => by obtain ⟨cs, h1, _⟩ := h.O; exact (own_ge h1 k hk).1
  refine ⟨h.B.grown hg (fun e => by have := hn _ e.symm; omega), h.F.grown hg (fun e => by have := hn _ e.symm; omega), h.A.keep' (fun a ha hne hl => hg.block _ hl (fun e => ?_)) hg.size, h.R.gb hg (fun k hk => by have := hn k hk; omega), below_gb h.H hg (fun k hk => by have := hn k hk; omega), hO, fun i hi => ?_, Nat.le_trans h.S hg.size⟩
  · have := hn _ e.symm
    rcases o.a1 a ha with h1 | h1
    · omega
    · exact hne h1
  · rw [List.length_append, List.length_singleton] at hi
    by_cases hlt : i < rows.length
    · have e : (rows ++ [y]).getD i [] = rows.getD i [] := by simp [List.getD_eq_getElem?_getD, List.getElem?_append_left hlt]
      rw [e]; exact h.L i hlt
    · have : i = rows.length := by omega
      subst this
      have e : (rows ++ [y]).getD rows.length [] = y := by simp [List.getD_eq_getElem?_getD]
      rw [e]; exact hy
set_option maxHeartbeats 2000000 in
set_option maxRecDepth 100000 in
theorem c_DrawFareWeek (A : Option Addr) (n c : Nat) (w : World) (h : BytesAt w A n) (hn : n ≤ 1048576) (hc : n ≤ c) :
    Calls Try.prog 13 #[.slice A n c] w (DrawnWeek w) := by
  have h1 : BytesAt (w.alloc (.cells #[.slice none 0 0, .int .i64 0, .int .i64 0] 25)) A n := fun hp => by
    obtain ⟨g, o, e, hg, hcell⟩ := h hp
    refine ⟨g, o, e, by simp; omega, fun i hi => ?_⟩
    obtain ⟨b, h1, h2, h3⟩ := hcell i hi
    exact ⟨b, h1, h2, (cell_keep (Below.heap_alloc w _ g hg) _).trans h3⟩
  have B0 := Blk.new w #[.slice none 0 0, .int .i64 0, .int .i64 0] 25
  go_enter Try.func13, Try.ntmps13
  go_wp2_with fail
  refine (c_Open A n c _ h1 hn hc).mono ?_
  rintro e w1 ⟨rfl, hr1, hb1⟩
  have HB1 := below_of (below_new w _) hb1
  have B1 := B0.below hb1
  obtain ⟨g, hgd⟩ : ∃ g, g = (w.alloc (.cells #[.slice none 0 0, .int .i64 0, .int .i64 0] 25)).heap.size := ⟨_, rfl⟩
  have hg0 : w.heap.size < g := by rw [hgd]; simp
  rw [← hgd] at hr1 ⊢
  clear hb1 h h1 hgd B0
  have hl1 := hr1.lt
  go_wp2_with fail
  refine (c_Fare g 0 _ hr1 (by omega) (by omega)).mono ?_
  rintro e w2 ⟨AF, cF, f, rfl, hAF, hfl, hge, q, hq0, hq1, hr2, hg2⟩
  have HB2 := gb_below_new HB1 hg2 (by omega)
  have B2 := B1.grown hg2 (fun e => by injection e with e; omega)
  have hs2 := hg2.size
  clear hg2 B1 HB1 hr1
  -- the fare's box, the empty list of days
  obtain ⟨W3, hW3⟩ : ∃ W, W = w2.alloc (.cells #[.slice AF f.single.length cF, .int .i64 f.day, .int .i64 f.week] 25) := ⟨_, rfl⟩
  have HB3 : Below w.heap.size w W3 := hW3 ▸ below_alloc HB2 _
  have B3 : Blk W3 w.heap.size #[.slice none 0 0, .int .i64 0, .int .i64 0] 25 := hW3 ▸ B2.alloc _
  have F3 : Blk W3 w2.heap.size #[.slice AF f.single.length cF, .int .i64 f.day, .int .i64 f.week] 25 := hW3 ▸ Blk.new _ _ _
  have A3 : IntsAt W3 AF f.single := hW3 ▸ hAF.below (below_new _ _)
  have R3 : RdAt W3 g q := hW3 ▸ hr2.below (below_new _ _)
  have hs3 : W3.heap.size = w2.heap.size + 1 := by rw [hW3]; simp
  have HA : Hid (∀ a, AF = some a → a.block < w2.heap.size ∨ f.single = []) := fun a ha => by
    by_cases h0 : 0 < f.single.length
    · obtain ⟨g', o', e, hg', _⟩ := hAF h0
      rw [ha] at e
      injection e with e
      subst e
      exact .inl hg'
    · exact .inr (List.eq_nil_of_length_eq_zero (by omega))
  have O4 := OR.lit0 W3
  have HB4 := below_alloc HB3 (.cells #[] 23)
  have B4 := B3.alloc (.cells #[] 23)
  have F4 := F3.alloc (.cells #[] 23)
  have A4 := A3.below (below_new W3 (.cells #[] 23))
  have R4 := R3.below (below_new W3 (.cells #[] 23))
  clear HB3 B3 F3 A3 R3 HB2 B2 hAF hr2
  go_wp2_with fail
  rw [← hW3]
  rw [← hs3]
  clear hW3
  generalize hW4 : W3.alloc (.cells #[] 23) = W4 at *
  have hs4 : W4.heap.size = W3.heap.size + 1 := by rw [← hW4]; simp
  clear hW4
  refine (c_pick g q 9 _ R4 (by omega) (by omega) (by omega) (by omega)).mono ?_
  rintro e w5 ⟨m, rfl, hm0, hm1, hr5, hg5⟩
  have hm1 := hm1 (by omega)
  have HO : WOrd w g w2.heap.size W3.heap.size AF f := ⟨hg0, by omega, by omega, HA.out, fun a ha => by have := hge a ha; omega⟩
  have S4 : WSt w g w2.heap.size W3.heap.size AF cF f W4 q (.slice (some ⟨W3.heap.size, 0, none⟩) 0 0) [] := ⟨B4, F4, A4, R4, HB4, O4, fun i hi => absurd hi (by simp), by omega⟩
  have S5 := S4.grown HO hg5 hr5
  have o1 := HO.o1; have o2 := HO.o2; have o3 := HO.o3
  clear S4 hg5 hr5 B4 F4 A4 R4 HB4 O4 HA hge hs4 hl1 hs2
  generalize w2.heap.size = bf at *
  generalize W3.heap.size = base at *
  clear hs3
  go_wp2_with fail
  go_loopw [6, 7] (fun v6 v7 wr => ∃ (j : Int) (rows : List (List Int)) (q : Int), 0 ≤ j ∧ j ≤ 9 ∧ v7 = .int .i64 j ∧ rows.length + j ≤ 9 ∧ 0 ≤ q ∧ q ≤ 30 + 10 * rows.length ∧ WSt w g bf base AF cF f wr q v6 rows) (fun _ v7 _ => (intOf v7).toNat)
  case atStart => exact ⟨m, [], q + 1, hm0, by omega, rfl, by simp; omega, by omega, by simp; omega, S5⟩
  case round =>
    clear S5 hm0 hm1 hq0 hq1
    obtain ⟨j, rows, q, hj0, hj9, rfl, hl, hq0, hq1, hS⟩ := hrel
    have HS := Lib.hid hS
    clear hS
    by_cases hlt : 0 < j
    · go_wp2_with fail
      refine (c_Rides g q _ HS.out.R hq0 (by omega)).mono ?_
      rintro e w6 ⟨u, y, rfl, hO6, hy, q', hq0', hq1', hr6, hg6⟩
      have HS6 := Lib.hid (HS.out.grown HO hg6 hr6)
      have HU := Lib.hid (own_lower hO6 HS.out.S)
      have HY := Lib.hid hy
      obtain ⟨uA, un, uc, rfl⟩ := OI.any hO6
      clear hO6 hr6 hg6 hy
      go_wp2_with (at_builtin; go_must (refine app_row base rfl _ _ rfl u6 (.slice uA un uc) rows y rfl rfl HS6.out.O HU.out HS6.out.S (by omega) ?_); intro v2 w7 hO7 hg7; have HS7 := Lib.hid (HS6.out.row HO hO7 hg7 HY.out); clear hO7 hg7)
      go_roundw
      case rel => exact ⟨j - 1, rows ++ [y], q', by omega, by omega, rfl, by simp; omega, by omega, by simp; omega, HS7.out⟩
      case measure => simp [intOf]; omega
    · obtain ⟨z0, z1, z2⟩ := HS.out.B.cells3
      have y0 := HS.out.B.frozen 0
      have y1 := HS.out.B.frozen 1
      have y2 := HS.out.B.frozen 2
      obtain ⟨c0, c1, c2⟩ := HS.out.F.cells3
      go_wp2
      have S := HS.out
      have Z7 := three_set S.B (.slice AF f.single.length cF) (.int .i64 f.day) (.int .i64 f.week)
      have hk : ∀ k, k ≠ w.heap.size → (((wr.setCell ⟨w.heap.size, 0, none⟩ (.slice AF f.single.length cF)).setCell ⟨w.heap.size, 1, none⟩ (.int .i64 f.day)).setCell ⟨w.heap.size, 2, none⟩ (.int .i64 f.week)).heap[k]? = wr.heap[k]? := fun k hk => by
        rw [Below.heap_setCell _ _ _ _ hk, Below.heap_setCell _ _ _ _ hk, Below.heap_setCell _ _ _ _ hk]
      have hb7 : Below w.heap.size w (((wr.setCell ⟨w.heap.size, 0, none⟩ (.slice AF f.single.length cF)).setCell ⟨w.heap.size, 1, none⟩ (.int .i64 f.day)).setCell ⟨w.heap.size, 2, none⟩ (.int .i64 f.week)) :=
        ((S.H.setCell (p := ⟨w.heap.size, 0, none⟩) (Nat.le_refl _) _).setCell (p := ⟨w.heap.size, 1, none⟩) (Nat.le_refl _) _).setCell (p := ⟨w.heap.size, 2, none⟩) (Nat.le_refl _) _
      have hs7 : (((wr.setCell ⟨w.heap.size, 0, none⟩ (.slice AF f.single.length cF)).setCell ⟨w.heap.size, 1, none⟩ (.int .i64 f.day)).setCell ⟨w.heap.size, 2, none⟩ (.int .i64 f.week)).heap.size = wr.heap.size := by simp
      generalize ((wr.setCell ⟨w.heap.size, 0, none⟩ (.slice AF f.single.length cF)).setCell ⟨w.heap.size, 1, none⟩ (.int .i64 f.day)).setCell ⟨w.heap.size, 2, none⟩ (.int .i64 f.week) = W7 at *
      obtain ⟨r0, r1, r2⟩ := Z7.cells3
      have hA7 := S.A.keep (w' := W7) (fun a ha _ => hk _ (by have := HO.a2 a ha; omega)) (by omega)
      obtain ⟨B7, k7, rfl, hk7, hR7⟩ := (S.O.move (w1 := W7) (fun k hb _ => hk k (by omega))).shape (fun i hi => by have := S.L i hi; omega)
      refine bodyPost_ret (v := .tuple #[.agg #[.slice AF f.single.length cF, .int .i64 f.day, .int .i64 f.week], .slice B7 rows.length k7]) ?_ rfl ⟨AF, cF, f, B7, k7, rows, rfl, hA7, hfl, hR7, hk7, by omega, S.L, hb7⟩
      rw [results_cell_tmp (p := 2) (u := 3) (ty := 25) rfl]
      simp [go_sem, r0, r1, r2]
end Go.Proofs.Ythglnmhcgagkdaa
