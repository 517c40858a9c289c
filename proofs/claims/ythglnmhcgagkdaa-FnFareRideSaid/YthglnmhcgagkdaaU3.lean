/- Walk: spec.DrawFareRide. -/
import Derived.Test.YthglnmhcgagkdaaU2
import Derived.Test.YthglnmhcgagkdaaH6
import Derived.Test.YthglnmhcgagkdaaM4
namespace Go.Proofs.Ythglnmhcgagkdaa
open Go.RowKit
theorem results_cell2_tmp2 {fn : Func} {p p' u x : Tmp} {ty ty' : TypeId} (h : fn.results = #[.cell p ty, .cell p' ty', .tmp u, .tmp x]) (tmps : Array Value) (P : Program) (w : World) :
    (results fn tmps).run P w =
      ((asAddr (tmps.getD p undef)).run P w).andThen fun a w₁ => ((loadVar ty a).run P w₁).andThen fun v w₂ => ((asAddr (tmps.getD p' undef)).run P w₂).andThen fun a' w₃ => ((loadVar ty' a').run P w₃).andThen fun v' w₄ => .ok (.tuple #[v, v', tmps.getD u undef, tmps.getD x undef]) w₄ := by
  simp only [results, h]
  simp [Sem.run_bind, Result.andThen]
def DrawnFR (w : World) (e : Ending) (w' : World) : Prop := ∃ (AS : Option Addr) (cS : Nat) (f : Fare) (nn : Int) (A : Option Addr) (cA : Nat) (L : List Arc) (Z : Option Addr) (cZ : Nat) (zone : List Int) (B : Option Addr) (cB : Nat) (ws : List Int),
  e = .returned (.tuple #[.agg #[.slice AS f.single.length cS, .int .i64 f.day, .int .i64 f.week], .agg #[.int .i64 nn, .slice A L.length cA], .slice Z zone.length cZ, .slice B ws.length cB]) ∧
  (IntsAt w' AS f.single ∧ f.single.length ≤ 10) ∧ (ArcsAt w' A L ∧ L.length ≤ 14) ∧ (IntsAt w' Z zone ∧ zone.length ≤ 12) ∧ (IntsAt w' B ws ∧ ws.length ≤ 22 ∧ ws.length ≤ cB) ∧ Below w.heap.size w w'
structure FrSt (w : World) (g fb nb : Nat) (AS : Option Addr) (cS : Nat) (f : Fare) (nn : Int) (A : Option Addr) (cA : Nat) (L : List Arc) (vz : Value) (zone : List Int) (q : Int) (W : World) : Prop where
  Z1 : Blk W w.heap.size #[.slice none 0 0, .int .i64 0, .int .i64 0] 25
  Z2 : Blk W (w.heap.size + 1) #[.int .i64 0, .slice none 0 0] 34
  F : Blk W fb #[.slice AS f.single.length cS, .int .i64 f.day, .int .i64 f.week] 25
  N : Blk W nb #[.int .i64 nn, .slice A L.length cA] 34
  S : IntsAt W AS f.single
  sb : ∀ a, AS = some a → g < a.block
  L : OA W (g + 1) (.slice A L.length cA) L
  P : OI W (g + 1) vz zone
  R : RdAt W g q
  H : Below w.heap.size w W
  o1 : w.heap.size + 1 < g
  o2 : g < fb
  o3 : g < nb
theorem FrSt.grown {w : World} {g fb nb : Nat} {AS : Option Addr} {cS : Nat} {f : Fare} {nn : Int} {A : Option Addr} {cA : Nat} {L : List Arc} {vz : Value} {zone : List Int} {q q' : Int} {W W1 : World} (h : FrSt w g fb nb AS cS f nn A cA L vz zone q W) (hg : W.grownBy W1 (some g)) (hr : RdAt W1 g q') : FrSt w g fb nb AS cS f nn A cA L vz zone q' W1 := by
  have o1 := h.o1; have o2 := h.o2; have o3 := h.o3
  refine ⟨h.Z1.grown hg (fun e => by injection e with e; omega), h.Z2.grown hg (fun e => by injection e with e; omega), h.F.grown hg (fun e => by injection e with e; omega), h.N.grown hg (fun e => by injection e with e; omega), h.S.keep (fun a ha hl => hg.block a.block hl (fun e => by injection e with e; have := h.sb a ha; omega)) hg.size, h.sb, h.L.grown hg (Nat.lt_succ_self g), h.P.grown hg (Nat.lt_succ_self g), hr, gb_below_new h.H hg (by omega), o1, o2, o3⟩
theorem FrSt.below {w : World} {g fb nb : Nat} {AS : Option Addr} {cS : Nat} {f : Fare} {nn : Int} {A : Option Addr} {cA : Nat} {L : List Arc} {vz : Value} {zone : List Int} {q : Int} {W W1 : World} (h : FrSt w g fb nb AS cS f nn A cA L vz zone q W) (hb : Below W.heap.size W W1) : FrSt w g fb nb AS cS f nn A cA L vz zone q W1 :=
  ⟨h.Z1.below hb, h.Z2.below hb, h.F.below hb, h.N.below hb, h.S.below hb, h.sb, h.L.below hb, h.P.below hb, h.R.below hb, below_of h.H hb, h.o1, h.o2, h.o3⟩
def setsFR (W : World) (b : Nat) (x y z u v : Value) : World := ((((W.setCell ⟨b, 0, none⟩ x).setCell ⟨b, 1, none⟩ y).setCell ⟨b, 2, none⟩ z).setCell ⟨b + 1, 0, none⟩ u).setCell ⟨b + 1, 1, none⟩ v
theorem setsFR_far (W : World) (b : Nat) (x y z u v : Value) (c : Nat) (h1 : c ≠ b) (h2 : c ≠ b + 1) : (setsFR W b x y z u v).heap[c]? = W.heap[c]? := by
  unfold setsFR
  rw [Below.heap_setCell _ _ _ _ h2, Below.heap_setCell _ _ _ _ h2, Below.heap_setCell _ _ _ _ h1, Below.heap_setCell _ _ _ _ h1, Below.heap_setCell _ _ _ _ h1]
theorem setsFR_size (W : World) (b : Nat) (x y z u v : Value) : (setsFR W b x y z u v).heap.size = W.heap.size := by simp [setsFR]
theorem FrSt.fin {w : World} {g fb nb : Nat} {AS : Option Addr} {cS : Nat} {f : Fare} {nn : Int} {A : Option Addr} {cA : Nat} {L : List Arc} {Z : Option Addr} {cZ : Nat} {zone : List Int} {q : Int} {W : World} (h : FrSt w g fb nb AS cS f nn A cA L (.slice Z zone.length cZ) zone q W) {B : Option Addr} {cB : Nat} {ws : List Int} (hO : OI W (g + 1) (.slice B ws.length cB) ws) :
    Blk (setsFR W w.heap.size (.slice AS f.single.length cS) (.int .i64 f.day) (.int .i64 f.week) (.int .i64 nn) (.slice A L.length cA)) w.heap.size #[.slice AS f.single.length cS, .int .i64 f.day, .int .i64 f.week] 25 ∧
    Blk (setsFR W w.heap.size (.slice AS f.single.length cS) (.int .i64 f.day) (.int .i64 f.week) (.int .i64 nn) (.slice A L.length cA)) (w.heap.size + 1) #[.int .i64 nn, .slice A L.length cA] 34 ∧
    IntsAt (setsFR W w.heap.size (.slice AS f.single.length cS) (.int .i64 f.day) (.int .i64 f.week) (.int .i64 nn) (.slice A L.length cA)) AS f.single ∧
    ArcsAt (setsFR W w.heap.size (.slice AS f.single.length cS) (.int .i64 f.day) (.int .i64 f.week) (.int .i64 nn) (.slice A L.length cA)) A L ∧
    IntsAt (setsFR W w.heap.size (.slice AS f.single.length cS) (.int .i64 f.day) (.int .i64 f.week) (.int .i64 nn) (.slice A L.length cA)) Z zone ∧
    IntsAt (setsFR W w.heap.size (.slice AS f.single.length cS) (.int .i64 f.day) (.int .i64 f.week) (.int .i64 nn) (.slice A L.length cA)) B ws ∧
    Below w.heap.size w (setsFR W w.heap.size (.slice AS f.single.length cS) (.int .i64 f.day) (.int .i64 f.week) (.int .i64 nn) (.slice A L.length cA)) := by
  have o1 := h.o1
  have hne : ∀ k, g + 1 ≤ k → k ≠ w.heap.size ∧ k ≠ w.heap.size + 1 := fun k hk => ⟨by omega, by omega⟩
  have hsz := setsFR_size W w.heap.size (.slice AS f.single.length cS) (.int .i64 f.day) (.int .i64 f.week) (.int .i64 nn) (.slice A L.length cA)
  have hfar := setsFR_far W w.heap.size (.slice AS f.single.length cS) (.int .i64 f.day) (.int .i64 f.week) (.int .i64 nn) (.slice A L.length cA)
  refine ⟨?_, ?_, ?_, ?_, ?_, ?_, ?_⟩
  · have := ((three_set h.Z1 (.slice AS f.single.length cS) (.int .i64 f.day) (.int .i64 f.week)).far (p := ⟨w.heap.size + 1, 0, none⟩) (by show w.heap.size ≠ w.heap.size + 1; omega) (.int .i64 nn)).far (p := ⟨w.heap.size + 1, 1, none⟩) (by show w.heap.size ≠ w.heap.size + 1; omega) (.slice A L.length cA)
    exact this
  · have z2 := ((h.Z2.far (p := ⟨w.heap.size, 0, none⟩) (by show w.heap.size + 1 ≠ w.heap.size; omega) (.slice AS f.single.length cS)).far (p := ⟨w.heap.size, 1, none⟩) (by show w.heap.size + 1 ≠ w.heap.size; omega) (.int .i64 f.day)).far (p := ⟨w.heap.size, 2, none⟩) (by show w.heap.size + 1 ≠ w.heap.size; omega) (.int .i64 f.week)
    exact two_set z2 (.int .i64 nn) (.slice A L.length cA)
  · exact h.S.keep (fun a ha _ => hfar a.block (hne _ (h.sb a ha)).1 (hne _ (h.sb a ha)).2) (by rw [hsz]; exact Nat.le_refl _)
  · exact (OA.arcs (own_move h.L (fun k hk hb _ => hfar k (hne k hb).1 (hne k hb).2)))
  · exact (OI.ints (own_move h.P (fun k hk hb _ => hfar k (hne k hb).1 (hne k hb).2)))
  · exact (OI.ints (own_move hO (fun k hk hb _ => hfar k (hne k hb).1 (hne k hb).2)))
  · exact ((((h.H.setCell (p := ⟨w.heap.size, 0, none⟩) (Nat.le_refl _) _).setCell (p := ⟨w.heap.size, 1, none⟩) (Nat.le_refl _) _).setCell (p := ⟨w.heap.size, 2, none⟩) (Nat.le_refl _) _).setCell (p := ⟨w.heap.size + 1, 0, none⟩) (Nat.le_succ _) _).setCell (p := ⟨w.heap.size + 1, 1, none⟩) (Nat.le_succ _) _
theorem set_far {b c : Nat} (h : c ≠ b) : ∀ (W : World) (i : Nat) (u : Value) (j : Nat), (W.setCell ⟨b, i, none⟩ u).cell? ⟨c, j, none⟩ = W.cell? ⟨c, j, none⟩ :=
  fun W i u j => cell_keep (Below.heap_setCell W ⟨b, i, none⟩ u c h) j
set_option maxHeartbeats 2000000 in
set_option maxRecDepth 100000 in
theorem c_DrawFareRide (A0 : Option Addr) (n c : Nat) (w : World) (h : BytesAt w A0 n) (hn : n ≤ 1048576) (hc : n ≤ c) :
    Calls Try.prog 21 #[.slice A0 n c] w (DrawnFR w) := by
  have h1 := bytes_below h (below_alloc (below_new w (.cells #[.slice none 0 0, .int .i64 0, .int .i64 0] 25)) (.cells #[.int .i64 0, .slice none 0 0] 34))
  have B1 := (Blk.new w #[.slice none 0 0, .int .i64 0, .int .i64 0] 25).alloc (.cells #[.int .i64 0, .slice none 0 0] 34)
  have B2 : Blk ((w.alloc (.cells #[.slice none 0 0, .int .i64 0, .int .i64 0] 25)).alloc (.cells #[.int .i64 0, .slice none 0 0] 34)) (w.heap.size + 1) #[.int .i64 0, .slice none 0 0] 34 := by simpa using Blk.new (w.alloc (.cells #[.slice none 0 0, .int .i64 0, .int .i64 0] 25)) #[.int .i64 0, .slice none 0 0] 34
  have HB := below_alloc (below_new w (.cells #[.slice none 0 0, .int .i64 0, .int .i64 0] 25)) (.cells #[.int .i64 0, .slice none 0 0] 34)
  have hsz : ((w.alloc (.cells #[.slice none 0 0, .int .i64 0, .int .i64 0] 25)).alloc (.cells #[.int .i64 0, .slice none 0 0] 34)).heap.size = w.heap.size + 2 := by simp
  go_enter Try.func21, Try.ntmps21
  go_wp2_with fail
  generalize (w.alloc (.cells #[.slice none 0 0, .int .i64 0, .int .i64 0] 25)).alloc (.cells #[.int .i64 0, .slice none 0 0] 34) = W0 at *
  refine (c_Open A0 n c _ h1 hn hc).mono ?_
  rintro e w1 ⟨rfl, hr1, hb1⟩
  have HB1 := below_of HB hb1
  have P1 := B1.below hb1
  have P2 := B2.below hb1
  obtain ⟨g, hgd⟩ : ∃ g, g = W0.heap.size := ⟨_, rfl⟩
  have hg0 : w.heap.size + 1 < g := by omega
  rw [← hgd] at hr1 ⊢
  clear hb1 h h1 B1 B2 HB hsz hgd
  have hl1 := hr1.lt
  go_wp2_with fail
  refine (c_Fare g 0 w1 hr1 (by omega) (by omega)).mono ?_
  rintro e w2 ⟨AS, cS, f, rfl, hS2, hSl, hSb, q2, hq0, hq1, hr2, hg2⟩
  have hs2 := hg2.size
  have P1' := (P1.grown hg2 (fun e => by injection e with e; omega)).alloc (.cells #[.slice AS f.single.length cS, .int .i64 f.day, .int .i64 f.week] 25)
  have P2' := (P2.grown hg2 (fun e => by injection e with e; omega)).alloc (.cells #[.slice AS f.single.length cS, .int .i64 f.day, .int .i64 f.week] 25)
  have F3 := Blk.new w2 #[.slice AS f.single.length cS, .int .i64 f.day, .int .i64 f.week] 25
  have S3 := hS2.below (below_new w2 (.cells #[.slice AS f.single.length cS, .int .i64 f.day, .int .i64 f.week] 25))
  have R3 := hr2.below (below_new w2 (.cells #[.slice AS f.single.length cS, .int .i64 f.day, .int .i64 f.week] 25))
  have H3 := below_alloc (gb_below_new HB1 hg2 (by omega)) (.cells #[.slice AS f.single.length cS, .int .i64 f.day, .int .i64 f.week] 25)
  have sb : ∀ a, AS = some a → g < a.block := fun a ha => Nat.lt_of_lt_of_le hl1 (hSb a ha)
  have hgf : g < w2.heap.size := by omega
  have hgw : g < (w2.alloc (.cells #[.slice AS f.single.length cS, .int .i64 f.day, .int .i64 f.week] 25)).heap.size := by simp; omega
  clear P1 P2 hS2 hr2 hg2 HB1 hr1 hSb hs2 hl1
  go_wp2_with fail
  generalize w2.alloc (.cells #[.slice AS f.single.length cS, .int .i64 f.day, .int .i64 f.week] 25) = W3 at *
  generalize w2.heap.size = fb at *
  refine (c_AnyNet g q2 W3 R3 (by omega) (by omega)).mono ?_
  rintro e w4 ⟨nn, v, L, rfl, hn0, hn9, hO, hL, q4, hq40, hq41, hr4, hg4⟩
  obtain ⟨A, cA, rfl, hcA, _⟩ := hO.shape
  have hs4 := hg4.size
  have T5 : FrSt w g fb w4.heap.size AS cS f nn A cA L (.slice none 0 0) [] q4 (w4.alloc (.cells #[.int .i64 nn, .slice A L.length cA] 34)) :=
    ⟨(P1'.grown hg4 (fun e => by injection e with e; omega)).alloc _, (P2'.grown hg4 (fun e => by injection e with e; omega)).alloc _, (F3.grown hg4 (fun e => by injection e with e; omega)).alloc _, Blk.new _ _ _, (S3.keep (fun a ha hl => hg4.block a.block hl (fun e => by injection e with e; have := sb a ha; omega)) hg4.size).below (below_new _ _), sb, (OA.below (own_lower (base' := g + 1) hO (by omega)) (below_new _ _)), OI.nil _ _, hr4.below (below_new _ _), below_alloc (gb_below_new H3 hg4 (by omega)) _, hg0, hgf, by omega⟩
  clear P1' P2' F3 S3 R3 H3 hO hr4 hg4
  go_wp2_with fail
  generalize w4.alloc (.cells #[.int .i64 nn, .slice A L.length cA] 34) = W5 at *
  generalize w4.heap.size = nb at *
  obtain ⟨b0, b1⟩ := T5.N.cells2
  go_wp2_with fail
  refine (c_l30Part g q4 W5 nn (.slice A L.length cA) ⟨_, _, _, rfl⟩ T5.R (by omega) (by omega) hn0 hn9).mono ?_
  rintro e W6 ⟨vz, zone, rfl, hO6, hzl, q6, hq60, hq61, hr6, hg6⟩
  have T6' := T5.grown hg6 hr6
  obtain ⟨Z, cZ, rfl, hcZ, _⟩ := hO6.shape
  have hg5 : g + 1 ≤ W5.heap.size := T5.R.lt
  have T6 : FrSt w g fb nb AS cS f nn A cA L (.slice Z zone.length cZ) zone q6 W6.drew := by
    have T := T6'.below ((Below.refl _ W6).drew)
    exact ⟨T.Z1, T.Z2, T.F, T.N, T.S, T.sb, T.L, own_lower (OI.drew hO6) hg5, T.R, T.H, T.o1, T.o2, T.o3⟩
  clear T5 T6' hO6 hr6 hg6 b0 b1 hg5
  obtain ⟨b0, b1⟩ := T6.N.cells2
  obtain ⟨f0, f1, f2⟩ := T6.F.cells3
  have b0 : W6.cell? ⟨nb, 0, none⟩ = some (.int .i64 nn) := b0
  have b1 : W6.cell? ⟨nb, 1, none⟩ = some (.slice A L.length cA) := b1
  have f0 : W6.cell? ⟨fb, 0, none⟩ = some (.slice AS f.single.length cS) := f0
  have f1 : W6.cell? ⟨fb, 1, none⟩ = some (.int .i64 f.day) := f1
  have f2 : W6.cell? ⟨fb, 2, none⟩ = some (.int .i64 f.week) := f2
  have ho1 := T6.o1
  have hfw1 : fb ≠ w.heap.size := by have := T6.o2; omega
  have hfw2 : fb ≠ w.heap.size + 1 := by have := T6.o2; omega
  have hnw1 : nb ≠ w.heap.size := by have := T6.o3; omega
  have hnw2 : nb ≠ w.heap.size + 1 := by have := T6.o3; omega
  have HT6 := Lib.hid T6
  have HE1 := Lib.hid (set_far hfw1)
  have HE2 := Lib.hid (set_far hfw2)
  have HE3 := Lib.hid (set_far hnw1)
  have HE4 := Lib.hid (set_far hnw2)
  clear T6
  go_wp2_with fail
  go_region_held3 (fun w' => w'.cell? ⟨fb, 0, none⟩ = some (.slice AS f.single.length cS) ∧ w'.cell? ⟨fb, 1, none⟩ = some (.int .i64 f.day) ∧ w'.cell? ⟨fb, 2, none⟩ = some (.int .i64 f.week) ∧ w'.cell? ⟨nb, 0, none⟩ = some (.int .i64 nn) ∧ w'.cell? ⟨nb, 1, none⟩ = some (.slice A L.length cA))
    (first | (simp only [HE1.out, HE2.out, HE3.out, HE4.out]; exact kp7) | exact kp7 | go_keep)
    ((first | (go_at_call 70; refine (c_l30AnyWalk g q6 W6.drew nn A cA L HT6.out.R HT6.out.L (by omega) (by omega) (by omega)).mono ?_; rintro e W7 ⟨vb, ws, rfl, hO7, hwl, q7, hq70, hq71, hr7, hg7⟩; have HT7 := Lib.hid (HT6.out.grown hg7 hr7); have HO7 := Lib.hid (own_lower hO7 (show g + 1 ≤ W6.drew.heap.size from HT6.out.R.lt)); have kp7 := (⟨HT7.out.F.cells3.1, HT7.out.F.cells3.2.1, HT7.out.F.cells3.2.2, HT7.out.N.cells2.1, HT7.out.N.cells2.2⟩ : _ ∧ _ ∧ _ ∧ _ ∧ _); obtain ⟨z0, z1, z2⟩ := HT7.out.Z1.cells3; have y0 := HT7.out.Z1.frozen 0; have y1 := HT7.out.Z1.frozen 1; have y2 := HT7.out.Z1.frozen 2; obtain ⟨x0, x1⟩ := HT7.out.Z2.cells2; have t0 := HT7.out.Z2.frozen 0; have t1 := HT7.out.Z2.frozen 1; clear hO7 hr7 hg7)))
  rename_i hHeld
  clear hHeld kp7 z0 z1 z2 y0 y1 y2 x0 x1 t0 t1 f0 f1 f2 b0 b1 HE1 HE2 HE3 HE4
  have hO7 : OI W7 (g + 1) vb ws := HO7.out
  obtain ⟨B, cB, rfl, hcB, _⟩ := hO7.shape
  obtain ⟨g1, g2, g3, g4, g5, g6, g7⟩ := HT7.out.fin hO7
  have HG1 := Lib.hid g1
  have HG2 := Lib.hid g2
  have HG3 := Lib.hid g3
  have HG4 := Lib.hid g4
  have HG5 := Lib.hid g5
  have HG6 := Lib.hid g6
  have HG7 := Lib.hid g7
  clear g1 g2 g3 g4 g5 g6 g7 hO7 HO7 HT7 HT6
  go_wp2_with fail
  obtain ⟨r0, r1, r2⟩ := HG1.out.cells3
  obtain ⟨r3, r4⟩ := HG2.out.cells2
  refine bodyPost_ret (v := .tuple #[.agg #[.slice AS f.single.length cS, .int .i64 f.day, .int .i64 f.week], .agg #[.int .i64 nn, .slice A L.length cA], .slice Z zone.length cZ, .slice B ws.length cB]) ?_ rfl ⟨AS, cS, f, nn, A, cA, L, Z, cZ, zone, B, cB, ws, rfl, ⟨HG3.out, hSl⟩, ⟨HG4.out, hL⟩, ⟨HG5.out, hzl⟩, ⟨HG6.out, hwl, hcB⟩, HG7.out⟩
  rw [results_cell2_tmp2 (p := 2) (p' := 3) (u := 4) (x := 5) (ty := 25) (ty' := 34) rfl]
  unfold setsFR at r0 r1 r2 r3 r4
  simp [go_sem, r0, r1, r2, r3, r4]
end Go.Proofs.Ythglnmhcgagkdaa
