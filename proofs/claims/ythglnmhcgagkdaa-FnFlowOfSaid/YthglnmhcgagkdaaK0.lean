/- Walks: a net and two nodes are drawn. -/
import Derived.Test.YthglnmhcgagkdaaH6
namespace Go.Proofs.Ythglnmhcgagkdaa
open Go.RowKit
def DrawnNFT (w : World) (e : Ending) (w' : World) : Prop := ∃ (nn : Int) (A : Option Addr) (cA : Nat) (L : List Arc) (f t : Int),
  e = .returned (.tuple #[.agg #[.int .i64 nn, .slice A L.length cA], .int .i64 f, .int .i64 t]) ∧ ArcsAt w' A L ∧ L.length ≤ 14 ∧ Below w.heap.size w w'
set_option maxHeartbeats 2000000 in
set_option maxRecDepth 100000 in
theorem c_DrawNearWalk (A0 : Option Addr) (n c : Nat) (w : World) (h : BytesAt w A0 n) (hn : n ≤ 1048576) (hc : n ≤ c) :
    Calls Try.prog 79 #[.slice A0 n c] w (DrawnNFT w) := by
  have h1 := bytes_below h (below_new w (.cells #[.int .i64 0, .slice none 0 0] 34))
  have B0 := Blk.new w #[.int .i64 0, .slice none 0 0] 34
  go_enter Try.func79, Try.ntmps79
  go_wp2_with fail
  refine (c_Open A0 n c _ h1 hn hc).mono ?_
  rintro e w1 ⟨rfl, hr1, hb1⟩
  have HB1 := below_of (below_new w _) hb1
  have B1 := B0.below hb1
  obtain ⟨g, hgd⟩ : ∃ g, g = (w.alloc (.cells #[.int .i64 0, .slice none 0 0] 34)).heap.size := ⟨_, rfl⟩
  have hg0 : w.heap.size < g := by rw [hgd]; simp
  rw [← hgd] at hr1 ⊢
  clear hb1 h h1 hgd B0
  have hl1 := hr1.lt
  go_wp2_with fail
  refine (c_AnyNet g 0 _ hr1 (by omega) (by omega)).mono ?_
  rintro e w2 ⟨nn, v, L, rfl, hn0, hn9, hO, hL, q, hq0, hq1, hr2, hg2⟩
  have HB2 := gb_below_new HB1 hg2 (by omega)
  have B2 := B1.grown hg2 (fun e => by injection e with e; omega)
  have hs2 := hg2.size
  obtain ⟨A, cA, rfl, hcA, _⟩ := hO.shape
  have hO2 : OA w2 (g + 1) (.slice A L.length cA) L := own_lower hO (by omega)
  clear hg2 B1 HB1 hr1 hO
  have S2 : FVSt w g w2.heap.size (w2.heap.size + 1) nn (.slice A L.length cA) L (.slice none 0 0) [] (w2.alloc (.cells #[.int .i64 nn, .slice A L.length cA] 34)) q :=
    ⟨B2.alloc _, Blk.new _ _ _, hO2.below (below_new _ _), OI.nil _ _, hr2.below (below_new _ _), below_alloc HB2 _, hg0, by omega, by omega, by simp⟩
  clear HB2 B2 hO2 hr2
  obtain ⟨b0, b1⟩ := S2.N.cells2
  go_wp2_with fail
  generalize w2.alloc (.cells #[.int .i64 nn, .slice A L.length cA] 34) = W3 at *
  generalize w2.heap.size = nb at *
  refine (c_Node g q W3 nn (.slice A L.length cA) ⟨_, _, _, rfl⟩ S2.R (by omega) (by omega) hn0 hn9).mono ?_
  rintro e w4 ⟨f, rfl, q4, hq40, hq41, hr4, hg4⟩
  have S4 := S2.grown hg4 hr4
  clear hr4 hg4 b0 b1 S2
  obtain ⟨b0, b1⟩ := S4.N.cells2
  obtain ⟨z0, z1⟩ := S4.Z.cells2
  have y0 := S4.Z.frozen 0
  have y1 := S4.Z.frozen 1
  have hn1 : ¬ (nb = w.heap.size) := by have := S4.o1; have := S4.o2; omega
  have hbs : nb < w4.drew.heap.size := S4.N.lt
  have HS4 := Lib.hid S4.drew
  have hgn : g < nb := S4.o2
  clear S4
  go_wp2_with fail
  go_region_held3 (fun w' => w'.cell? ⟨nb, 0, none⟩ = some (.int .i64 nn) ∧ w'.cell? ⟨nb, 1, none⟩ = some (.slice A L.length cA)) (first | go_keep | exact ⟨b0', b1'⟩ | exact ⟨(cell_keep (Below.heap_setCell _ _ _ _ hn1) _).trans ((cell_keep (Below.heap_setCell _ _ _ _ hn1) _).trans b0'), (cell_keep (Below.heap_setCell _ _ _ _ hn1) _).trans ((cell_keep (Below.heap_setCell _ _ _ _ hn1) _).trans b1')⟩) ((first | (go_at_call 61; refine (c_Node g q4 w4.drew nn (.slice A L.length cA) ⟨_, _, _, rfl⟩ HS4.out.R (by omega) (by omega) hn0 hn9).mono ?_; rintro e w5 ⟨t, rfl, q5, hq50, hq51, hr5, hg5⟩; have S5 := HS4.out.grown hg5 hr5; obtain ⟨b0', b1'⟩ := S5.N.cells2; obtain ⟨z0', z1'⟩ := S5.Z.cells2; have y0' := S5.Z.frozen 0; have y1' := S5.Z.frozen 1; have HS5 := Lib.hid S5; clear S5 hr5 hg5)))
  rename_i hHeld
  clear hHeld
  obtain ⟨B', cB', eB, Z', hA', hB', hb'⟩ := HS5.out.fin
  have HZ' := Lib.hid Z'
  have HA' := Lib.hid hA'
  have Hb' := Lib.hid hb'
  clear Z' hA' hB' hb' eB b0' b1' z0' z1' y0' y1' b0 b1 z0 z1 y0 y1 HS5 HS4
  go_wp2_with fail
  obtain ⟨r0, r1⟩ := HZ'.out.cells2
  refine bodyPost_ret (v := .tuple #[.agg #[.int .i64 nn, .slice A L.length cA], .int .i64 f, .int .i64 t]) ?_ rfl ⟨nn, A, cA, L, f, t, rfl, HA'.out, hL, Hb'.out⟩
  rw [results_cell_tmp2 (p := 2) (u := 3) (x := 4) (ty := 34) rfl]
  simp [go_sem, r0, r1]
set_option maxHeartbeats 400000 in
set_option maxRecDepth 100000 in
theorem c_DrawFlowOf (A0 : Option Addr) (n c : Nat) (w : World) (h : BytesAt w A0 n) (hn : n ≤ 1048576) (hc : n ≤ c) :
    Calls Try.prog 26 #[.slice A0 n c] w (DrawnNFT w) := by
  have h1 := bytes_below h (below_new w (.cells #[.int .i64 0, .slice none 0 0] 34))
  have B0 := Blk.new w #[.int .i64 0, .slice none 0 0] 34
  go_enter Try.func26, Try.ntmps26
  go_wp2_with fail
  refine (c_DrawNearWalk A0 n c _ h1 hn hc).mono ?_
  rintro e w1 ⟨nn, A, cA, L, f, t, rfl, hA, hL, hb1⟩
  have B1 := B0.below hb1
  have HB1 := below_of (below_new w _) hb1
  obtain ⟨z0, z1⟩ := B1.cells2
  have y0 := B1.frozen 0
  have y1 := B1.frozen 1
  have Z' : Blk ((w1.setCell ⟨w.heap.size, 0, none⟩ (.int .i64 nn)).setCell ⟨w.heap.size, 1, none⟩ (.slice A L.length cA)) w.heap.size #[.int .i64 nn, .slice A L.length cA] 34 := by
    have := (B1.set 0 (.int .i64 nn)).set 1 (.slice A L.length cA)
    simpa using this
  have HA' : Hid (ArcsAt ((w1.setCell ⟨w.heap.size, 0, none⟩ (.int .i64 nn)).setCell ⟨w.heap.size, 1, none⟩ (.slice A L.length cA)) A L) := fun hp => by
    obtain ⟨g, o, e, hg, hcell⟩ := hA hp
    have hne : g ≠ w.heap.size := fun e' => by
      have h0 := (hcell 0 hp).2.2.2.2
      have h1 := B1.cell (o + 0 * 5 + 4)
      rw [← e', h0] at h1
      simp at h1
    have hk : ((w1.setCell ⟨w.heap.size, 0, none⟩ (.int .i64 nn)).setCell ⟨w.heap.size, 1, none⟩ (.slice A L.length cA)).heap[g]? = w1.heap[g]? := by
      rw [Below.heap_setCell _ _ _ _ hne, Below.heap_setCell _ _ _ _ hne]
    refine ⟨g, o, e, by simpa using hg, fun i hi => ?_⟩
    obtain ⟨h0, h1, h2, h3, h4⟩ := hcell i hi
    exact ⟨(cell_keep hk _).trans h0, (cell_keep hk _).trans h1, (cell_keep hk _).trans h2, (cell_keep hk _).trans h3, (cell_keep hk _).trans h4⟩
  have Hb' := Lib.hid ((HB1.setCell (p := ⟨w.heap.size, 0, none⟩) (Nat.le_refl _) (.int .i64 nn)).setCell (p := ⟨w.heap.size, 1, none⟩) (Nat.le_refl _) (.slice A L.length cA))
  have HZ' := Lib.hid Z'
  clear Z' hA hb1 HB1 B1 h1 h B0
  go_wp2_with fail
  obtain ⟨r0, r1⟩ := HZ'.out.cells2
  refine bodyPost_ret (v := .tuple #[.agg #[.int .i64 nn, .slice A L.length cA], .int .i64 f, .int .i64 t]) ?_ rfl ⟨nn, A, cA, L, f, t, rfl, HA'.out, hL, Hb'.out⟩
  rw [results_cell_tmp2 (p := 2) (u := 3) (x := 4) (ty := 34) rfl]
  simp [go_sem, r0, r1]
set_option maxHeartbeats 400000 in
set_option maxRecDepth 100000 in
theorem c_DrawBothNear (A0 : Option Addr) (n c : Nat) (w : World) (h : BytesAt w A0 n) (hn : n ≤ 1048576) (hc : n ≤ c) :
    Calls Try.prog 50 #[.slice A0 n c] w (DrawnNFT w) := by
  have h1 := bytes_below h (below_new w (.cells #[.int .i64 0, .slice none 0 0] 34))
  have B0 := Blk.new w #[.int .i64 0, .slice none 0 0] 34
  go_enter Try.func50, Try.ntmps50
  go_wp2_with fail
  refine (c_DrawNearWalk A0 n c _ h1 hn hc).mono ?_
  rintro e w1 ⟨nn, A, cA, L, f, t, rfl, hA, hL, hb1⟩
  have B1 := B0.below hb1
  have HB1 := below_of (below_new w _) hb1
  obtain ⟨z0, z1⟩ := B1.cells2
  have y0 := B1.frozen 0
  have y1 := B1.frozen 1
  have Z' : Blk ((w1.setCell ⟨w.heap.size, 0, none⟩ (.int .i64 nn)).setCell ⟨w.heap.size, 1, none⟩ (.slice A L.length cA)) w.heap.size #[.int .i64 nn, .slice A L.length cA] 34 := by
    have := (B1.set 0 (.int .i64 nn)).set 1 (.slice A L.length cA)
    simpa using this
  have HA' : Hid (ArcsAt ((w1.setCell ⟨w.heap.size, 0, none⟩ (.int .i64 nn)).setCell ⟨w.heap.size, 1, none⟩ (.slice A L.length cA)) A L) := fun hp => by
    obtain ⟨g, o, e, hg, hcell⟩ := hA hp
    have hne : g ≠ w.heap.size := fun e' => by
      have h0 := (hcell 0 hp).2.2.2.2
      have h1 := B1.cell (o + 0 * 5 + 4)
      rw [← e', h0] at h1
      simp at h1
    have hk : ((w1.setCell ⟨w.heap.size, 0, none⟩ (.int .i64 nn)).setCell ⟨w.heap.size, 1, none⟩ (.slice A L.length cA)).heap[g]? = w1.heap[g]? := by
      rw [Below.heap_setCell _ _ _ _ hne, Below.heap_setCell _ _ _ _ hne]
    refine ⟨g, o, e, by simpa using hg, fun i hi => ?_⟩
    obtain ⟨h0, h1, h2, h3, h4⟩ := hcell i hi
    exact ⟨(cell_keep hk _).trans h0, (cell_keep hk _).trans h1, (cell_keep hk _).trans h2, (cell_keep hk _).trans h3, (cell_keep hk _).trans h4⟩
  have Hb' := Lib.hid ((HB1.setCell (p := ⟨w.heap.size, 0, none⟩) (Nat.le_refl _) (.int .i64 nn)).setCell (p := ⟨w.heap.size, 1, none⟩) (Nat.le_refl _) (.slice A L.length cA))
  have HZ' := Lib.hid Z'
  clear Z' hA hb1 HB1 B1 h1 h B0
  go_wp2_with fail
  obtain ⟨r0, r1⟩ := HZ'.out.cells2
  refine bodyPost_ret (v := .tuple #[.agg #[.int .i64 nn, .slice A L.length cA], .int .i64 f, .int .i64 t]) ?_ rfl ⟨nn, A, cA, L, f, t, rfl, HA'.out, hL, Hb'.out⟩
  rw [results_cell_tmp2 (p := 2) (u := 3) (x := 4) (ty := 34) rfl]
  simp [go_sem, r0, r1]
end Go.Proofs.Ythglnmhcgagkdaa
