/- The walk of FnFareWeek. -/
import Derived.Test.YthglnmhcgagkdaaL0
import Derived.Test.YthglnmhcgagkdaaD3
import Derived.Deep.RegionHeld3
namespace Go.Proofs.Ythglnmhcgagkdaa
open Go.RowKit
theorem below_newd (w : World) (o : Obj) : Below w.heap.size w (w.alloc o).drew := (below_new w o).drew
theorem OI.drew {w : World} {base : Nat} {v : Value} {xs : List Int} (h : OI w base v xs) : OI w.drew base v xs := h
theorem elem26 : Try.prog.elem 26 = 23 := by simp [Program.elem, Try.underlying26]
theorem run_drop_rows (g o n c k : Nat) (hk : k ≤ n) (hc : n ≤ c) : ∃ A2, (∀ W, (Instr.slice 26 (.slice (some ⟨g, o, none⟩) n c) (some (.int .i64 k)) none none).run Try.prog W = .ok (.slice A2 (n - k) (c - k)) W) ∧ (0 < n - k → A2 = some ⟨g, o + k, none⟩) := by
  obtain ⟨i0, hi, hz⟩ := Option.map_eq_some_iff.1 info23
  simp only [Prod.mk.injEq] at hz
  obtain ⟨hz0, hz1, hz2⟩ := hz
  have hu : Try.prog.underlying 26 = some (.slice (Try.prog.elem 26)) := by rw [elem26]; exact Try.underlying26
  have hadd : (⟨g, o, none⟩ : Addr).add k = ⟨g, o + k, none⟩ := by unfold Addr.add; split <;> simp_all
  refine ⟨if c = k then some ⟨g, o, none⟩ else some ⟨g, o + k, none⟩, fun W => ?_, fun h => by rw [if_neg (by omega)]⟩
  rw [run_slice_l W 26 (some ⟨g, o, none⟩) n c hu .i64 k (by omega) (by omega), elem26]
  simp [sizeOf, typeInfo, hi, hz1, sliced, Result.andThen, hadd]
theorem rows_of_cells {w : World} {base : Nat} {v : Value} {cs : List Value} {rows : List (List Int)} (h : w.ownsRow base 23 1 v rows.length cs) (hv : ∀ i, i < rows.length → ∃ u, cs[i]? = some u ∧ RowV w u (rows.getD i [])) :
    ∃ A c, v = .slice A rows.length c ∧ rows.length ≤ c ∧ RowsAt w A rows := by
  obtain ⟨A, c, rfl, hc⟩ := own_shape h
  refine ⟨A, c, rfl, hc, fun hp => ?_⟩
  obtain ⟨g, cap, e, _, _, hg, hcell, _⟩ := own_at h hp
  injection e with e1 _ e2
  refine ⟨g, 0, e1, hg, fun i hi => ?_⟩
  obtain ⟨u, h3, A', c', rfl, h4, h5, h6⟩ := hv i hi
  exact ⟨A', c', by rw [Nat.zero_add]; exact hcell i _ h3, h4, h5, h6⟩
theorem cells_kept {w w' : World} {A : Option Addr} {n : Nat} {cs : List Value} (h : 0 < n → ∃ g o, A = some ⟨g, o, none⟩ ∧ g < w.heap.size ∧ ∀ j u, cs[j]? = some u → w.cell? ⟨g, o + j, none⟩ = some u) (hb : Below w.heap.size w w') : 0 < n → ∃ g o, A = some ⟨g, o, none⟩ ∧ ∀ j u, cs[j]? = some u → w'.cell? ⟨g, o + j, none⟩ = some u := fun hp => by
  obtain ⟨g, o, e, hg, hc⟩ := h hp
  exact ⟨g, o, e, fun j u hu => (cell_keep (hb.block g hg) _).trans (hc j u hu)⟩
def TrueHere (w : World) (e : Ending) (w' : World) : Prop := e = .returned (.bool true) ∧ Below w.heap.size w w'
set_option maxHeartbeats 4000000 in
set_option maxRecDepth 100000 in
theorem w_FareWeek (A : Option Addr) (n c : Nat) (w : World) (h : BytesAt w A n) (hc : n ≤ c) (hn9 : n ≤ 9223372036854775807) :
    Calls Try.prog 3 #[.slice A n c] w (TrueHere w) := by
  by_cases hn : n ≤ 1048576
  · go_enter Try.func3, Try.ntmps3
    go_wp2_with fail
    refine (c_DrawFareWeek A n c w h hn hc).mono ?_
    rintro e w1 ⟨AF, cF, f, B, k, rows, rfl, hAF, hfl, hR, hrk, hrl, hrr, hb1⟩
    have B1 := Blk.new w1 #[.slice AF f.single.length cF, .int .i64 f.day, .int .i64 f.week] 25
    have A1 := hAF.below (below_new w1 (.cells #[.slice AF f.single.length cF, .int .i64 f.day, .int .i64 f.week] 25))
    have R1 := hR.below (below_new w1 (.cells #[.slice AF f.single.length cF, .int .i64 f.day, .int .i64 f.week] 25))
    have H1 := below_alloc hb1 (.cells #[.slice AF f.single.length cF, .int .i64 f.day, .int .i64 f.week] 25)
    clear hAF hR hb1 h
    go_wp2_with fail
    generalize w1.alloc (.cells #[.slice AF f.single.length cF, .int .i64 f.day, .int .i64 f.week] 25) = W1 at *
    generalize w1.heap.size = bf at *
    refine (c_FareWeek _ _ _ _ f rows W1 A1 (by omega) R1 (by omega)).mono ?_
    rintro e w2 ⟨rfl, hb2⟩
    have B2 := B1.below hb2
    have A2 := A1.below hb2
    have R2 := R1.below hb2
    have H2 := below_of H1 hb2
    clear B1 A1 R1 H1 hb2
    obtain ⟨p, hp⟩ : ∃ p, p = fareWeekI f rows := ⟨_, rfl⟩
    rw [← hp]
    have HP := Lib.hid hp
    clear hp
    obtain ⟨c0, c1, c2⟩ := B2.cells3
    go_wp2_with fail
    refine (c_specFareWeek _ _ _ _ f rows w2 A2 (by omega) R2 (by omega)).mono ?_
    rintro e w3 ⟨rfl, hb3⟩
    rw [← HP.out]
    have B3 := B2.below hb3
    have A3 := A2.below hb3
    have R3 := R2.below hb3
    have H3 := below_of H2 hb3
    clear B2 A2 R2 H2 hb3 c0 c1 c2
    obtain ⟨c0, c1, c2⟩ := B3.cells3
    by_cases hp0 : p < 0
    · go_wp2_with fail
      refine (c_specFareWeek _ _ _ _ f rows w3 A3 (by omega) R3 (by omega)).mono ?_
      rintro e w4 ⟨rfl, hb4⟩
      rw [← HP.out]
      have H4 := below_of H3 hb4
      clear hb4
      go_wp2
      go_ret
      exact ⟨rfl, H4⟩
    · go_wp2_with fail
      clear c0 c1 c2
      go_loopw [6, 7] (fun v6 v7 wr => ∃ (j : Nat), j ≤ rows.length ∧ v7 = .int .i64 j ∧ (∃ s : Int, v6 = .int .i64 s ∧ Hid (s = weekSum f.day (rows.take j))) ∧ Below w3.heap.size w3 wr) (fun _ v7 _ => rows.length - (intOf v7).toNat)
      case atStart => exact ⟨0, Nat.zero_le _, rfl, ⟨0, rfl, by simp [Hid, weekSum]⟩, Below.refl _ _⟩
      case round =>
        obtain ⟨j, hj, rfl, ⟨s, rfl, hs⟩, hb⟩ := hrel
        have HW : Hid (0 ≤ fareWeekI f rows) := by show _; rw [← HP.out]; exact hp0
        obtain ⟨hf, h7, hrides, hmin⟩ := fareWeek_parts HW.out
        have hsb := weekSum_bound (fareOk_day hf) j hj (fun i hi => hrides i (by omega))
        rw [← hs.out] at hsb
        have HFF := Lib.hid hf
        have HRR := Lib.hid hrides
        have HMM := Lib.hid hmin
        clear hf hrides hmin
        have B4 := B3.below hb
        have A4 := A3.below hb
        have R4 := R3.below hb
        obtain ⟨c0, c1, c2⟩ := B4.cells3
        by_cases hlt : j < rows.length
        · obtain ⟨g, o, rfl, hg, hcc⟩ := R4 (by omega)
          obtain ⟨A', n', hx, hx1, hx2, hx3⟩ := hcc j hlt
          clear hcc
          obtain ⟨x, hxx⟩ : ∃ x, x = rows.getD j [] := ⟨_, rfl⟩
          rw [← hxx] at hx hx1 hx2 hx3
          have HX := Lib.hid hxx
          clear hxx
          have hdb := dayI_bound (d := f.day) (xs := x) (fareOk_day HFF.out) (by rw [HX.out]; exact HRR.out j hlt)
          obtain ⟨d, hdd⟩ : ∃ d, d = dayI f.day x := ⟨_, rfl⟩
          rw [← hdd] at hdb
          have HZ := Lib.hid hdd
          clear hdd
          have HD : Hid (fareDayI f x = d) := by show _ = _; unfold fareDayI; rw [HFF.out, HX.out, HRR.out j hlt, ← HX.out, HZ.out]; rfl
          go_wp2_with fail
          have k0 := cell_regrown c0
          have k1 := cell_regrown c1
          have k2 := cell_regrown c2
          have kx := cell_regrown hx
          have HC := regrown_call (P := Try.prog) (f := 16) (args := #[.agg #[.slice AF f.single.length cF, .int .i64 f.day, .int .i64 f.week], .slice A' x.length n']) (w := wr) (v := .int .i64 d) (fun w1 hw1 => by rw [← HD.out]; exact c_FareDay _ _ _ _ f x w1 (A4.below hw1) (by omega) (hx3.below hw1) hx1)
          have HCC := Lib.hid HC
          clear HC
          refine wp_region_quiet_below (by kernel_rfl) (by kernel_rfl) ?_
          have ew : IntKind.i64.wrap (s + d) = s + d := wrap_in (by omega)
          repeat (quiet_step (exact HCC.out _ _))
          refine wpQuiet_nil ?_
          intro _ hw'
          obtain ⟨⟨dq, osq⟩, hw''⟩ := hw'
          subst hw''
          have hb2 := below_regrown wr dq osq
          clear k0 k1 k2 kx c0 c1 c2 HCC ew hx
          generalize Go.Sort.grow (redrawn wr dq) osq = w4 at *
          have HB4 := below_of hb hb2
          clear hb2
          go_wp2
          go_roundw
          case rel => exact ⟨j + 1, by omega, by go_num, ⟨s + d, rfl, by show _ = _; rw [weekSum_snoc f.day rows j hlt, ← hs.out, ← HX.out, ← HZ.out]⟩, HB4⟩
          case measure => simp [intOf]; omega
        · have hf : Hid (s = weekSum f.day rows) := by show _ = _; rw [hs.out, List.take_of_length_le (by omega)]
          have HM : Hid (p = min s f.week) := by show _ = _; rw [HP.out, HMM.out, ← hf.out]
          have H5 := Lib.hid (below_of H3 hb)
          clear hs hj
          have hpm := HM.out
          have hp1 : p ≤ f.week := by omega
          have hp2 : (p == s) = true ∨ ((p == s) = false ∧ (p == f.week) = true ∧ p < s) := by
            by_cases e : p = s
            · exact .inl (by simpa using e)
            · exact .inr ⟨by simpa using e, by rw [beq_iff_eq]; omega, by omega⟩
          clear hpm
          by_cases h2 : 1 < rows.length
          · obtain ⟨g, o, rfl, hg, hcc⟩ := R4 (by omega)
            obtain ⟨A0, n0, hx, hx1, hx2, hx3⟩ := hcc 0 (by omega)
            obtain ⟨A1, n1, hy, hy1, hy2, hy3⟩ := hcc 1 (by omega)
            simp only [Nat.add_zero] at hx
            clear hcc
            obtain ⟨x, hxx⟩ : ∃ x, x = rows.getD 0 [] := ⟨_, rfl⟩
            obtain ⟨y, hyy⟩ : ∃ y, y = rows.getD 1 [] := ⟨_, rfl⟩
            rw [← hxx] at hx hx1 hx2 hx3
            rw [← hyy] at hy hy1 hy2 hy3
            have HX := Lib.hid hxx
            have HY := Lib.hid hyy
            clear hxx hyy
            have hd : decide (1 < (rows.length : Int)) = true := by simp; omega
            have hd2 : decide (1 < rows.length) = true := by simp; omega
            have hd3 : (1 : Int) < rows.length := by omega
            have hd4 : (0 : Int) < rows.length := by omega
            have ew : IntKind.i64.wrap ((x.length : Int) + (y.length : Int)) = (x.length : Int) + (y.length : Int) := wrap_in (by omega)
            by_cases hxy : x.length + y.length ≤ 10
            · have hd5 : decide ((x.length : Int) + (y.length : Int) ≤ 10) = true := by simp; omega
              clear c0 c1 c2
              go_wp2_with fail
              go_quiet (fail)
              clear ew hd hd2 hd5
              have hd6 : 0 < rows.length := by omega
              have hd7 : 1 < rows.length := by omega
              go_wp2_with fail
              have B5 := B4.drewN nq
              have A5 : IntsAt (wr.drewN nq) AF f.single := A4
              have R5 : RowsAt (wr.drewN nq) (some ⟨g, o, none⟩) rows := R4
              have x5 : (wr.drewN nq).cell? ⟨g, o, none⟩ = some (.slice A0 x.length n0) := hx
              have y5 : (wr.drewN nq).cell? ⟨g, o + 1, none⟩ = some (.slice A1 y.length n1) := hy
              have ix : IntsAt (wr.drewN nq) A0 x := hx3
              have iy : IntsAt (wr.drewN nq) A1 y := hy3
              have g5 : g < (wr.drewN nq).heap.size := hg
              have H6 := below_drewN H5.out nq
              clear hx hy hx3 hy3 hg B4 A4 R4 H5
              generalize wr.drewN nq = w4 at *
              have H5 := Lib.hid H6
              have HA5 := Lib.hid A5
              have HB5 := Lib.hid B5
              have HR5 := Lib.hid R5
              have HIX := Lib.hid ix
              have HIY := Lib.hid iy
              clear H6 A5 B5 R5 ix iy
              obtain ⟨cs, hcs, hcv⟩ := HR5.out.cells
              obtain ⟨A2, hsl', hA2⟩ := run_drop_rows g o rows.length k 2 (by omega) hrk
              have hsl : ∀ W, (Instr.slice 26 (.slice (some ⟨g, o, none⟩) rows.length k) (some (.int .i64 2)) none none).run Try.prog W = .ok (.slice A2 (rows.length - 2) (k - 2)) W := hsl'
              clear hsl'
              have HN : Hid (0 < rows.length - 2 → ∃ g' o', A2 = some ⟨g', o', none⟩ ∧ g' < w4.heap.size ∧ ∀ j u, (cs.drop 2)[j]? = some u → w4.cell? ⟨g', o' + j, none⟩ = some u) := fun hp => by
                obtain ⟨g', o', e, hg', hc'⟩ := hcs.2 (by omega)
                injection e with e
                injection e with e1 e2
                subst e1 e2
                exact ⟨g, o + 2, hA2 hp, hg', fun j u hu => by rw [List.getElem?_drop] at hu; rw [Nat.add_assoc]; exact hc' _ u hu⟩
              have HCV := Lib.hid hcv
              have hcl := hcs.1
              have HN1 : Hid (∀ u ∈ cs.drop 2, u.oneCell' = true) := fun u hu => by
                obtain ⟨i, hi, rfl⟩ := List.mem_iff_getElem.1 (List.mem_of_mem_drop hu)
                obtain ⟨u, h1, A', c', h2, _⟩ := hcv i (by omega)
                rw [List.getElem?_eq_getElem hi] at h1
                injection h1 with h1
                rw [h1, h2]; rfl
              have HCL := Lib.hid hcl
              clear hcs hcv hA2 hcl
              go_region_held3 (fun w' => w'.cell? ⟨g, o, none⟩ = some (.slice A0 x.length n0) ∧ w'.cell? ⟨g, o + 1, none⟩ = some (.slice A1 y.length n1))
                (first
                  | go_keep
                  | exact ⟨(cell_keep (bl3.block g g5) _).trans x5, (cell_keep (bl3.block g g5) _).trans y5⟩
                  | exact ⟨(cell_keep (bl2.block g g5) _).trans x5, (cell_keep (bl2.block g g5) _).trans y5⟩
                  | exact ⟨(cell_keep (bl1.block g g5) _).trans x5, (cell_keep (bl1.block g g5) _).trans y5⟩)
                ((first
                  | (refine step_app_ints (by rfl) (w4.heap.size) _ _ (by rfl) (.slice (some ⟨w4.heap.size, 0, none⟩) 0 0) [] x A0 n0 (by rfl) (by rfl) (HIX.out.below (below_newd w4 (.cells #[] 3))) (OI.drew (OI.lit w4 w4.heap.size [] (Nat.le_refl _) (by simp))) (by simp) (by simp; omega) ?_; intro v1 w5 hO1 hg1 hat1; have bl1 := below_gb (below_newd w4 (.cells #[] 3)) hg1 (fun k hk => by simp [Value.ownBlock] at hk; omega))
                  | (refine step_app_ints (by rfl) (w4.heap.size) _ _ (by rfl) v1 ([] ++ x) y A1 n1 (by rfl) (by rfl) (HIY.out.below bl1) hO1 bl1.size (by simp; omega) ?_; intro v2 w6 hO2 hg2 hat2; have bl2 := below_gb bl1 hg2 (fun k hk => (own_ge hO1 k hk).1); obtain ⟨a2, m2, k2, e2⟩ := OI.any hO2; subst e2)
                  | (refine step_app_cells (by rfl) w4.heap.size _ _ (by rfl) (.slice (some ⟨w6.heap.size, 0, none⟩) 1 1) 1 [.slice a2 m2 k2] A2 (rows.length - 2) (k - 2) (cs.drop 2) (by rfl) (by rfl) (World.ownsRow_lit w6 #[.slice a2 m2 k2] 1 bl2.size (by simp [maxLen]) rfl) (by rw [List.length_drop, HCL.out]) (cells_kept HN.out (below_alloc bl2 _)) HN1.out (Nat.le_trans bl2.size (by simp)) (by omega) ?_; intro v3 w7 hO3 hg3 hat3; have bl3 := below_gb (below_alloc bl2 (.cells #[.slice a2 m2 k2] 23)) hg3 (fun k hk => by simp [Value.ownBlock] at hk; have := bl2.size; omega))))
              have h67 : Below w6.heap.size w6 w7 := below_gb (below_new w6 (.cells #[.slice a2 m2 k2] 23)) hg3 (fun k hk => by simp [Value.ownBlock] at hk; omega)
              have hlen : 1 + (rows.length - 2) = ((x ++ y) :: rows.drop 2).length := by simp; omega
              rw [hlen] at hO3
              have hv7 : ∀ i, i < ((x ++ y) :: rows.drop 2).length → ∃ u, ([Value.slice a2 m2 k2] ++ cs.drop 2)[i]? = some u ∧ RowV w7 u (((x ++ y) :: rows.drop 2).getD i []) := fun i hi => by
                cases i with
                | zero =>
                  obtain ⟨A', c', e, hl', hI'⟩ := (OI.below hO2 h67).shape
                  exact ⟨_, rfl, A', c', by simpa using e, by simp; omega, by simpa using hl', by simpa using hI'⟩
                | succ i =>
                  simp only [List.length_cons, List.length_drop] at hi
                  obtain ⟨u, h1, h2⟩ := HCV.out (i + 2) (by omega)
                  refine ⟨u, ?_, ?_⟩
                  · rw [← h1]; simp [List.getElem?_drop, Nat.add_comm]
                  · have := h2.below bl3
                    simpa [List.getD_eq_getElem?_getD, List.getElem?_drop, Nat.add_comm] using this
              obtain ⟨A7, c7, rfl, hc7, hR7⟩ := rows_of_cells hO3 hv7
              have B7 := HB5.out.below bl3
              have A7' := HA5.out.below bl3
              have H7 := below_of H5.out bl3
              have HJ : Hid (fareWeekI f ((x ++ y) :: rows.drop 2) ≤ p) := by
                show _ ≤ _
                have e : rows = x :: y :: rows.drop 2 := by
                  apply List.ext_getElem?
                  intro i
                  have h0 : rows[0]? = some x := by rw [HX.out]; simp [List.getD_eq_getElem?_getD, List.getElem?_eq_getElem hd6]
                  have h1 : rows[1]? = some y := by rw [HY.out]; simp [List.getD_eq_getElem?_getD, List.getElem?_eq_getElem hd7]
                  match i with
                  | 0 => rw [h0]; rfl
                  | 1 => rw [h1]; rfl
                  | i + 2 => simp [List.getElem?_drop, Nat.add_comm]
                have := week_join (f := f) (x := x) (y := y) (rows := rows.drop 2) (by rw [← e]; exact HW.out) hxy
                rw [← e] at this
                rw [HP.out]; exact this
              clear hO3 hv7 hO1 hO2 hg1 hg2 hg3 hat1 hat2 hat3 bl1 bl2 bl3 h67 x5 y5 g5 hsl HCV HN HN1
              rename_i hHeld
              clear hHeld
              obtain ⟨c0, c1, c2⟩ := B7.cells3
              have hRl : ((x ++ y) :: rows.drop 2).length ≤ 10 := by simp; omega
              clear hlen
              generalize (x ++ y) :: rows.drop 2 = R' at *
              go_wp2_with fail
              refine (c_FareWeek _ _ _ _ f R' w7 A7' (by omega) hR7 (by omega)).mono ?_
              rintro e w8 ⟨rfl, hb8⟩
              have B8 := B7.below hb8
              have H8 := below_of H7 hb8
              obtain ⟨p2, hp2'⟩ : ∃ p2, p2 = fareWeekI f R' := ⟨_, rfl⟩
              have hpp : p2 ≤ p := by rw [hp2']; exact HJ.out
              rw [← hp2']
              clear hp2' hb8 B7 A7' H7 hR7 c0 c1 c2
              obtain ⟨c0, c1, c2⟩ := B8.cells3
              rcases hp2 with e | ⟨e1, e2, e3⟩
              · go_wp2
                go_ret
                exact ⟨rfl, H8⟩
              · go_wp2
                go_ret
                exact ⟨rfl, H8⟩
            · have hd5 : decide ((x.length : Int) + (y.length : Int) ≤ 10) = false := by simp; omega
              rcases hp2 with e | ⟨e1, e2, e3⟩
              · go_wp2_with fail
                go_quiet (fail)
                go_wp2
                go_ret
                exact ⟨rfl, below_drewN H5.out _⟩
              · go_wp2_with fail
                go_quiet (fail)
                go_wp2
                go_ret
                exact ⟨rfl, below_drewN H5.out _⟩
          · have hd : decide (1 < (rows.length : Int)) = false := by simp; omega
            have hd2 : decide (1 < rows.length) = false := by simp; omega
            rcases hp2 with e | ⟨e1, e2, e3⟩
            · go_wp2_with fail
              go_quiet (fail)
              go_wp2
              go_ret
              exact ⟨rfl, below_drewN H5.out _⟩
            · go_wp2_with fail
              go_quiet (fail)
              go_wp2
              go_ret
              exact ⟨rfl, below_drewN H5.out _⟩
  · go_enter Try.func3, Try.ntmps3
    go_wp2
    go_ret
    exact ⟨rfl, Below.refl _ _⟩
end Go.Proofs.Ythglnmhcgagkdaa
