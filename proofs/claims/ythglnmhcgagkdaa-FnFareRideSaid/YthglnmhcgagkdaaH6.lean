/- Walk: spec.DrawFlowValue. -/
import Derived.Test.YthglnmhcgagkdaaH0
import Derived.Test.YthglnmhcgagkdaaE3
import Derived.Test.YthglnmhcgagkdaaD3
import Derived.Test.YthglnmhcgagkdaaL0
import Derived.Deep.RegionWith
namespace Go.Proofs.Ythglnmhcgagkdaa
open Go.RowKit
theorem flowI_length (nn : Int) (L : List Arc) (f t : Int) : (flowI nn L f t).length ≤ L.length := by
  unfold flowI
  split
  · rename_i h
    have hN : netOkB ⟨nn, L⟩ = true := by unfold apartB nodesInB at h; simp only [Bool.and_eq_true] at h; exact h.1.1
    have hs := apart_split nn L f t hN
    rw [h] at hs
    simp [inR] at hs
    have hne : f ≠ t := by
      intro e
      have := hs.2
      simp [e] at this
    exact Nat.le_of_eq (flowI_ok hN ⟨hs.1.1.1, by omega⟩ hne).1.len
  · simp
def DrawnFV (w : World) (e : Ending) (w' : World) : Prop := ∃ (nn : Int) (A : Option Addr) (cA : Nat) (L : List Arc) (B : Option Addr) (cB : Nat) (F : List Int) (f t : Int),
  e = .returned (.tuple #[.agg #[.int .i64 nn, .slice A L.length cA], .slice B F.length cB, .int .i64 f, .int .i64 t]) ∧ ArcsAt w' A L ∧ L.length ≤ 14 ∧ IntsAt w' B F ∧ F.length ≤ 20 ∧ Below w.heap.size w w'
structure FVSt (w : World) (g nb base : Nat) (nn : Int) (vA : Value) (L : List Arc) (vF : Value) (F : List Int) (W : World) (q : Int) : Prop where
  Z : Blk W w.heap.size #[.int .i64 0, .slice none 0 0] 34
  N : Blk W nb #[.int .i64 nn, vA] 34
  A : OA W (g + 1) vA L
  F : OI W base vF F
  R : RdAt W g q
  H : Below w.heap.size w W
  o1 : w.heap.size < g
  o2 : g < nb
  o3 : nb < base
  o4 : base ≤ W.heap.size
theorem FVSt.grown {w : World} {g nb base : Nat} {nn : Int} {vA : Value} {L : List Arc} {vF : Value} {F : List Int} {W W1 : World} {q q' : Int} (h : FVSt w g nb base nn vA L vF F W q) (hg : W.grownBy W1 (some g)) (hr : RdAt W1 g q') : FVSt w g nb base nn vA L vF F W1 q' := by
  have o1 := h.o1; have o2 := h.o2; have o3 := h.o3
  exact ⟨h.Z.grown hg (fun e => by injection e with e; omega), h.N.grown hg (fun e => by injection e with e; omega), h.A.grown hg (Nat.lt_succ_self g), h.F.grown hg (by omega), hr, gb_below_new h.H hg (by omega), o1, o2, o3, Nat.le_trans h.o4 hg.size⟩
theorem FVSt.alloc {w : World} {g nb base : Nat} {nn : Int} {vA : Value} {L : List Arc} {vF : Value} {F : List Int} {W : World} {q : Int} (h : FVSt w g nb base nn vA L vF F W q) (o : Obj) : FVSt w g nb base nn vA L vF F (W.alloc o) q :=
  ⟨h.Z.alloc o, h.N.alloc o, h.A.below (below_new _ _), h.F.below (below_new _ _), h.R.below (below_new _ _), below_alloc h.H o, h.o1, h.o2, h.o3, by simp; exact Nat.le_succ_of_le h.o4⟩
theorem FVSt.drew {w : World} {g nb base : Nat} {nn : Int} {vA : Value} {L : List Arc} {vF : Value} {F : List Int} {W : World} {q : Int} (h : FVSt w g nb base nn vA L vF F W q) : FVSt w g nb base nn vA L vF F W.drew q :=
  ⟨h.Z.drewN 1, h.N.drewN 1, own_move h.A (fun _ _ _ _ => rfl), own_move h.F (fun _ _ _ _ => rfl), h.R.drewN 1, ⟨h.H.os, h.H.tape, h.H.output, h.H.size, h.H.block⟩, h.o1, h.o2, h.o3, h.o4⟩
theorem FVSt.setF {w : World} {g nb base : Nat} {nn : Int} {vA : Value} {L : List Arc} {gf n cF : Nat} {F : List Int} {W : World} {q : Int} (h : FVSt w g nb base nn vA L (.slice (some ⟨gf, 0, none⟩) n cF) F W q) (i : Nat) (x : Int) : FVSt w g nb base nn vA L (.slice (some ⟨gf, 0, none⟩) n cF) (F.set i x) (W.setCell ⟨gf, i, none⟩ (.int .i64 x)) q := by
  have o1 := h.o1; have o2 := h.o2; have o3 := h.o3
  have hb : base ≤ gf := (own_ge h.F gf rfl).1
  refine ⟨h.Z.far (p := ⟨gf, i, none⟩) (by show w.heap.size ≠ gf; omega) _, h.N.far (p := ⟨gf, i, none⟩) (by show nb ≠ gf; omega) _, own_far h.A (p := ⟨gf, i, none⟩) (fun e => own_apart h.A h.F (by decide) gf e rfl) _, h.F.set' i x, h.R.gb (grown_set W gf i _) (fun k hk => by injection hk with hk; omega), h.H.setCell (p := ⟨gf, i, none⟩) (by show w.heap.size ≤ gf; omega) _, o1, o2, o3, by simpa using h.o4⟩
theorem FVSt.app {w : World} {g nb base : Nat} {nn : Int} {vA : Value} {L : List Arc} {vF vF' : Value} {F F' : List Int} {W W' : World} {q : Int} (h : FVSt w g nb base nn vA L vF F W q) (hO : OI W' base vF' F') (hg : W.grownBy W' vF.ownBlock) : FVSt w g nb base nn vA L vF' F' W' q := by
  have o1 := h.o1; have o2 := h.o2; have o3 := h.o3
  have hb : ∀ k, vF.ownBlock = some k → base ≤ k := fun k hk => (own_ge h.F k hk).1
  refine ⟨h.Z.grown hg (fun e => by have := hb _ e.symm; omega), h.N.grown hg (fun e => by have := hb _ e.symm; omega), own_move h.A (fun k hk _ hs => hg.block k hs (fun e => own_apart h.A h.F (by decide) k hk e.symm)), hO, h.R.gb hg (fun k hk => by have := hb k hk; omega), below_gb h.H hg (fun k hk => by have := hb k hk; omega), o1, o2, o3, Nat.le_trans h.o4 hg.size⟩
theorem FVSt.fin {w : World} {g nb base : Nat} {nn : Int} {A : Option Addr} {cA : Nat} {L : List Arc} {vF : Value} {F : List Int} {W : World} {q : Int} (h : FVSt w g nb base nn (.slice A L.length cA) L vF F W q) :
    ∃ B cB, vF = .slice B F.length cB ∧ Blk ((W.setCell ⟨w.heap.size, 0, none⟩ (.int .i64 nn)).setCell ⟨w.heap.size, 1, none⟩ (.slice A L.length cA)) w.heap.size #[.int .i64 nn, .slice A L.length cA] 34 ∧
      ArcsAt ((W.setCell ⟨w.heap.size, 0, none⟩ (.int .i64 nn)).setCell ⟨w.heap.size, 1, none⟩ (.slice A L.length cA)) A L ∧ IntsAt ((W.setCell ⟨w.heap.size, 0, none⟩ (.int .i64 nn)).setCell ⟨w.heap.size, 1, none⟩ (.slice A L.length cA)) B F ∧
      Below w.heap.size w ((W.setCell ⟨w.heap.size, 0, none⟩ (.int .i64 nn)).setCell ⟨w.heap.size, 1, none⟩ (.slice A L.length cA)) := by
  have o1 := h.o1; have o2 := h.o2; have o3 := h.o3
  have hA := own_far (own_far h.A (p := ⟨w.heap.size, 0, none⟩) (own_ne_blk h.A h.Z (by decide)) (.int .i64 nn)) (p := ⟨w.heap.size, 1, none⟩) (own_ne_blk h.A h.Z (by decide)) (.slice A L.length cA)
  have hF := own_far (own_far h.F (p := ⟨w.heap.size, 0, none⟩) (own_ne_blk h.F h.Z (by decide)) (.int .i64 nn)) (p := ⟨w.heap.size, 1, none⟩) (own_ne_blk h.F h.Z (by decide)) (.slice A L.length cA)
  obtain ⟨B, cB, e, _, hB⟩ := OI.shape hF
  obtain ⟨A', cA', e', _, hA'⟩ := OA.shape hA
  injection e' with e1 e2 e3
  subst e1
  refine ⟨B, cB, e, ?_, hA', hB, (h.H.setCell (p := ⟨w.heap.size, 0, none⟩) (Nat.le_refl _) _).setCell (p := ⟨w.heap.size, 1, none⟩) (Nat.le_refl _) _⟩
  have := (h.Z.set 0 (.int .i64 nn)).set 1 (.slice A L.length cA)
  simpa using this
/-- The number in a cell. -/
def cellInt (w : World) (p : Addr) : Int := match w.cell? p with | some (.int _ n) => n | _ => 0
theorem cellInt_of {w : World} {p : Addr} {x : Int} (h : w.cell? p = some (.int .i64 x)) : cellInt w p = x := by unfold cellInt; rw [h]
theorem held_int {w : World} {p : Addr} {x : Int} (h : w.cell? p = some (.int .i64 x)) : w.cell? p = some (.int .i64 (cellInt w p)) := by
  unfold cellInt; rw [h]
theorem cell_set_self {w : World} {g i : Nat} {u : Value} (h : w.cell? ⟨g, i, none⟩ = some u) (v : Value) : (w.setCell ⟨g, i, none⟩ v).cell? ⟨g, i, none⟩ = some v := by
  unfold World.cell? at h ⊢
  unfold World.setCell
  simp only [Array.getElem?_modify, if_true]
  cases hg : w.heap[g]? with
  | none => simp [hg] at h
  | some o =>
    cases o <;> simp [hg] at h ⊢
    rw [Array.getElem?_setIfInBounds_self_of_lt]
    exact (Array.getElem?_eq_some_iff.1 h).1
theorem held_set {w : World} {g i : Nat} {u : Value} (h : w.cell? ⟨g, i, none⟩ = some u) (y : Int) : (w.setCell ⟨g, i, none⟩ (.int .i64 y)).cell? ⟨g, i, none⟩ = some (.int .i64 (cellInt (w.setCell ⟨g, i, none⟩ (.int .i64 y)) ⟨g, i, none⟩)) := held_int (cell_set_self h _)
theorem results_cell_tmp2 {fn : Func} {p u x : Tmp} {ty : TypeId} (h : fn.results = #[.cell p ty, .tmp u, .tmp x]) (tmps : Array Value) (P : Program) (w : World) :
    (results fn tmps).run P w =
      ((asAddr (tmps.getD p undef)).run P w).andThen fun a w₁ => ((loadVar ty a).run P w₁).andThen fun v w₂ => .ok (.tuple #[v, tmps.getD u undef, tmps.getD x undef]) w₂ := by
  simp only [results, h]
  simp [Sem.run_bind, Result.andThen]
theorem results_cell_tmp3 {fn : Func} {p u x y : Tmp} {ty : TypeId} (h : fn.results = #[.cell p ty, .tmp u, .tmp x, .tmp y]) (tmps : Array Value) (P : Program) (w : World) :
    (results fn tmps).run P w =
      ((asAddr (tmps.getD p undef)).run P w).andThen fun a w₁ => ((loadVar ty a).run P w₁).andThen fun v w₂ => .ok (.tuple #[v, tmps.getD u undef, tmps.getD x undef, tmps.getD y undef]) w₂ := by
  simp only [results, h]
  simp [Sem.run_bind, Result.andThen]
theorem bytes_below {w w' : World} {A : Option Addr} {n : Nat} (h : BytesAt w A n) (hb : Below w.heap.size w w') : BytesAt w' A n := fun hp => by
  obtain ⟨g, o, e, hg, hcell⟩ := h hp
  refine ⟨g, o, e, Nat.lt_of_lt_of_le hg hb.size, fun i hi => ?_⟩
  obtain ⟨b, h1, h2, h3⟩ := hcell i hi
  exact ⟨b, h1, h2, (cell_keep (hb.block g hg) _).trans h3⟩
set_option maxHeartbeats 2000000 in
set_option maxRecDepth 100000 in
theorem c_DrawFlowValue (A0 : Option Addr) (n c : Nat) (w : World) (h : BytesAt w A0 n) (hn : n ≤ 1048576) (hc : n ≤ c) :
    Calls Try.prog 17 #[.slice A0 n c] w (DrawnFV w) := by
  have h1 := bytes_below h (below_new w (.cells #[.int .i64 0, .slice none 0 0] 34))
  have B0 := Blk.new w #[.int .i64 0, .slice none 0 0] 34
  go_enter Try.func17, Try.ntmps17
  go_wp2_with fail
  refine (c_Open A0 n c _ h1 hn hc).mono ?_
  rintro e w1 ⟨rfl, hr1, hb1⟩
  have HB1 := below_of (below_new w _) hb1
  have B1 := B0.below hb1
  obtain ⟨g, hgd⟩ : ∃ g, g = (w.alloc (.cells #[.int .i64 0, .slice none 0 0] 34)).heap.size := ⟨_, rfl⟩
  have hg0 : w.heap.size < g := by rw [hgd]; simp
  rw [← hgd] at hr1 ⊢
  clear hb1 h h1 hgd B0
  have hl1 := hr1.lt
  go_wp2_with fail
  refine (c_AnyNet g 0 _ hr1 (by omega) (by omega)).mono ?_
  rintro e w2 ⟨nn, v, L, rfl, hn0, hn9, hO, hL, q, hq0, hq1, hr2, hg2⟩
  have HB2 := gb_below_new HB1 hg2 (by omega)
  have B2 := B1.grown hg2 (fun e => by injection e with e; omega)
  have hs2 := hg2.size
  obtain ⟨A, cA, rfl, hcA, _⟩ := hO.shape
  have hO2 : OA w2 (g + 1) (.slice A L.length cA) L := own_lower hO (by omega)
  clear hg2 B1 HB1 hr1 hO
  have S2 : FVSt w g w2.heap.size (w2.heap.size + 1) nn (.slice A L.length cA) L (.slice none 0 0) [] (w2.alloc (.cells #[.int .i64 nn, .slice A L.length cA] 34)) q :=
    ⟨B2.alloc _, Blk.new _ _ _, hO2.below (below_new _ _), OI.nil _ _, hr2.below (below_new _ _), below_alloc HB2 _, hg0, by omega, by omega, by simp⟩
  clear HB2 B2 hO2 hr2
  obtain ⟨b0, b1⟩ := S2.N.cells2
  go_wp2_with fail
  generalize w2.alloc (.cells #[.int .i64 nn, .slice A L.length cA] 34) = W3 at *
  generalize w2.heap.size = nb at *
  refine (c_Node g q W3 nn (.slice A L.length cA) ⟨_, _, _, rfl⟩ S2.R (by omega) (by omega) hn0 hn9).mono ?_
  rintro e w4 ⟨f, rfl, q4, hq40, hq41, hr4, hg4⟩
  have S4 := S2.grown hg4 hr4
  clear hr4 hg4 b0 b1 S2
  obtain ⟨b0, b1⟩ := S4.N.cells2
  go_wp2_with fail
  refine (c_Node g q4 w4 nn (.slice A L.length cA) ⟨_, _, _, rfl⟩ S4.R (by omega) (by omega) hn0 hn9).mono ?_
  rintro e w5 ⟨t, rfl, q5, hq50, hq51, hr5, hg5⟩
  have S5 := S4.grown hg5 hr5
  clear hr5 hg5 b0 b1 S4
  obtain ⟨b0, b1⟩ := S5.N.cells2
  have hA5 : ArcsAt w5 A L := by
    obtain ⟨A', cA', e', _, hA'⟩ := OA.shape S5.A
    injection e' with e1 e2 e3
    subst e1
    exact hA'
  go_wp2_with fail
  refine (c_specFlowOf A cA nn L f t w5 hA5 (by omega)).mono ?_
  rintro e w6 ⟨vF, rfl, hO6, hb6⟩
  have hfl := flowI_length nn L f t
  generalize flowI nn L f t = F at *
  have S6 : FVSt w g nb (nb + 1) nn (.slice A L.length cA) L vF F w6 q5 :=
    ⟨S5.Z.below hb6, S5.N.below hb6, S5.A.below hb6, own_lower hO6 (Nat.succ_le_of_lt S5.N.lt), S5.R.below hb6, below_of S5.H hb6, S5.o1, S5.o2, by omega, Nat.le_trans (Nat.succ_le_of_lt S5.N.lt) hb6.size⟩
  clear hO6 hb6 b0 b1 S5 hA5
  have hF14 : F.length ≤ 14 := by omega
  obtain ⟨B, cB, rfl, hcB, _⟩ := OI.shape S6.F
  by_cases hp : 0 < F.length
  focus
    have hpI : (0 : Int) < (F.length : Int) := by omega
    go_wp2_with fail
    refine (c_pick g q5 3 w6 S6.R (by omega) (by omega) (by omega) (by omega)).mono ?_
    rintro e w7 ⟨k3, rfl, hk0, _, hr7, hg7⟩
    have S7 := S6.grown hg7 hr7
    have hq7 : 0 ≤ q5 + 1 ∧ q5 + 1 ≤ 300 := by omega
    clear hr7 hg7 S6
    generalize q5 + 1 = q7 at *
    by_cases hk : k3 = 0
    focus
      subst hk
      go_wp2_with fail
      refine (c_pick g q7 F.length w7 S7.R (by omega) (by omega) (by omega) (by omega)).mono ?_
      rintro e w8 ⟨k, rfl, hk0, hk1, hr8, hg8⟩
      have S8 := S7.grown hg8 hr8
      have hk1 := hk1 (by omega)
      obtain ⟨kk, rfl⟩ := Int.eq_ofNat_of_zero_le hk0
      have hkF : kk < F.length := by omega
      obtain ⟨gf, cap, e, hbf, hgf, hfc, hff⟩ := S8.F.at hp
      injection e with e1 e2 e3
      subst e1
      have HS8 := Lib.hid S8
      have fc := hfc kk hkF
      have ff := hff kk
      clear hr8 hg8 S7 S8 hfc hff e2 e3
      obtain ⟨fv, hfv⟩ : ∃ y, y = F.getD kk 0 := ⟨_, rfl⟩
      rw [← hfv] at fc
      clear hfv
      go_wp2_with fail
      have hgs : gf < (w8.alloc (.cells #[.int .i64 1, .int .i64 (-1)] 3)).drew.heap.size := by simp; omega
      have HS9 := Lib.hid ((HS8.out.alloc (.cells #[.int .i64 1, .int .i64 (-1)] 3)).drew)
      have hgg : g < gf := by have := HS8.out.o2; omega
      have hqq : 0 ≤ q7 + 1 ∧ q7 + 1 ≤ 400 := by omega
      have c8 : (w8.alloc (.cells #[.int .i64 1, .int .i64 (-1)] 3)).cell? ⟨gf, kk, none⟩ = some (.int .i64 fv) := (cell_keep (Below.heap_alloc w8 _ gf hgf) kk).trans fc
      have fcd : w8.drew.cell? ⟨gf, kk, none⟩ = some (.int .i64 fv) := fc
      have c8d : (w8.alloc (.cells #[.int .i64 1, .int .i64 (-1)] 3)).drew.cell? ⟨gf, kk, none⟩ = some (.int .i64 fv) := c8
      go_region_with ((go_at_call 62; refine (c_one g (q7 + 1) _ 2 [1, -1] _ HS9.out.R (by omega) (by omega) (IntsAt.drew (IntsAt.lit w8 [1, -1])) (by simp) (by simp) (fun a ha => by injection ha with ha; subst ha; show w8.heap.size ≠ g; omega)).mono ?_; rintro e w5 ⟨y, rfl, _, hr5, hg5⟩; have HS6 := Lib.hid (HS9.out.grown hg5 hr5); have f5 := frozen_keep (hg5.block gf hgs (by simp; omega)) ((frozen_keep (Below.heap_alloc w8 (.cells #[.int .i64 1, .int .i64 (-1)] 3) gf hgf) ff)); have c5 := (cell_keep (hg5.block gf hgs (by simp; omega)) kk).trans c8; clear hr5))
      all_goals
        have S7 := HS6.out.setF kk (IntKind.i64.wrap (fv + y))
        have hF7 : (F.set kk (IntKind.i64.wrap (fv + y))).length = F.length := List.length_set
        have hq9 : 0 ≤ q7 + 1 + 1 ∧ q7 + 1 + 1 ≤ 500 := by omega
        generalize F.set kk (IntKind.i64.wrap (fv + y)) = F7 at *
        generalize w5.setCell ⟨gf, kk, none⟩ (.int .i64 (IntKind.i64.wrap (fv + y))) = W7 at *
        generalize q7 + 1 + 1 = q9 at *
        clear hg5 HS6 f5 c5 HS9 HS8 c8 fc ff hgs
        go_wp2_with fail
        have hn1 : ¬ (nb = w.heap.size) := by have := S7.o1; have := S7.o2; omega
        refine (c_pick g q9 14 W7 S7.R (by omega) (by omega) (by omega) (by omega)).mono ?_
        rintro e w9 ⟨k9, rfl, hk90, _, hr9, hg9⟩
        have S9 := S7.grown hg9 hr9
        clear hr9 hg9 S7
        obtain ⟨b0, b1⟩ := S9.N.cells2
        obtain ⟨z0, z1⟩ := S9.Z.cells2
        have y0 := S9.Z.frozen 0
        have y1 := S9.Z.frozen 1
        by_cases h0 : k9 = 0
        · subst h0
          go_wp2_with fail
          have HS9 := Lib.hid S9
          have hbs := S9.N.lt
          have hzs := S9.Z.lt
          have HLA : Hid (IntsAt (w9.alloc (.cells #[.int .i64 0] 3)).drew (some ⟨w9.heap.size, 0, none⟩) [0]) := IntsAt.drew (IntsAt.lit w9 [0])
          have HOO : Hid (OI (w9.alloc (.cells #[.int .i64 0] 3)).drew (nb + 1) (.slice (some ⟨gf, 0, none⟩) F.length cB) F7) := (S9.alloc _).drew.F
          have hlen : F7.length + [(0 : Int)].length ≤ 1000000000 := by simp; omega
          have hsz9 : nb + 1 ≤ (w9.alloc (.cells #[.int .i64 0] 3)).drew.heap.size := (S9.alloc _).drew.o4
          have HSD := Lib.hid (S9.alloc (.cells #[.int .i64 0] 3)).drew
          clear S9
          go_region_held3 (fun w' => w'.cell? ⟨nb, 0, none⟩ = some (.int .i64 nn) ∧ w'.cell? ⟨nb, 1, none⟩ = some (.slice A L.length cA)) (first | go_keep | exact ⟨(cell_keep (Below.heap_setCell _ _ _ _ hn1) _).trans ((cell_keep (Below.heap_setCell _ _ _ _ hn1) _).trans b0'), (cell_keep (Below.heap_setCell _ _ _ _ hn1) _).trans ((cell_keep (Below.heap_setCell _ _ _ _ hn1) _).trans b1')⟩) ((first | (refine step_app_ints (by rfl) (nb + 1) _ _ (by rfl) (.slice (some ⟨gf, 0, none⟩) F.length cB) F7 [0] (some ⟨w9.heap.size, 0, none⟩) 1 (by rfl) (by rfl) HLA.out HOO.out hsz9 hlen ?_; intro v1 w10 hO1 hg1 hat1; have S10 := HSD.out.app hO1 hg1; obtain ⟨z0', z1'⟩ := S10.Z.cells2; have y0' := S10.Z.frozen 0; have y1' := S10.Z.frozen 1; obtain ⟨b0', b1'⟩ := S10.N.cells2; have HS10 := Lib.hid S10; clear S10)))
          rename_i hHeld
          clear hHeld
          obtain ⟨B', cB', eB, Z', hA', hB', hb'⟩ := HS10.out.fin
          subst eB
          have HZ' := Lib.hid Z'
          have HA' := Lib.hid hA'
          have HB' := Lib.hid hB'
          have Hb' := Lib.hid hb'
          have hl10 : (F7 ++ [0]).length ≤ 20 := by simp; omega
          clear Z' hA' hB' hb' hO1 hg1 hat1 b0' b1' z0' z1' y0' y1' b0 b1 z0 z1 y0 y1 HS10 HSD HOO HLA
          go_wp2_with fail
          obtain ⟨r0, r1⟩ := HZ'.out.cells2
          refine bodyPost_ret (v := .tuple #[.agg #[.int .i64 nn, .slice A L.length cA], .slice B' (F7 ++ [0]).length cB', .int .i64 f, .int .i64 t]) ?_ rfl ⟨nn, A, cA, L, B', cB', F7 ++ [0], f, t, rfl, HA'.out, hL, HB'.out, hl10, Hb'.out⟩
          rw [results_cell_tmp3 (p := 2) (u := 3) (x := 4) (y := 5) (ty := 34) rfl]
          simp [go_sem, r0, r1]
        · have h0' : (k9 == 0) = false := by simpa using h0
          obtain ⟨B', cB', eB, Z', hA', hB', hb'⟩ := S9.fin
          injection eB with eB1 eB2 eB3
          subst eB1 eB3
          have HZ' := Lib.hid Z'
          have HA' := Lib.hid hA'
          have HB' := Lib.hid hB'
          have Hb' := Lib.hid hb'
          clear Z' hA' hB' hb' S9 h0 eB2
          go_wp2_with fail
          obtain ⟨r0, r1⟩ := HZ'.out.cells2
          refine bodyPost_ret (v := .tuple #[.agg #[.int .i64 nn, .slice A L.length cA], .slice (some ⟨gf, 0, none⟩) F.length cB, .int .i64 f, .int .i64 t]) ?_ rfl ⟨nn, A, cA, L, _, cB, F7, f, t, by rw [hF7], HA'.out, hL, HB'.out, by omega, Hb'.out⟩
          rw [results_cell_tmp3 (p := 2) (u := 3) (x := 4) (y := 5) (ty := 34) rfl]
          simp [go_sem, r0, r1]
    have hk' : (k3 == 0) = false := by simpa using hk
    go_wp2_with fail
    obtain ⟨q9, hq9e⟩ : ∃ q9, q9 = q7 := ⟨_, rfl⟩
    rw [← hq9e] at S7
    have hq9 : 0 ≤ q9 ∧ q9 ≤ 500 := by omega
    obtain ⟨F7, hF7e⟩ : ∃ F7, F7 = F := ⟨_, rfl⟩
    have hF7 : F7.length = F.length := by rw [hF7e]
    have S7 : FVSt w g nb (nb + 1) nn (.slice A L.length cA) L (.slice B F.length cB) F7 w7 q9 := by rw [hF7e]; exact S7
    clear hF7e hq9e
    obtain ⟨W7, hW7⟩ : ∃ W, W = w7 := ⟨_, rfl⟩
    subst hW7
    have hn1 : ¬ (nb = w.heap.size) := by have := S7.o1; have := S7.o2; omega
    refine (c_pick g q9 14 W7 S7.R (by omega) (by omega) (by omega) (by omega)).mono ?_
    rintro e w9 ⟨k9, rfl, hk90, _, hr9, hg9⟩
    have S9 := S7.grown hg9 hr9
    clear hr9 hg9 S7
    obtain ⟨b0, b1⟩ := S9.N.cells2
    obtain ⟨z0, z1⟩ := S9.Z.cells2
    have y0 := S9.Z.frozen 0
    have y1 := S9.Z.frozen 1
    by_cases h0 : k9 = 0
    · subst h0
      go_wp2_with fail
      have HS9 := Lib.hid S9
      have hbs := S9.N.lt
      have hzs := S9.Z.lt
      have HLA : Hid (IntsAt (w9.alloc (.cells #[.int .i64 0] 3)).drew (some ⟨w9.heap.size, 0, none⟩) [0]) := IntsAt.drew (IntsAt.lit w9 [0])
      have HOO : Hid (OI (w9.alloc (.cells #[.int .i64 0] 3)).drew (nb + 1) (.slice B F.length cB) F7) := (S9.alloc _).drew.F
      have hlen : F7.length + [(0 : Int)].length ≤ 1000000000 := by simp; omega
      have hsz9 : nb + 1 ≤ (w9.alloc (.cells #[.int .i64 0] 3)).drew.heap.size := (S9.alloc _).drew.o4
      have HSD := Lib.hid (S9.alloc (.cells #[.int .i64 0] 3)).drew
      clear S9
      go_region_held3 (fun w' => w'.cell? ⟨nb, 0, none⟩ = some (.int .i64 nn) ∧ w'.cell? ⟨nb, 1, none⟩ = some (.slice A L.length cA)) (first | go_keep | exact ⟨(cell_keep (Below.heap_setCell _ _ _ _ hn1) _).trans ((cell_keep (Below.heap_setCell _ _ _ _ hn1) _).trans b0'), (cell_keep (Below.heap_setCell _ _ _ _ hn1) _).trans ((cell_keep (Below.heap_setCell _ _ _ _ hn1) _).trans b1')⟩) ((first | (refine step_app_ints (by rfl) (nb + 1) _ _ (by rfl) (.slice B F.length cB) F7 [0] (some ⟨w9.heap.size, 0, none⟩) 1 (by rfl) (by rfl) HLA.out HOO.out hsz9 hlen ?_; intro v1 w10 hO1 hg1 hat1; have S10 := HSD.out.app hO1 hg1; obtain ⟨z0', z1'⟩ := S10.Z.cells2; have y0' := S10.Z.frozen 0; have y1' := S10.Z.frozen 1; obtain ⟨b0', b1'⟩ := S10.N.cells2; have HS10 := Lib.hid S10; clear S10)))
      rename_i hHeld
      clear hHeld
      obtain ⟨B', cB', eB, Z', hA', hB', hb'⟩ := HS10.out.fin
      subst eB
      have HZ' := Lib.hid Z'
      have HA' := Lib.hid hA'
      have HB' := Lib.hid hB'
      have Hb' := Lib.hid hb'
      have hl10 : (F7 ++ [0]).length ≤ 20 := by simp; omega
      clear Z' hA' hB' hb' hO1 hg1 hat1 b0' b1' z0' z1' y0' y1' b0 b1 z0 z1 y0 y1 HS10 HSD HOO HLA
      go_wp2_with fail
      obtain ⟨r0, r1⟩ := HZ'.out.cells2
      refine bodyPost_ret (v := .tuple #[.agg #[.int .i64 nn, .slice A L.length cA], .slice B' (F7 ++ [0]).length cB', .int .i64 f, .int .i64 t]) ?_ rfl ⟨nn, A, cA, L, B', cB', F7 ++ [0], f, t, rfl, HA'.out, hL, HB'.out, hl10, Hb'.out⟩
      rw [results_cell_tmp3 (p := 2) (u := 3) (x := 4) (y := 5) (ty := 34) rfl]
      simp [go_sem, r0, r1]
    · have h0' : (k9 == 0) = false := by simpa using h0
      obtain ⟨B', cB', eB, Z', hA', hB', hb'⟩ := S9.fin
      injection eB with eB1 eB2 eB3
      subst eB1 eB3
      have HZ' := Lib.hid Z'
      have HA' := Lib.hid hA'
      have HB' := Lib.hid hB'
      have Hb' := Lib.hid hb'
      clear Z' hA' hB' hb' S9 h0 eB2
      go_wp2_with fail
      obtain ⟨r0, r1⟩ := HZ'.out.cells2
      refine bodyPost_ret (v := .tuple #[.agg #[.int .i64 nn, .slice A L.length cA], .slice B F.length cB, .int .i64 f, .int .i64 t]) ?_ rfl ⟨nn, A, cA, L, B, cB, F7, f, t, by rw [hF7], HA'.out, hL, HB'.out, by omega, Hb'.out⟩
      rw [results_cell_tmp3 (p := 2) (u := 3) (x := 4) (y := 5) (ty := 34) rfl]
      simp [go_sem, r0, r1]
  have hpI : ¬ (0 : Int) < (F.length : Int) := by omega
  go_wp2_with fail
  obtain ⟨q9, hq9e⟩ : ∃ q9, q9 = q5 := ⟨_, rfl⟩
  rw [← hq9e] at S6
  have hq9 : 0 ≤ q9 ∧ q9 ≤ 500 := by omega
  obtain ⟨F7, hF7e⟩ : ∃ F7, F7 = F := ⟨_, rfl⟩
  have hF7 : F7.length = F.length := by rw [hF7e]
  have S7 : FVSt w g nb (nb + 1) nn (.slice A L.length cA) L (.slice B F.length cB) F7 w6 q9 := by rw [hF7e]; exact S6
  clear hF7e hq9e
  obtain ⟨W7, hW7⟩ : ∃ W, W = w6 := ⟨_, rfl⟩
  subst hW7
  have hn1 : ¬ (nb = w.heap.size) := by have := S7.o1; have := S7.o2; omega
  refine (c_pick g q9 14 W7 S7.R (by omega) (by omega) (by omega) (by omega)).mono ?_
  rintro e w9 ⟨k9, rfl, hk90, _, hr9, hg9⟩
  have S9 := S7.grown hg9 hr9
  clear hr9 hg9 S7
  obtain ⟨b0, b1⟩ := S9.N.cells2
  obtain ⟨z0, z1⟩ := S9.Z.cells2
  have y0 := S9.Z.frozen 0
  have y1 := S9.Z.frozen 1
  by_cases h0 : k9 = 0
  · subst h0
    go_wp2_with fail
    have HS9 := Lib.hid S9
    have hbs := S9.N.lt
    have hzs := S9.Z.lt
    have HLA : Hid (IntsAt (w9.alloc (.cells #[.int .i64 0] 3)).drew (some ⟨w9.heap.size, 0, none⟩) [0]) := IntsAt.drew (IntsAt.lit w9 [0])
    have HOO : Hid (OI (w9.alloc (.cells #[.int .i64 0] 3)).drew (nb + 1) (.slice B F.length cB) F7) := (S9.alloc _).drew.F
    have hlen : F7.length + [(0 : Int)].length ≤ 1000000000 := by simp; omega
    have hsz9 : nb + 1 ≤ (w9.alloc (.cells #[.int .i64 0] 3)).drew.heap.size := (S9.alloc _).drew.o4
    have HSD := Lib.hid (S9.alloc (.cells #[.int .i64 0] 3)).drew
    clear S9
    go_region_held3 (fun w' => w'.cell? ⟨nb, 0, none⟩ = some (.int .i64 nn) ∧ w'.cell? ⟨nb, 1, none⟩ = some (.slice A L.length cA)) (first | go_keep | exact ⟨(cell_keep (Below.heap_setCell _ _ _ _ hn1) _).trans ((cell_keep (Below.heap_setCell _ _ _ _ hn1) _).trans b0'), (cell_keep (Below.heap_setCell _ _ _ _ hn1) _).trans ((cell_keep (Below.heap_setCell _ _ _ _ hn1) _).trans b1')⟩) ((first | (refine step_app_ints (by rfl) (nb + 1) _ _ (by rfl) (.slice B F.length cB) F7 [0] (some ⟨w9.heap.size, 0, none⟩) 1 (by rfl) (by rfl) HLA.out HOO.out hsz9 hlen ?_; intro v1 w10 hO1 hg1 hat1; have S10 := HSD.out.app hO1 hg1; obtain ⟨z0', z1'⟩ := S10.Z.cells2; have y0' := S10.Z.frozen 0; have y1' := S10.Z.frozen 1; obtain ⟨b0', b1'⟩ := S10.N.cells2; have HS10 := Lib.hid S10; clear S10)))
    rename_i hHeld
    clear hHeld
    obtain ⟨B', cB', eB, Z', hA', hB', hb'⟩ := HS10.out.fin
    subst eB
    have HZ' := Lib.hid Z'
    have HA' := Lib.hid hA'
    have HB' := Lib.hid hB'
    have Hb' := Lib.hid hb'
    have hl10 : (F7 ++ [0]).length ≤ 20 := by simp; omega
    clear Z' hA' hB' hb' hO1 hg1 hat1 b0' b1' z0' z1' y0' y1' b0 b1 z0 z1 y0 y1 HS10 HSD HOO HLA
    go_wp2_with fail
    obtain ⟨r0, r1⟩ := HZ'.out.cells2
    refine bodyPost_ret (v := .tuple #[.agg #[.int .i64 nn, .slice A L.length cA], .slice B' (F7 ++ [0]).length cB', .int .i64 f, .int .i64 t]) ?_ rfl ⟨nn, A, cA, L, B', cB', F7 ++ [0], f, t, rfl, HA'.out, hL, HB'.out, hl10, Hb'.out⟩
    rw [results_cell_tmp3 (p := 2) (u := 3) (x := 4) (y := 5) (ty := 34) rfl]
    simp [go_sem, r0, r1]
  · have h0' : (k9 == 0) = false := by simpa using h0
    obtain ⟨B', cB', eB, Z', hA', hB', hb'⟩ := S9.fin
    injection eB with eB1 eB2 eB3
    subst eB1 eB3
    have HZ' := Lib.hid Z'
    have HA' := Lib.hid hA'
    have HB' := Lib.hid hB'
    have Hb' := Lib.hid hb'
    clear Z' hA' hB' hb' S9 h0 eB2
    go_wp2_with fail
    obtain ⟨r0, r1⟩ := HZ'.out.cells2
    refine bodyPost_ret (v := .tuple #[.agg #[.int .i64 nn, .slice A L.length cA], .slice B F.length cB, .int .i64 f, .int .i64 t]) ?_ rfl ⟨nn, A, cA, L, B, cB, F7, f, t, by rw [hF7], HA'.out, hL, HB'.out, by omega, Hb'.out⟩
    rw [results_cell_tmp3 (p := 2) (u := 3) (x := 4) (y := 5) (ty := 34) rfl]
    simp [go_sem, r0, r1]
end Go.Proofs.Ythglnmhcgagkdaa
