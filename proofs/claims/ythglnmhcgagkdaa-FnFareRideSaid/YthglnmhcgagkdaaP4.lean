/- Walk: spec.l2Nodes. -/
import Derived.Test.YthglnmhcgagkdaaP3
namespace Go.Proofs.Ythglnmhcgagkdaa
open Go.RowKit
theorem kept_new {w1 w2 : World} {s : Nat} {row : Option Nat} (hg : w1.grownBy w2 row) (hr : ∀ k, row = some k → s + 1 ≤ k) (hs : s < w1.heap.size) : ∀ b j, b ≤ s → w2.cell? ⟨b, j, none⟩ = w1.cell? ⟨b, j, none⟩ :=
  fun b j hb => cell_keep (hg.block b (Nat.lt_of_le_of_lt hb hs) (fun e => by have := hr b e.symm; omega)) j
set_option maxHeartbeats 1000000 in
set_option maxRecDepth 100000 in
theorem c_l2Nodes (A : Option Addr) (cA : Nat) (nn : Int) (L : List Arc) (B : Option Addr) (cB : Nat) (ws : List Int) (u : Int) (w : World) (hA : ArcsAt w A L) (hL16 : L.length ≤ 16) (hB : IntsAt w B ws) (hz : ws.length ≤ 20) (hin : ∀ i, i < ws.length → 0 ≤ ws.getD i 0 ∧ ws.getD i 0 < L.length) (hu : u = (arcI L (ws.getD 0 0)).fr) :
    Calls Try.prog 102 #[.agg #[.int .i64 nn, .slice A L.length cA], .slice B ws.length cB, .int .i64 u] w fun e w' => ∃ v, e = .returned v ∧ OI w' w.heap.size v (nodesW L ws) ∧ Below w.heap.size w w' := by
  have B1 := Blk.new w #[.int .i64 nn, .slice A L.length cA] 34
  have hHA := Lib.hid hA
  have hHB := Lib.hid hB
  have HIN := Lib.hid hin
  have HB1 := below_new w (.cells #[.int .i64 nn, .slice A L.length cA] 34)
  have hs1 : w.heap.size + 1 ≤ (w.alloc (.cells #[.int .i64 nn, .slice A L.length cA] 34)).heap.size := by simp
  have hO := OI.lit (w.alloc (.cells #[.int .i64 nn, .slice A L.length cA] 34)) (w.heap.size + 1) [u] hs1 (by simp)
  have HO5 : Hid (OI ((w.alloc (.cells #[.int .i64 nn, .slice A L.length cA] 34)).alloc (.cells #[.int .i64 u] 3)) (w.heap.size + 1) (.slice (some ⟨w.heap.size + 1, 0, none⟩) 1 1) (nodesTo L ws 0)) := by
    show OI _ _ _ _
    rw [show nodesTo L ws 0 = [u] by rw [hu]; rfl]
    simpa [nums] using hO
  have HC5 := Lib.hid (B1.alloc (.cells #[.int .i64 u] 3))
  have HB5 := Lib.hid (below_alloc HB1 (.cells #[.int .i64 u] 3))
  clear hA hB hin hO B1 HB1 hu hs1
  go_enter Try.func102, Try.ntmps102
  go_wp2_with fail
  generalize (w.alloc (.cells #[.int .i64 nn, .slice A L.length cA] 34)).alloc (.cells #[.int .i64 u] 3) = W5 at *
  go_loopw [7, 8] (fun v7 v8 wr => ∃ k : Nat, k ≤ ws.length ∧ v8 = .int .i64 k ∧ Hid (OI wr (w.heap.size + 1) v7 (nodesTo L ws k)) ∧ Hid (Blk wr w.heap.size #[.int .i64 nn, .slice A L.length cA] 34) ∧ Hid (Below w.heap.size w wr)) (fun _ v8 _ => ws.length - (intOf v8).toNat)
  case atStart => exact ⟨0, Nat.zero_le _, rfl, HO5, HC5, HB5⟩
  case round =>
    clear HO5 HC5 HB5
    obtain ⟨k, hk, rfl, HO, HC, HB⟩ := hrel
    by_cases hlt : k < ws.length
    · have hltI : (k : Int) < (ws.length : Int) := by omega
      have hk0 : (0 : Int) ≤ (k : Int) := by omega
      obtain ⟨fg, fo, e, hfg, _⟩ := hHB.out (by omega)
      subst e
      obtain ⟨_, _, e, hfg2, hfc⟩ := (hHB.out.below HB.out) (by omega)
      injection e with e
      injection e with e1 e2
      subst e1 e2
      have xk := hfc k hlt
      clear hfc
      have hxin := HIN.out k hlt
      have hnod := nodesTo_succ (L := L) hlt
      obtain ⟨x, hx⟩ : ∃ x, x = ws.getD k 0 := ⟨_, rfl⟩
      rw [← hx] at xk hxin hnod
      clear hx
      obtain ⟨yn, rfl⟩ := Int.eq_ofNat_of_zero_le hxin.1
      have hyn0 : (0 : Int) ≤ (yn : Int) := by omega
      have hyn1 := hxin.2
      obtain ⟨g, o, e, hg, _⟩ := hHA.out.at (by omega)
      subst e
      obtain ⟨_, _, e, hg2, hac⟩ := (hHA.out.below HB.out).at (by omega)
      injection e with e
      injection e with e1 e2
      subst e1 e2
      obtain ⟨_, a1, _, _, _⟩ := hac yn (by omega)
      clear hac hxin
      have hto : (arcI L (yn : Int)).to = (L.getD yn arcD).to := by unfold arcI; simp
      obtain ⟨t, ht⟩ : ∃ t, t = (L.getD yn arcD).to := ⟨_, rfl⟩
      rw [← ht] at a1 hto
      rw [hto] at hnod
      have HNOD := Lib.hid hnod
      clear ht hto hnod
      obtain ⟨c0, c1⟩ := HC.out.cells2
      have hl1 := nodesTo_length L ws k hk
      have HROW := Lib.hid (own_row_new HO.out)
      have HOO : Hid (OI (wr.alloc (.cells #[.int .i64 t] 3)).drew (w.heap.size + 1) u7 (nodesTo L ws k)) := OI.drew (HO.out.below (below_new wr _))
      have HLA : Hid (IntsAt (wr.alloc (.cells #[.int .i64 t] 3)).drew (some ⟨wr.heap.size, 0, none⟩) [t]) := IntsAt.drew (IntsAt.lit wr [t])
      have HC3 : Hid (Blk (wr.alloc (.cells #[.int .i64 t] 3)).drew w.heap.size #[.int .i64 nn, .slice (some ⟨g, o, none⟩) L.length cA] 34) := (HC.out.alloc _).drewN 1
      have HB3 : Hid (Below w.heap.size w (wr.alloc (.cells #[.int .i64 t] 3)).drew) := below_drewN (below_alloc HB.out _) 1
      have hs4 : w.heap.size < (wr.alloc (.cells #[.int .i64 t] 3)).drew.heap.size := HC3.out.lt
      have HK1 : Hid ((wr.alloc (.cells #[.int .i64 t] 3)).drew.cell? ⟨w.heap.size, 1, none⟩ = some (.slice (some ⟨g, o, none⟩) L.length cA)) := HC3.out.cells2.2
      have HK2 : Hid ((wr.alloc (.cells #[.int .i64 t] 3)).drew.cell? ⟨fg, fo + k, none⟩ = some (.int .i64 yn)) := (cell_keep (Below.heap_alloc wr _ fg hfg2) _).trans xk
      have HK3 : Hid ((wr.alloc (.cells #[.int .i64 t] 3)).drew.cell? ⟨g, o + yn * 5 + 1, none⟩ = some (.int .i64 t)) := (cell_keep (Below.heap_alloc wr _ g hg2) _).trans a1
      clear HO HB HC
      go_wp2_with fail
      go_region_held3 (fun w' => w'.cell? ⟨w.heap.size, 1, none⟩ = some (.slice (some ⟨g, o, none⟩) L.length cA) ∧ w'.cell? ⟨fg, fo + k, none⟩ = some (.int .i64 yn) ∧ w'.cell? ⟨g, o + yn * 5 + 1, none⟩ = some (.int .i64 t)) (first | go_keep | exact kp3) ((refine step_app_ints (by rfl) (w.heap.size + 1) _ _ (by rfl) u7 (nodesTo L ws k) [t] (some ⟨wr.heap.size, 0, none⟩) 1 (by rfl) (by rfl) HLA.out HOO.out hs4 (by simp; omega) ?_; intro v1 W5 hO1 hg1 hat1; have kp := kept_new hg1 HROW.out hs4; have kp3 := (⟨(kp _ _ (Nat.le_refl _)).trans HK1.out, (kp _ _ (Nat.le_of_lt hfg)).trans HK2.out, (kp _ _ (Nat.le_of_lt hg)).trans HK3.out⟩ : _ ∧ _ ∧ _); clear kp))
      rename_i hHeld
      clear hHeld kp3 HK1 HK2 HK3 HLA xk a1 c0 c1
      have C5 := Lib.hid (HC3.out.grown hg1 (fun e => by have := HROW.out _ e.symm; omega))
      have B5 := Lib.hid (below_gb HB3.out hg1 (fun k hk => by have := HROW.out k hk; omega))
      have HO5 : Hid (OI W5 (w.heap.size + 1) v1 (nodesTo L ws (k + 1))) := by show OI _ _ _ _; rw [← HNOD.out]; exact hO1
      clear hg1 hat1 hO1 HOO HC3 HB3 HNOD HROW hs4
      go_wp2_with fail
      go_roundw
      case rel => exact ⟨k + 1, by omega, by go_num, HO5, C5, B5⟩
      case measure => simp [intOf]; omega
    · have hltI : ¬ (k : Int) < (ws.length : Int) := by omega
      have HE := Lib.hid (nodesTo_all L ws k (by omega))
      go_wp2_with fail
      go_ret
      exact ⟨_, rfl, by rw [← HE.out]; exact own_lower HO.out (Nat.le_succ _), HB.out⟩
end Go.Proofs.Ythglnmhcgagkdaa
