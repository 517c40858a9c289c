/- Walks: the nodes of a walk, both sides; l12In. -/
import Derived.Test.YthglnmhcgagkdaaP2
import Derived.Test.YthglnmhcgagkdaaL0
import Derived.Test.YthglnmhcgagkdaaG1
import Derived.Test.YthglnmhcgagkdaaL1
namespace Go.Proofs.Ythglnmhcgagkdaa
open Go.RowKit
def nodesW (L : List Arc) (ws : List Int) : List Int := (arcI L (ws.getD 0 0)).fr :: ws.map fun k => (arcI L k).to
theorem nodesW_length (L : List Arc) (ws : List Int) : (nodesW L ws).length = ws.length + 1 := by simp [nodesW]
/-- The nodes up to the k-th step. -/
def nodesTo (L : List Arc) (ws : List Int) (k : Nat) : List Int := (arcI L (ws.getD 0 0)).fr :: (ws.take k).map fun k => (arcI L k).to
theorem nodesTo_succ {L : List Arc} {ws : List Int} {k : Nat} (hk : k < ws.length) : nodesTo L ws k ++ [(arcI L (ws.getD k 0)).to] = nodesTo L ws (k + 1) := by
  unfold nodesTo
  rw [List.take_add_one, List.map_append]
  simp [hk, List.getD_eq_getElem?_getD, -List.map_take]
theorem nodesTo_all (L : List Arc) (ws : List Int) (k : Nat) (hk : k = ws.length) : nodesTo L ws k = nodesW L ws := by
  subst hk; unfold nodesTo nodesW; rw [List.take_length]
theorem nodesTo_length (L : List Arc) (ws : List Int) (k : Nat) (hk : k ≤ ws.length) : (nodesTo L ws k).length = k + 1 := by
  simp [nodesTo]; omega
set_option maxHeartbeats 400000 in
set_option maxRecDepth 100000 in
theorem c_l12In (A : Option Addr) (c : Nat) (xs : List Int) (v : Int) (w : World) (hA : IntsAt w A xs) (hl : xs.length ≤ 140737488351232) :
    Calls Try.prog 103 #[.slice A xs.length c, .int .i64 v] w fun e w' => e = .returned (.bool (hasI xs v)) ∧ w = w' := by
  have hHA := Lib.hid hA
  clear hA
  go_enter Try.func103, Try.ntmps103
  go_wp2
  go_loop [5] (fun v5 => ∃ k : Nat, k ≤ xs.length ∧ v5 = .int .i64 k ∧ Hid (∀ j, j < k → (xs.getD j 0 == v) = false)) (fun v5 => xs.length - (intOf v5).toNat)
  case atStart => exact ⟨0, Nat.zero_le _, rfl, fun j hj => absurd hj (by omega)⟩
  case round =>
    obtain ⟨k, hk, rfl, hn⟩ := hrel
    by_cases hlt : k < xs.length
    · have hltI : (k : Int) < (xs.length : Int) := by omega
      have hk0 : (0 : Int) ≤ (k : Int) := by omega
      obtain ⟨g, o, e, hg, hc⟩ := hHA.out (by omega)
      subst e
      have hx := hc k hlt
      clear hc
      obtain ⟨x, hxx⟩ : ∃ x, x = xs.getD k 0 := ⟨_, rfl⟩
      rw [← hxx] at hx
      have HX := Lib.hid hxx
      clear hxx
      by_cases e : x = v
      · have e1 : (x == v) = true := by simpa using e
        have HE := Lib.hid e1
        clear e
        go_wp2_with fail
        go_ret
        exact ⟨by rw [show hasI xs v = true from List.any_eq_true.2 ⟨xs.getD k 0, by simp [List.getD_eq_getElem?_getD, hlt], by rw [← HX.out]; exact HE.out⟩]; try rfl, rfl⟩
      · have e1 : (x == v) = false := by simpa using e
        have HE := Lib.hid e1
        clear e
        go_wp2_with fail
        go_round
        case rel =>
          refine ⟨k + 1, by omega, by go_num, fun j hj => ?_⟩
          rcases Nat.lt_succ_iff_lt_or_eq.1 hj with h | rfl
          · exact hn.out j h
          · rw [← HX.out]; exact HE.out
        case measure => simp [intOf]; omega
    · have hltI : ¬ (k : Int) < (xs.length : Int) := by omega
      have HF : Hid (hasI xs v = false) := by
        show _ = _
        unfold hasI
        rw [List.any_eq_false]
        intro x hx
        obtain ⟨i, hi, rfl⟩ := List.mem_iff_getElem.1 hx
        have := hn.out i (by omega)
        simpa [List.getD_eq_getElem?_getD, hi] using this
      go_wp2_with fail
      go_ret
      exact ⟨by rw [HF.out]; try rfl, rfl⟩
theorem app_kept {w1 w2 : World} {s n c : Nat} (hg : w1.grownBy w2 (Value.slice (some ⟨s + 1, 0, none⟩) n c).ownBlock) (hs : s < w1.heap.size) : ∀ b j, b ≤ s → w2.cell? ⟨b, j, none⟩ = w1.cell? ⟨b, j, none⟩ :=
  fun b j hb => cell_keep (hg.block b (Nat.lt_of_le_of_lt hb hs) (by simp [Value.ownBlock]; omega)) j
set_option maxHeartbeats 1000000 in
set_option maxRecDepth 100000 in
theorem c_along (A : Option Addr) (cA : Nat) (nn : Int) (L : List Arc) (B : Option Addr) (cB : Nat) (ws : List Int) (w : World) (hA : ArcsAt w A L) (hL16 : L.length ≤ 16) (hB : IntsAt w B ws) (hz : ws.length ≤ 20) (h0 : 0 < ws.length) (hin : ∀ i, i < ws.length → 0 ≤ ws.getD i 0 ∧ ws.getD i 0 < L.length) :
    Calls Try.prog 73 #[.agg #[.int .i64 nn, .slice A L.length cA], .slice B ws.length cB] w fun e w' => ∃ v, e = .returned v ∧ OI w' w.heap.size v (nodesW L ws) ∧ Below w.heap.size w w' := by
  have B1 := Blk.new w #[.int .i64 nn, .slice A L.length cA] 34
  have hHA := Lib.hid hA
  have hHB := Lib.hid hB
  have HH1 := Lib.hid (below_new w (.cells #[.int .i64 nn, .slice A L.length cA] 34))
  have HC1 := Lib.hid B1
  have HIN := Lib.hid hin
  have hs1 : w.heap.size ≤ (w.alloc (.cells #[.int .i64 nn, .slice A L.length cA] 34)).heap.size := HH1.out.size
  have HS1 := Lib.hid hs1
  clear hA hB B1 hin hs1
  go_enter Try.func73, Try.ntmps73
  go_wp2_with (at_make; go_must (refine mk_room w.heap.size rfl _ _ rfl (ws.length + 1) _ rfl rfl (by go_num) (by omega) HS1.out ?_); intro W2 hO2 hg2)
  have hO2' : OI W2 w.heap.size (.slice (some ⟨w.heap.size + 1, 0, none⟩) 0 (ws.length + 1)) [] := by simpa using hO2
  have b2 := gb_below_new0 hg2
  have HB2 := below_of HH1.out b2
  have C2 := HC1.out.below b2
  clear hO2 hg2 b2 HC1 HH1 HS1
  obtain ⟨fg, fo, e, hfg, _⟩ := hHB.out h0
  subst e
  obtain ⟨_, _, e, _, hfc⟩ := (hHB.out.below HB2) h0
  injection e with e
  injection e with e1 e2
  subst e1 e2
  have x0 := hfc 0 h0
  simp only [Nat.add_zero] at x0
  clear hfc
  have hxin := HIN.out 0 h0
  have hnod : nodesTo L ws 0 = [(arcI L (ws.getD 0 0)).fr] := rfl
  obtain ⟨x, hx⟩ : ∃ x, x = ws.getD 0 0 := ⟨_, rfl⟩
  rw [← hx] at x0 hxin hnod
  clear hx
  obtain ⟨xn, rfl⟩ := Int.eq_ofNat_of_zero_le hxin.1
  have hxn0 : (0 : Int) ≤ (xn : Int) := by omega
  have hxn1 := hxin.2
  obtain ⟨g, o, e, hg, _⟩ := hHA.out.at (by omega)
  subst e
  obtain ⟨_, _, e, _, hac⟩ := (hHA.out.below HB2).at (by omega)
  injection e with e
  injection e with e1 e2
  subst e1 e2
  obtain ⟨a0, _, _, _, _⟩ := hac xn (by omega)
  clear hac hxin
  have hfr : (arcI L (xn : Int)).fr = (L.getD xn arcD).fr := by unfold arcI; simp
  obtain ⟨u, hu⟩ : ∃ u, u = (L.getD xn arcD).fr := ⟨_, rfl⟩
  rw [← hu] at a0 hfr
  rw [hfr] at hnod
  have HNOD := Lib.hid hnod
  clear hu hfr hnod
  obtain ⟨c0, c1⟩ := C2.cells2
  have HOO : Hid (OI (W2.alloc (.cells #[.int .i64 u] 3)).drew w.heap.size (.slice (some ⟨w.heap.size + 1, 0, none⟩) 0 (ws.length + 1)) []) := OI.drew (hO2'.below (below_new W2 _))
  have HLA : Hid (IntsAt (W2.alloc (.cells #[.int .i64 u] 3)).drew (some ⟨W2.heap.size, 0, none⟩) [u]) := IntsAt.drew (IntsAt.lit W2 [u])
  have HC3 : Hid (Blk (W2.alloc (.cells #[.int .i64 u] 3)).drew w.heap.size #[.int .i64 nn, .slice (some ⟨g, o, none⟩) L.length cA] 34) := (C2.alloc _).drewN 1
  have HB3 : Hid (Below w.heap.size w (W2.alloc (.cells #[.int .i64 u] 3)).drew) := below_drewN (below_alloc HB2 _) 1
  have hs3 : w.heap.size ≤ (W2.alloc (.cells #[.int .i64 u] 3)).drew.heap.size := HB3.out.size
  have k1 : (W2.alloc (.cells #[.int .i64 u] 3)).drew.cell? ⟨w.heap.size, 1, none⟩ = some (.slice (some ⟨g, o, none⟩) L.length cA) := HC3.out.cells2.2
  have k2 : (W2.alloc (.cells #[.int .i64 u] 3)).drew.cell? ⟨fg, fo, none⟩ = some (.int .i64 xn) := (cell_keep (Below.heap_alloc W2 _ fg (Nat.lt_of_lt_of_le hfg HB2.size)) _).trans x0
  have k3 : (W2.alloc (.cells #[.int .i64 u] 3)).drew.cell? ⟨g, o + xn * 5, none⟩ = some (.int .i64 u) := (cell_keep (Below.heap_alloc W2 _ g (Nat.lt_of_lt_of_le hg HB2.size)) _).trans a0
  have hs4 : w.heap.size < (W2.alloc (.cells #[.int .i64 u] 3)).drew.heap.size := HC3.out.lt
  have K1 := Lib.hid k1
  have K2 := Lib.hid k2
  have K3 := Lib.hid k3
  clear hO2' HB2 k1 k2 k3
  go_region_held3 (fun w' => w'.cell? ⟨w.heap.size, 1, none⟩ = some (.slice (some ⟨g, o, none⟩) L.length cA) ∧ w'.cell? ⟨fg, fo, none⟩ = some (.int .i64 xn) ∧ w'.cell? ⟨g, o + xn * 5, none⟩ = some (.int .i64 u)) (first | go_keep | exact kp3) ((refine step_app_ints (by rfl) w.heap.size _ _ (by rfl) (.slice (some ⟨w.heap.size + 1, 0, none⟩) 0 (ws.length + 1)) [] [u] (some ⟨W2.heap.size, 0, none⟩) 1 (by rfl) (by rfl) HLA.out HOO.out hs3 (by simp) ?_; intro v1 W5 hO1 hg1 hat1; have kp := app_kept hg1 hs4; have kp3 := (⟨(kp _ _ (Nat.le_refl _)).trans K1.out, (kp _ _ (Nat.le_of_lt hfg)).trans K2.out, (kp _ _ (Nat.le_of_lt hg)).trans K3.out⟩ : _ ∧ _ ∧ _); clear kp))
  rename_i hHeld
  clear hHeld kp3 K1 K2 K3 hs4 hs3 HLA x0 a0 c0 c1 C2
  have C5 := Lib.hid (HC3.out.grown hg1 (by simp [Value.ownBlock]))
  have B5 := Lib.hid (below_gb HB3.out hg1 (fun k hk => by simp [Value.ownBlock] at hk; omega))
  have HO5 : Hid (OI W5 w.heap.size v1 (nodesTo L ws 0)) := by show OI _ _ _ _; rw [HNOD.out]; exact hO1
  clear hg1 hat1 hO1 HOO HC3 HB3 HNOD
  go_wp2_with fail
  go_loopw [5, 25] (fun v5 v25 wr => ∃ k : Nat, k ≤ ws.length ∧ v25 = .int .i64 k ∧ Hid (OI wr w.heap.size v5 (nodesTo L ws k)) ∧ Hid (Blk wr w.heap.size #[.int .i64 nn, .slice (some ⟨g, o, none⟩) L.length cA] 34) ∧ Hid (Below w.heap.size w wr)) (fun _ v25 _ => ws.length - (intOf v25).toNat)
  case atStart => exact ⟨0, Nat.zero_le _, rfl, HO5, C5, B5⟩
  case round =>
    clear HO5 C5 B5 hxn0 hxn1
    obtain ⟨k, hk, rfl, HO, HC, HB⟩ := hrel
    by_cases hlt : k < ws.length
    · have hltI : (k : Int) < (ws.length : Int) := by omega
      have hk0 : (0 : Int) ≤ (k : Int) := by omega
      obtain ⟨_, _, e, hfg2, hfc⟩ := (hHB.out.below HB.out) h0
      injection e with e
      injection e with e1 e2
      subst e1 e2
      have xk := hfc k hlt
      clear hfc
      have hxin := HIN.out k hlt
      have hnod := nodesTo_succ (L := L) hlt
      obtain ⟨x, hx⟩ : ∃ x, x = ws.getD k 0 := ⟨_, rfl⟩
      rw [← hx] at xk hxin hnod
      clear hx
      obtain ⟨yn, rfl⟩ := Int.eq_ofNat_of_zero_le hxin.1
      have hyn0 : (0 : Int) ≤ (yn : Int) := by omega
      have hyn1 := hxin.2
      obtain ⟨_, _, e, hg2, hac⟩ := (hHA.out.below HB.out).at (by omega)
      injection e with e
      injection e with e1 e2
      subst e1 e2
      obtain ⟨_, a1, _, _, _⟩ := hac yn (by omega)
      clear hac hxin
      have hto : (arcI L (yn : Int)).to = (L.getD yn arcD).to := by unfold arcI; simp
      obtain ⟨t, ht⟩ : ∃ t, t = (L.getD yn arcD).to := ⟨_, rfl⟩
      rw [← ht] at a1 hto
      rw [hto] at hnod
      have HNOD := Lib.hid hnod
      clear ht hto hnod
      obtain ⟨c0, c1⟩ := HC.out.cells2
      have hl1 := nodesTo_length L ws k hk
      go_wp2_with (at_builtin; go_must (refine app_int w.heap.size rfl _ _ rfl u5 (nodesTo L ws k) t rfl rfl HO.out HB.out.size (by omega) ?_); intro v2 w2 hO2 hg2)
      go_roundw
      case rel => exact ⟨k + 1, by omega, by go_num, by show OI _ _ _ _; rw [← HNOD.out]; exact hO2, HC.out.grown hg2 (fun e => own_ne_blk HO.out HC.out (by decide) e.symm), below_gb HB.out hg2 (own_row_new HO.out)⟩
      case measure => simp [intOf]; omega
    · have hltI : ¬ (k : Int) < (ws.length : Int) := by omega
      have HE := Lib.hid (nodesTo_all L ws k (by omega))
      go_wp2_with fail
      go_ret
      exact ⟨_, rfl, by rw [← HE.out]; exact HO.out, HB.out⟩
end Go.Proofs.Ythglnmhcgagkdaa
