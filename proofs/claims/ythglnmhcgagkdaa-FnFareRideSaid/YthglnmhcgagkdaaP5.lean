/- Walk: spec.l28Zones. -/
import Derived.Test.YthglnmhcgagkdaaP4
import Derived.StillTailTactics
namespace Go.Proofs.Ythglnmhcgagkdaa
open Go.RowKit
def addD (seen : List Int) (z : Int) : List Int := if hasI seen z then seen else seen ++ [z]
def distI (zs : List Int) : List Int := zs.foldl addD []
def zonesW (L : List Arc) (zone ws : List Int) : List Int := (nodesW L ws).map fun v => zone.getD v.toNat 0
def seenTo (zs : List Int) (k : Nat) : List Int := distI (zs.take k)
theorem seenTo_succ {zs : List Int} {k : Nat} (h : k < zs.length) : seenTo zs (k + 1) = addD (seenTo zs k) (zs.getD k 0) := by
  unfold seenTo distI
  rw [List.take_add_one, List.foldl_append]
  simp [h, List.getD_eq_getElem?_getD]
theorem addD_length (seen : List Int) (z : Int) : (addD seen z).length ≤ seen.length + 1 := by
  unfold addD; split <;> simp
theorem seenTo_length (zs : List Int) : ∀ k, k ≤ zs.length → (seenTo zs k).length ≤ k
  | 0, _ => by simp [seenTo, distI]
  | k + 1, h => by
    rw [seenTo_succ (by omega)]
    have := addD_length (seenTo zs k) (zs.getD k 0)
    have := seenTo_length zs k (by omega)
    omega
theorem seenTo_all (zs : List Int) (k : Nat) (h : k = zs.length) : seenTo zs k = distI zs := by
  subst h; unfold seenTo; rw [List.take_length]
theorem zonesW_length (L : List Arc) (zone ws : List Int) : (zonesW L zone ws).length = ws.length + 1 := by simp [zonesW, nodesW_length]
theorem zonesW_at (L : List Arc) (zone ws : List Int) (k : Nat) (h : k < ws.length + 1) : (zonesW L zone ws).getD k 0 = zone.getD ((nodesW L ws).getD k 0).toNat 0 := by
  have : k < (nodesW L ws).length := by rw [nodesW_length]; exact h
  simp [zonesW, List.getD_eq_getElem?_getD, this]
theorem nodesW_in {nn : Int} {L : List Arc} {ws : List Int} (hN : netOkB ⟨nn, L⟩ = true) (h0 : 0 < ws.length) (hin : ∀ i, i < ws.length → 0 ≤ ws.getD i 0 ∧ ws.getD i 0 < L.length) (k : Nat) (hk : k < ws.length + 1) : 0 ≤ (nodesW L ws).getD k 0 ∧ (nodesW L ws).getD k 0 < nn := by
  have harc := (netP hN).2.2.2
  cases k with
  | zero =>
    have h := hin 0 h0
    have := arcP (harc (ws.getD 0 0).toNat (by omega))
    show 0 ≤ (arcI L (ws.getD 0 0)).fr ∧ (arcI L (ws.getD 0 0)).fr < nn
    unfold arcI; omega
  | succ k =>
    have hk' : k < ws.length := by omega
    have h := hin k hk'
    have := arcP (harc (ws.getD k 0).toNat (by omega))
    have e : (nodesW L ws).getD (k + 1) 0 = (arcI L (ws.getD k 0)).to := by
      simp [nodesW, List.getD_eq_getElem?_getD, hk']
    rw [e]
    unfold arcI; omega
/-- The state of the loop: seen (the loop's own), the nodes (another block), the zones told. -/
structure ZSt (w : World) (gz : Nat) (nodes zs : List Int) (k : Nat) (v : Value) (W : World) : Prop where
  O : OI W (w.heap.size + 1) v (seenTo zs k)
  ne : v.ownBlock ≠ some gz
  N : ∀ i, i < nodes.length → W.cell? ⟨gz, i, none⟩ = some (.int .i64 (nodes.getD i 0))
  lt : gz < W.heap.size
  b : Below w.heap.size w W
theorem ZSt.app {w : World} {gz : Nat} {nodes zs : List Int} {k k' : Nat} {v v1 : Value} {W W1 : World} (h : ZSt w gz nodes zs k v W) (hO : OI W1 (w.heap.size + 1) v1 (seenTo zs k')) (hg : W.grownBy W1 v.ownBlock) (ha : v1.ownBlock = v.ownBlock ∨ v1.ownBlock = some W.heap.size) : ZSt w gz nodes zs k' v1 W1 := by
  refine ⟨hO, ?_, fun i hi => (cell_keep (hg.block gz h.lt (fun e => h.ne e.symm)) _).trans (h.N i hi), Nat.lt_of_lt_of_le h.lt hg.size, below_gb h.b hg (fun k hk => by have := own_row_new h.O k hk; omega)⟩
  rcases ha with e | e
  · rw [e]; exact h.ne
  · rw [e]; intro e'; injection e' with e'; have := h.lt; omega
theorem ZSt.same {w : World} {gz : Nat} {nodes zs : List Int} {k k' : Nat} {v : Value} {W : World} (h : ZSt w gz nodes zs k v W) (e : seenTo zs k' = seenTo zs k) : ZSt w gz nodes zs k' v W := ⟨by rw [e]; exact h.O, h.ne, h.N, h.lt, h.b⟩
theorem ZSt.alloc {w : World} {gz : Nat} {nodes zs : List Int} {k : Nat} {v : Value} {W : World} (h : ZSt w gz nodes zs k v W) (o : Obj) : ZSt w gz nodes zs k v (W.alloc o) :=
  ⟨h.O.below (below_new W o), h.ne, fun i hi => (cell_keep (Below.heap_alloc W o gz h.lt) _).trans (h.N i hi), Nat.lt_of_lt_of_le h.lt (below_new W o).size, below_alloc h.b o⟩
set_option maxHeartbeats 1000000 in
set_option maxRecDepth 100000 in
theorem c_l28Zones (A : Option Addr) (cA : Nat) (nn : Int) (L : List Arc) (Z : Option Addr) (cZ : Nat) (zone : List Int) (B : Option Addr) (cB : Nat) (ws : List Int) (w : World) (hA : ArcsAt w A L) (hN : netOkB ⟨nn, L⟩ = true) (hZ : IntsAt w Z zone) (hzl : (zone.length : Int) = nn) (hB : IntsAt w B ws) (hz : ws.length ≤ 20) (h0 : 0 < ws.length) (hin : ∀ i, i < ws.length → 0 ≤ ws.getD i 0 ∧ ws.getD i 0 < L.length) :
    Calls Try.prog 76 #[.agg #[.int .i64 nn, .slice A L.length cA], .slice Z zone.length cZ, .slice B ws.length cB] w fun e w' => e = .returned (.int .i64 ((distI (zonesW L zone ws)).length : Nat)) ∧ Below w.heap.size w w' := by
  have hL16 := (netP hN).2.2.1
  have B1 := Blk.new w #[.int .i64 nn, .slice A L.length cA] 34
  have hHZ := Lib.hid hZ
  have HIN := Lib.hid hin
  have HNW := Lib.hid (nodesW_in hN h0 hin)
  have HB1 := below_new w (.cells #[.int .i64 nn, .slice A L.length cA] 34)
  have hs1 : w.heap.size + 1 ≤ (w.alloc (.cells #[.int .i64 nn, .slice A L.length cA] 34)).heap.size := by simp
  have hO := OI.lit (w.alloc (.cells #[.int .i64 nn, .slice A L.length cA] 34)) (w.heap.size + 1) [] hs1 (by simp)
  have HO5 : Hid (OI ((w.alloc (.cells #[.int .i64 nn, .slice A L.length cA] 34)).alloc (.cells #[] 3)) (w.heap.size + 1) (.slice (some ⟨w.heap.size + 1, 0, none⟩) 0 0) []) := by
    show OI _ _ _ _
    simpa [nums] using hO
  have C5 := B1.alloc (.cells #[] 3)
  have HB5 := below_alloc HB1 (.cells #[] 3)
  have hs5 : w.heap.size + 2 ≤ ((w.alloc (.cells #[.int .i64 nn, .slice A L.length cA] 34)).alloc (.cells #[] 3)).heap.size := by simp
  clear hZ hin hO B1 HB1 hs1
  go_enter Try.func76, Try.ntmps76
  go_wp2_with fail
  generalize (w.alloc (.cells #[.int .i64 nn, .slice A L.length cA] 34)).alloc (.cells #[] 3) = W5 at *
  obtain ⟨fg, fo, e, _, hfc⟩ := (hB.below HB5) h0
  have x0 := hfc 0 h0
  simp only [Nat.add_zero] at x0
  clear hfc
  have hxin := HIN.out 0 h0
  have hfr0 : (arcI L (ws.getD 0 0)).fr = (arcI L (ws.getD 0 0)).fr := rfl
  obtain ⟨x, hx⟩ : ∃ x, x = ws.getD 0 0 := ⟨_, rfl⟩
  rw [← hx] at x0 hxin
  obtain ⟨xn, rfl⟩ := Int.eq_ofNat_of_zero_le hxin.1
  have hxn0 : (0 : Int) ≤ (xn : Int) := by omega
  have hxn1 := hxin.2
  obtain ⟨g, o, e', _, hac⟩ := (hA.below HB5).at (by omega)
  obtain ⟨a0, _, _, _, _⟩ := hac xn (by omega)
  clear hac hxin
  have hfr : (L.getD xn arcD).fr = (arcI L (ws.getD 0 0)).fr := by rw [← hx]; unfold arcI; simp
  obtain ⟨u, hu⟩ : ∃ u, u = (L.getD xn arcD).fr := ⟨_, rfl⟩
  rw [← hu] at a0 hfr
  have HU := Lib.hid hfr
  have HA6 := Lib.hid (show ArcsAt W5.drew A L from hA.below (below_drewN HB5 1))
  have HF6 := Lib.hid (show IntsAt W5.drew B ws from hB.below (below_drewN HB5 1))
  have HO6 : Hid (OI W5.drew (w.heap.size + 1) (.slice (some ⟨w.heap.size + 1, 0, none⟩) 0 0) []) := HO5.out
  have HB6 : Hid (Below w.heap.size w W5.drew) := below_drewN HB5 1
  have HS6 : Hid (w.heap.size + 2 ≤ W5.drew.heap.size) := hs5
  clear HO5 HB5 hs5 hfr hu hx hfr0 hA hB
  subst e e'
  obtain ⟨c0, c1⟩ := C5.cells2
  clear C5
  go_still_tail 10, (by kernel_rfl)
  change wpList _ _ _ _ _ W5.drew
  clear c0 c1 x0 a0
  generalize W5.drew = W6 at *
  go_wp2_with fail
  refine (c_l2Nodes _ cA nn L _ cB ws u W6 HA6.out hL16 HF6.out hz HIN.out HU.out).mono ?_
  rintro e W7 ⟨v, rfl, hOv, hb7⟩
  obtain ⟨gz, cz, rfl, hgz, hlz, hcz, _⟩ := hOv.at (by rw [nodesW_length]; omega)
  rw [nodesW_length]
  have HST : Hid (ZSt w gz (nodesW L ws) (zonesW L zone ws) 0 (.slice (some ⟨w.heap.size + 1, 0, none⟩) 0 0) W7) := ⟨HO6.out.below hb7, by have := HS6.out; simp [Value.ownBlock]; omega, hcz, hlz, below_of HB6.out hb7⟩
  clear hOv hb7 hgz hlz hcz HO6 HB6 HS6 HU HA6 HF6 HIN
  go_wp2_with fail
  go_loopw [7, 9] (fun v7 v9 wr => ∃ k : Nat, k ≤ ws.length + 1 ∧ v9 = .int .i64 k ∧ Hid (ZSt w gz (nodesW L ws) (zonesW L zone ws) k v7 wr)) (fun _ v9 _ => (ws.length + 1) - (intOf v9).toNat)
  case atStart => exact ⟨0, Nat.zero_le _, rfl, HST⟩
  case round =>
    clear HST
    obtain ⟨k, hk, rfl, HS⟩ := hrel
    obtain ⟨As, cs, es, hcs, HI⟩ := HS.out.O.shape
    subst es
    have HI := Lib.hid HI
    have hsl := seenTo_length (zonesW L zone ws) k (by rw [zonesW_length]; omega)
    by_cases hlt : k < ws.length + 1
    · have hltI : (k : Int) < ((ws.length + 1 : Nat) : Int) := by omega
      have hk0 : (0 : Int) ≤ (k : Int) := by omega
      have xk := HS.out.N k (by rw [nodesW_length]; omega)
      have hxin := HNW.out k hlt
      have hzat := zonesW_at L zone ws k hlt
      obtain ⟨x, hx⟩ : ∃ x, x = (nodesW L ws).getD k 0 := ⟨_, rfl⟩
      rw [← hx] at xk hxin hzat
      clear hx
      obtain ⟨yn, rfl⟩ := Int.eq_ofNat_of_zero_le hxin.1
      have hyn0 : (0 : Int) ≤ (yn : Int) := by omega
      have hyn1 : (yn : Int) < (zone.length : Int) := by rw [hzl]; exact hxin.2
      obtain ⟨zg, zo, e, _, hzc⟩ := (hHZ.out.below HS.out.b) (by omega)
      subst e
      have zk := hzc yn (by omega)
      clear hzc hxin
      simp only [Int.toNat_natCast] at hzat
      have hsucc := seenTo_succ (zs := zonesW L zone ws) (k := k) (by rw [zonesW_length]; exact hlt)
      rw [hzat] at hsucc
      obtain ⟨z, hz'⟩ : ∃ z, z = zone.getD yn 0 := ⟨_, rfl⟩
      rw [← hz'] at zk hsucc
      have HSUC := Lib.hid hsucc
      clear hz' hzat hsucc
      go_wp2_with fail
      refine (c_l12In As cs (seenTo (zonesW L zone ws) k) z wr HI.out (by omega)).mono ?_
      rintro e w' ⟨rfl, rfl⟩
      obtain ⟨b, hb⟩ : ∃ b, b = hasI (seenTo (zonesW L zone ws) k) z := ⟨_, rfl⟩
      rw [← hb]
      have HBB := Lib.hid hb
      clear hb
      cases b with
      | true =>
        go_wp2_with fail
        go_roundw
        case rel => exact ⟨k + 1, by omega, by go_num, HS.out.same (by rw [HSUC.out, addD, if_pos HBB.out.symm])⟩
        case measure => simp [intOf]; omega
      | false =>
        have HO8 : Hid (OI (wr.alloc (.cells #[.int .i64 z] 3)) (w.heap.size + 1) (.slice As (seenTo (zonesW L zone ws) k).length cs) (seenTo (zonesW L zone ws) k)) := (HS.out.alloc _).O
        have HS8 := Lib.hid (HS.out.alloc (.cells #[.int .i64 z] 3))
        have HLIT : Hid (IntsAt (wr.alloc (.cells #[.int .i64 z] 3)) (some ⟨wr.heap.size, 0, none⟩) [z]) := IntsAt.lit wr [z]
        have hs8 : w.heap.size + 1 ≤ (wr.alloc (.cells #[.int .i64 z] 3)).heap.size := by have := HS.out.b.size; simp; omega
        go_wp2_with (at_builtin; go_must (refine app_ints (w.heap.size + 1) rfl _ _ rfl (.slice As (seenTo (zonesW L zone ws) k).length cs) (seenTo (zonesW L zone ws) k) [z] (some ⟨wr.heap.size, 0, none⟩) 1 rfl rfl HLIT.out HO8.out hs8 (by simp; omega) ?_); intro v2 w2 hO2 hg2 hv2)
        go_roundw
        case rel => exact ⟨k + 1, by omega, by go_num, HS8.out.app (by rw [HSUC.out, addD, if_neg (by rw [← HBB.out]; simp)]; exact hO2) hg2 hv2⟩
        case measure => simp [intOf]; omega
    · have hltI : ¬ (k : Int) < ((ws.length + 1 : Nat) : Int) := by omega
      have HE := Lib.hid (seenTo_all (zonesW L zone ws) k (by rw [zonesW_length]; omega))
      go_wp2_with fail
      go_ret
      exact ⟨by rw [← HE.out]; rfl, HS.out.b⟩
end Go.Proofs.Ythglnmhcgagkdaa
