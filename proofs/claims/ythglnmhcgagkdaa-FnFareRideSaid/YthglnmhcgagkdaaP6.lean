/- Walks: FareRide, both sides. -/
import Derived.Test.YthglnmhcgagkdaaP5
import Derived.Test.YthglnmhcgagkdaaJ1
import Derived.Maps.OwnSet
import Derived.BigQuiet
namespace Go.Proofs.Ythglnmhcgagkdaa
open Go.RowKit
theorem hasI_snoc (xs : List Int) (y v : Int) : hasI (xs ++ [y]) v = (hasI xs v || y == v) := by simp [hasI]
def cntI (s : List Int) : Nat := (hasI s 0).toNat + (hasI s 1).toNat + (hasI s 2).toNat + (hasI s 3).toNat
theorem cnt_le (s : List Int) : cntI s ≤ 4 := by
  unfold cntI
  cases hasI s 0 <;> cases hasI s 1 <;> cases hasI s 2 <;> cases hasI s 3 <;> decide
theorem addD_cnt {s : List Int} {z : Int} (hz : 0 ≤ z ∧ z ≤ 3) (h : s.length = cntI s) : (addD s z).length = cntI (addD s z) := by
  unfold addD
  split
  · exact h
  · rename_i hb
    have hb : hasI s z = false := by simpa using hb
    rw [List.length_append, h]
    unfold cntI
    simp only [hasI_snoc]
    have : z = 0 ∨ z = 1 ∨ z = 2 ∨ z = 3 := by omega
    rcases this with rfl | rfl | rfl | rfl <;> simp [hb] <;> omega
theorem dist_cnt : ∀ (zs s : List Int), (∀ z ∈ zs, 0 ≤ z ∧ z ≤ 3) → s.length = cntI s → (zs.foldl addD s).length = cntI (zs.foldl addD s)
  | [], _, _, h => h
  | z :: zs, s, hz, h => dist_cnt zs (addD s z) (fun y hy => hz y (by simp [hy])) (addD_cnt (hz z (by simp)) h)
theorem addD_mono (s : List Int) (z : Int) : s.length ≤ (addD s z).length := by unfold addD; split <;> simp
theorem dist_mono : ∀ (zs s : List Int), s.length ≤ (zs.foldl addD s).length
  | [], _ => Nat.le_refl _
  | z :: zs, s => Nat.le_trans (addD_mono s z) (dist_mono zs (addD s z))
theorem dist_bounds {zs : List Int} (h0 : 0 < zs.length) (hz : ∀ z ∈ zs, 0 ≤ z ∧ z ≤ 3) : 1 ≤ (distI zs).length ∧ (distI zs).length ≤ 4 := by
  constructor
  · cases zs with
    | nil => simp at h0
    | cons z zs => exact Nat.le_trans (by simp [addD, hasI]) (dist_mono zs (addD [] z))
  · unfold distI
    rw [dist_cnt zs [] hz rfl]
    exact cnt_le _
theorem zonesW_in {L : List Arc} {zone ws : List Int} {nn : Int} (hz : zonesB nn zone = true) : ∀ z ∈ zonesW L zone ws, 0 ≤ z ∧ z ≤ 3 := by
  intro z h
  unfold zonesW at h
  obtain ⟨v, _, rfl⟩ := List.mem_map.1 h
  unfold zonesB zoneB at hz
  rw [Bool.and_eq_true] at hz
  by_cases hv : v.toNat < zone.length
  · have := all_at 0 hz.2 _ hv
    simpa [inR] using this
  · simp [List.getD_eq_getElem?_getD, List.getElem?_eq_none (Nat.le_of_not_lt hv)]
def rideI (f : Fare) (nn : Int) (L : List Arc) (zone ws : List Int) : Int :=
  if fareOkB f && (netOkB ⟨nn, L⟩ && zonesB nn zone) && (netOkB ⟨nn, L⟩ && walkB L ws) && decide (0 < ws.length) then f.single.getD ((distI (zonesW L zone ws)).length - 1) 0 else -1
def litI (z : Int) : Lit := .int .i64 z
theorem add_lits (s : List Int) (z : Int) : Maps.addKey (s.map litI) (litI z) = (addD s z).map litI := by
  unfold Maps.addKey addD hasI
  rw [List.any_map]
  have e : ((fun y => Lit.sameKey y (litI z)) ∘ litI) = fun x => x == z := by
    funext x
    rw [Bool.eq_iff_iff]
    simp [litI, Lit.sameKey]
  rw [e]
  split <;> simp
theorem dist_lits : ∀ (zs s : List Int), (zs.map litI).foldl Maps.addKey (s.map litI) = (zs.foldl addD s).map litI
  | [], _ => rfl
  | z :: zs, s => by rw [List.map_cons, List.foldl_cons, add_lits, dist_lits zs (addD s z)]; rfl
def setZ (zs : List Int) : DataW Unit := Maps.setOf (.lit (.bool true)) (zs.map litI)
theorem setZ_size (zs : List Int) : Maps.size (setZ zs) = (distI zs).length := by
  unfold setZ
  rw [Maps.size_setOf _ _ (fun x hx => by obtain ⟨z, _, rfl⟩ := List.mem_map.1 hx; trivial)]
  have := dist_lits zs []
  rw [List.map_nil] at this
  rw [this, List.length_map]; rfl
theorem setZ_snoc (zs : List Int) (k : Nat) (h : k < zs.length) : setZ (zs.take (k + 1)) = (setZ (zs.take k)).put (litI (zs.getD k 0)) (.lit (.bool true)) := by
  unfold setZ
  have e : zs.take (k + 1) = zs.take k ++ [zs.getD k 0] := by rw [List.take_add_one]; simp [h, List.getD_eq_getElem?_getD]
  rw [e, List.map_append]
  exact Maps.setOf_snoc _ _ _
/-- impl's loop: the map of zones, the nodes, the fare. -/
structure RSt (w : World) (bm gz : Nat) (F : Array Value) (nodes zs : List Int) (k : Nat) (W : World) : Prop where
  M : ∃ m, m ≤ k ∧ W.ownsMap Try.prog 3 (plainElem Try.prog 4) bm m (setZ (zs.take k))
  N : ∀ i, i < nodes.length → W.cell? ⟨gz, i, none⟩ = some (.int .i64 (nodes.getD i 0))
  F : Blk W w.heap.size F 25
  b : Below w.heap.size w W
  l1 : w.heap.size < bm
  l2 : bm < gz
  l3 : gz < W.heap.size
theorem RSt.turn {w : World} {bm gz : Nat} {F : Array Value} {nodes zs : List Int} {k m : Nat} {W W1 : World} (h : RSt w bm gz F nodes zs k W) (hm : m ≤ k) (hM : W1.ownsMap Try.prog 3 (plainElem Try.prog 4) bm (m + 1) (setZ (zs.take (k + 1)))) (hg : W.grownBy W1 (some bm)) : RSt w bm gz F nodes zs (k + 1) W1 := by
  have h1 := h.l1
  have h2 := h.l2
  exact ⟨⟨m + 1, by omega, hM⟩, fun i hi => (cell_keep (hg.block gz h.l3 (fun e => by injection e with e; omega)) _).trans (h.N i hi), h.F.grown hg (fun e => by injection e with e; omega), below_gb h.b hg (fun k hk => by injection hk with hk; omega), h1, h2, Nat.lt_of_lt_of_le h.l3 hg.size⟩
theorem own_map_kept {w w' : World} {R : Value → Option (DataW Unit × List MemPlace)} {b n : Nat} {D : DataW Unit} (h : w.ownsMap Try.prog 3 R b n D) (hb : Below w.heap.size w w') : w'.ownsMap Try.prog 3 R b n D :=
  h.kept (row := none) ⟨hb.os, hb.tape, hb.output, hb.size, fun k hk _ => hb.block k hk⟩ (by simp)
set_option maxHeartbeats 1000000 in
set_option maxRecDepth 100000 in
theorem c_FareRide (AS : Option Addr) (cS : Nat) (f : Fare) (A : Option Addr) (cA : Nat) (nn : Int) (L : List Arc) (Z : Option Addr) (cZ : Nat) (zone : List Int) (B : Option Addr) (cB : Nat) (ws : List Int) (w : World)
    (hS : IntsAt w AS f.single) (hsl : f.single.length ≤ 140737488351232) (hA : ArcsAt w A L) (hl : L.length ≤ 140737488351232) (hZ : IntsAt w Z zone) (hzl : zone.length ≤ 140737488351232) (hB : IntsAt w B ws) (hbl : ws.length ≤ 140737488351232) :
    Calls Try.prog 22 #[.agg #[.slice AS f.single.length cS, .int .i64 f.day, .int .i64 f.week], .agg #[.int .i64 nn, .slice A L.length cA], .slice Z zone.length cZ, .slice B ws.length cB] w fun e w' => e = .returned (.int .i64 (rideI f nn L zone ws)) ∧ Below w.heap.size w w' := by
  have HB1 := below_alloc (below_new w (.cells #[.slice AS f.single.length cS, .int .i64 f.day, .int .i64 f.week] 25)) (.cells #[.int .i64 nn, .slice A L.length cA] 34)
  have BF := (Blk.new w #[.slice AS f.single.length cS, .int .i64 f.day, .int .i64 f.week] 25).alloc (.cells #[.int .i64 nn, .slice A L.length cA] 34)
  have BN : Blk ((w.alloc (.cells #[.slice AS f.single.length cS, .int .i64 f.day, .int .i64 f.week] 25)).alloc (.cells #[.int .i64 nn, .slice A L.length cA] 34)) (w.heap.size + 1) #[.int .i64 nn, .slice A L.length cA] 34 := by simpa using Blk.new (w.alloc (.cells #[.slice AS f.single.length cS, .int .i64 f.day, .int .i64 f.week] 25)) #[.int .i64 nn, .slice A L.length cA] 34
  have HHS := Lib.hid hS
  have HHA := Lib.hid hA
  have HHZ := Lib.hid hZ
  have HHB := Lib.hid hB
  obtain ⟨b1, hb1⟩ : ∃ b, b = fareOkB f := ⟨_, rfl⟩
  obtain ⟨b2, hb2⟩ : ∃ b, b = (netOkB ⟨nn, L⟩ && zonesB nn zone) := ⟨_, rfl⟩
  obtain ⟨b3, hb3⟩ : ∃ b, b = (netOkB ⟨nn, L⟩ && walkB L ws) := ⟨_, rfl⟩
  have HR : Hid (rideI f nn L zone ws = if b1 && b2 && b3 && decide (0 < ws.length) then f.single.getD ((distI (zonesW L zone ws)).length - 1) 0 else -1) := by show _ = _; rw [hb1, hb2, hb3]; rfl
  have H1 := Lib.hid hb1
  have H2 := Lib.hid hb2
  have H3 := Lib.hid hb3
  clear hb1 hb2 hb3 hS hA hZ hB
  have hmm := @run_makeMap Try.prog
  go_enter Try.func22, Try.ntmps22
  obtain ⟨c0, c1, c2⟩ := BF.cells3
  obtain ⟨d0, d1⟩ := BN.cells2
  go_wp2_with fail
  generalize (w.alloc (.cells #[.slice AS f.single.length cS, .int .i64 f.day, .int .i64 f.week] 25)).alloc (.cells #[.int .i64 nn, .slice A L.length cA] 34) = W1 at *
  refine (c_FareOk AS cS f W1 (HHS.out.below HB1) hsl).mono ?_
  rintro e W2 ⟨rfl, hb⟩
  rw [← H1.out]
  have F2 := BF.below hb
  have N2 := BN.below hb
  have HB2 := below_of HB1 hb
  clear hb BF BN HB1 c0 c1 c2 d0 d1
  obtain ⟨c0, c1, c2⟩ := F2.cells3
  obtain ⟨d0, d1⟩ := N2.cells2
  cases b1 with
  | false =>
    go_wp2_with fail
    go_ret
    exact ⟨by rw [HR.out]; rfl, HB2⟩
  | true =>
    go_wp2_with fail
    refine (c_partOk A cA nn L Z cZ zone W2 (HHA.out.below HB2) hl (HHZ.out.below HB2) hzl).mono ?_
    rintro e W3 ⟨rfl, hb⟩
    rw [← H2.out]
    have F3 := F2.below hb
    have N3 := N2.below hb
    have HB3 := below_of HB2 hb
    clear hb F2 N2 HB2 c0 c1 c2 d0 d1
    obtain ⟨c0, c1, c2⟩ := F3.cells3
    obtain ⟨d0, d1⟩ := N3.cells2
    cases b2 with
    | false =>
      go_wp2_with fail
      go_ret
      exact ⟨by rw [HR.out]; rfl, HB3⟩
    | true =>
      go_wp2_with fail
      refine (c_WalkOk A cA nn L B cB ws W3 (HHA.out.below HB3) hl (HHB.out.below HB3) hbl).mono ?_
      rintro e W4 ⟨rfl, hb⟩
      rw [← H3.out]
      have F4 := F3.below hb
      have N4 := N3.below hb
      have HB4 := below_of HB3 hb
      clear hb F3 N3 HB3 c0 c1 c2 d0 d1
      obtain ⟨c0, c1, c2⟩ := F4.cells3
      obtain ⟨d0, d1⟩ := N4.cells2
      cases b3 with
      | false =>
        go_wp2_with fail
        go_ret
        exact ⟨by rw [HR.out]; rfl, HB4⟩
      | true =>
        by_cases h0 : 0 < ws.length
        · have h0' : ((ws.length : Int) == 0) = false := by simp; intro e; subst e; simp at h0
          have HN : netOkB ⟨nn, L⟩ = true := by have := H2.out.symm; rw [Bool.and_eq_true] at this; exact this.1
          have HZO : zonesB nn zone = true := by have := H2.out.symm; rw [Bool.and_eq_true] at this; exact this.2
          have HW : walkB L ws = true := by have := H3.out.symm; rw [Bool.and_eq_true] at this; exact this.2
          have hw20 : ws.length ≤ 20 := by unfold walkB at HW; rw [Bool.and_eq_true] at HW; exact of_decide_eq_true HW.1
          have hin : ∀ i, i < ws.length → 0 ≤ ws.getD i 0 ∧ ws.getD i 0 < L.length := fun i hi => by unfold walkB at HW; rw [Bool.and_eq_true] at HW; exact step_in (stepsB_at HW.2 i hi)
          have hL16 := (netP HN).2.2.1
          have hzn : (zone.length : Int) = nn := by unfold zonesB at HZO; rw [Bool.and_eq_true] at HZO; simpa using HZO.1
          have hdb := dist_bounds (zs := zonesW L zone ws) (by rw [zonesW_length]; omega) (zonesW_in HZO)
          have hs4 : f.single.length = 4 := by have := H1.out.symm; unfold fareOkB at this; simp only [Bool.and_eq_true, decide_eq_true_eq] at this; exact this.1.1.1.1
          have HNW := Lib.hid (nodesW_in HN h0 hin)
          have HZI : Hid (∀ k, k < ws.length + 1 → 0 ≤ (zonesW L zone ws).getD k 0 ∧ (zonesW L zone ws).getD k 0 ≤ 3) := fun k hk => zonesW_in (L := L) (ws := ws) HZO _ (by have h := zonesW_length L zone ws; simp only [List.getD_eq_getElem?_getD]; rw [List.getElem?_eq_getElem (by omega)]; simp)
          have HRV : Hid (rideI f nn L zone ws = f.single.getD ((distI (zonesW L zone ws)).length - 1) 0) := by show _ = _; rw [HR.out, decide_eq_true h0]; rfl
          have HIN := Lib.hid hin
          have HDB := Lib.hid hdb
          have HN' := Lib.hid HN
          have HS4 := Lib.hid hs4
          have HZN := Lib.hid hzn
          have F5 := Lib.hid (F4.alloc (.map #[] 0))
          have N5 := N4.alloc (.map #[] 0)
          have HB5 := below_alloc HB4 (.map #[] 0)
          have M5 : Hid ((W4.alloc (.map #[] 0)).ownsMap Try.prog 3 (plainElem (H := Unit) Try.prog 4) W4.heap.size 0 (.map [])) := World.ownsMap_made _ _ _ _
          have hbm : w.heap.size < W4.heap.size := F4.lt
          have hbm5 : W4.heap.size < (W4.alloc (.map #[] 0)).heap.size := by simp
          clear HN HZO HW hin hdb HR H1 H2 H3 hs4 hzn c0 c1 c2 d0 d1 F4 N4 HB4
          obtain ⟨d0, d1⟩ := N5.cells2
          go_wp2_with fail
          generalize W4.alloc (.map #[] 0) = W5 at *
          generalize W4.heap.size = bm at *
          refine (c_along A cA nn L B cB ws W5 (HHA.out.below HB5) hL16 (HHB.out.below HB5) hw20 h0 HIN.out).mono ?_
          rintro e W6 ⟨v, rfl, hO6, hb6⟩
          obtain ⟨gz, cz, rfl, hgz, hlz, hcz, _⟩ := hO6.at (by rw [nodesW_length]; omega)
          rw [nodesW_length]
          have HST : Hid (RSt w bm gz #[.slice AS f.single.length cS, .int .i64 f.day, .int .i64 f.week] (nodesW L ws) (zonesW L zone ws) 0 W6) := ⟨⟨0, Nat.le_refl _, own_map_kept M5.out hb6⟩, hcz, F5.out.below hb6, below_of HB5 hb6, hbm, by omega, hlz⟩
          clear hO6 hb6 hgz hlz hcz M5 F5 N5 HB5 hbm hbm5 d0 d1 hmm
          go_wp2_with fail
          go_loopw [37] (fun v37 wr => ∃ k : Nat, k ≤ ws.length + 1 ∧ v37 = .int .i64 k ∧ Hid (RSt w bm gz #[.slice AS f.single.length cS, .int .i64 f.day, .int .i64 f.week] (nodesW L ws) (zonesW L zone ws) k wr)) (fun v37 _ => (ws.length + 1) - (intOf v37).toNat)
          case atStart => exact ⟨0, Nat.zero_le _, rfl, HST⟩
          case round =>
            clear HST
            obtain ⟨k, hk, rfl, HS⟩ := hrel
            by_cases hlt : k < ws.length + 1
            · have hltI : (k : Int) < ((ws.length + 1 : Nat) : Int) := by omega
              have hk0 : (0 : Int) ≤ (k : Int) := by omega
              have xk := HS.out.N k (by rw [nodesW_length]; omega)
              have hxin := HNW.out k hlt
              have hzat := zonesW_at L zone ws k hlt
              obtain ⟨x, hx⟩ : ∃ x, x = (nodesW L ws).getD k 0 := ⟨_, rfl⟩
              rw [← hx] at xk hxin hzat
              clear hx
              obtain ⟨yn, rfl⟩ := Int.eq_ofNat_of_zero_le hxin.1
              have hyn0 : (0 : Int) ≤ (yn : Int) := by omega
              have hyn1 : (yn : Int) < (zone.length : Int) := by rw [HZN.out]; exact hxin.2
              obtain ⟨zg, zo, e, _, hzc⟩ := (HHZ.out.below HS.out.b) (by omega)
              subst e
              have zk := hzc yn (by omega)
              clear hzc hxin
              simp only [Int.toNat_natCast] at hzat
              have hzi := HZI.out k hlt
              have hsn := setZ_snoc (zonesW L zone ws) k (by rw [zonesW_length]; exact hlt)
              rw [hzat] at hsn hzi
              obtain ⟨z, hz'⟩ : ∃ z, z = zone.getD yn 0 := ⟨_, rfl⟩
              rw [← hz'] at zk hsn hzi
              have HSN := Lib.hid hsn
              have hV : keyOf Try.prog 3 (.int .i64 z) = some (litI z) := Maps.keyOf_int_mk Try.underlying3 (by have m1 : IntKind.i64.min = -9223372036854775808 := rfl; have m2 : IntKind.i64.max = 9223372036854775807 := rfl; simp [Lit.wf, m1, m2]; omega)
              have HV := Lib.hid hV
              obtain ⟨m, hmk, hM⟩ := HS.out.M
              have HM := Lib.hid hM
              have hnm : m < maxLen := by unfold maxLen; omega
              have HVB : Hid (plainElem (H := Unit) Try.prog 4 (.bool true) = some (.lit (.bool true), [])) := plainElem_bool Try.underlying4 true
              clear hz' hzat hsn hV hM hzi
              go_wp2_with (at_mapUpdate; refine wpList_mapUpdate_own _ rfl _ _ _ 87 rfl 3 4 (Maps.int_keyed Try.underlying3) Try.underlying87 (plainElem (H := Unit) Try.prog 4) bm m _ rfl HM.out hnm _ _ (litI z) rfl rfl HV.out (.lit (.bool true)) [] HVB.out ?_; intro w4 hown4 hg4)
              go_roundw
              case rel => exact ⟨k + 1, by omega, by go_num, HS.out.turn hmk (by rw [HSN.out]; exact hown4) hg4⟩
              case measure => simp [intOf]; omega
            · have hltI : ¬ (k : Int) < ((ws.length + 1 : Nat) : Int) := by omega
              have hkl : k = (zonesW L zone ws).length := by rw [zonesW_length]; omega
              obtain ⟨m, hmk, hM⟩ := HS.out.M
              have HM : Hid (wr.ownsMap Try.prog 3 (plainElem (H := Unit) Try.prog 4) bm m (setZ (zonesW L zone ws))) := by
                show World.ownsMap _ _ _ _ _ _ _
                have e := hM
                rw [hkl, List.take_length] at e
                exact e
              have HZS := Lib.hid (setZ_size (zonesW L zone ws))
              obtain ⟨c0, c1, c2⟩ := HS.out.F.cells3
              obtain ⟨d, hd⟩ : ∃ d, d = (distI (zonesW L zone ws)).length - 1 := ⟨_, rfl⟩
              have hd4 : d < 4 := by have := HDB.out; omega
              obtain ⟨sg, so, e, _, hsc⟩ := (HHS.out.below HS.out.b) (by have h4 : f.single.length = 4 := HS4.out; omega)
              have x0 := hsc d (by have h4 : f.single.length = 4 := HS4.out; omega)
              have HRD : Hid (rideI f nn L zone ws = f.single.getD d 0) := by show _ = _; rw [HRV.out, hd]
              have HDE : Hid (((distI (zonesW L zone ws)).length : Int) = d + 1) := by show _ = _; have := HDB.out; have := hd; omega
              have hd4' : (d : Int) < (f.single.length : Int) := by have h4 : f.single.length = 4 := HS4.out; omega
              have hd0 : (0 : Int) ≤ (d : Int) := by omega
              subst e
              obtain ⟨y, hy⟩ : ∃ y, y = f.single.getD d 0 := ⟨_, rfl⟩
              rw [← hy] at x0
              have HY := Lib.hid hy
              clear hd hsc hM hkl hy
              go_wp2_with (at_len; go_must (refine wpList_len_own _ rfl _ 87 rfl 3 4 Try.underlying87 (plainElem (H := Unit) Try.prog 4) bm m _ rfl HM.out ?_); rw [HZS.out, HDE.out])
              go_ret
              exact ⟨by rw [HRD.out, ← HY.out]; try rfl, HS.out.b⟩
        · have h0' : ((ws.length : Int) == 0) = true := by rw [show ws.length = 0 by omega]; rfl
          have HD : Hid (decide (0 < ws.length) = false) := decide_eq_false h0
          go_wp2_with fail
          go_ret
          exact ⟨by rw [HR.out, HD.out]; rfl, HB4⟩
set_option maxHeartbeats 1000000 in
set_option maxRecDepth 100000 in
theorem c_specFareRide (AS : Option Addr) (cS : Nat) (f : Fare) (A : Option Addr) (cA : Nat) (nn : Int) (L : List Arc) (Z : Option Addr) (cZ : Nat) (zone : List Int) (B : Option Addr) (cB : Nat) (ws : List Int) (w : World)
    (hS : IntsAt w AS f.single) (hsl : f.single.length ≤ 140737488351232) (hA : ArcsAt w A L) (hl : L.length ≤ 140737488351232) (hZ : IntsAt w Z zone) (hzl : zone.length ≤ 140737488351232) (hB : IntsAt w B ws) (hbl : ws.length ≤ 140737488351232) :
    Calls Try.prog 23 #[.agg #[.slice AS f.single.length cS, .int .i64 f.day, .int .i64 f.week], .agg #[.int .i64 nn, .slice A L.length cA], .slice Z zone.length cZ, .slice B ws.length cB] w fun e w' => e = .returned (.int .i64 (rideI f nn L zone ws)) ∧ Below w.heap.size w w' := by
  have HB1 := below_alloc (below_new w (.cells #[.slice AS f.single.length cS, .int .i64 f.day, .int .i64 f.week] 25)) (.cells #[.int .i64 nn, .slice A L.length cA] 34)
  have BF := (Blk.new w #[.slice AS f.single.length cS, .int .i64 f.day, .int .i64 f.week] 25).alloc (.cells #[.int .i64 nn, .slice A L.length cA] 34)
  have BN : Blk ((w.alloc (.cells #[.slice AS f.single.length cS, .int .i64 f.day, .int .i64 f.week] 25)).alloc (.cells #[.int .i64 nn, .slice A L.length cA] 34)) (w.heap.size + 1) #[.int .i64 nn, .slice A L.length cA] 34 := by simpa using Blk.new (w.alloc (.cells #[.slice AS f.single.length cS, .int .i64 f.day, .int .i64 f.week] 25)) #[.int .i64 nn, .slice A L.length cA] 34
  have HHS := Lib.hid hS
  have HHA := Lib.hid hA
  have HHZ := Lib.hid hZ
  have HHB := Lib.hid hB
  obtain ⟨b1, hb1⟩ : ∃ b, b = fareOkB f := ⟨_, rfl⟩
  obtain ⟨b2, hb2⟩ : ∃ b, b = netOkB ⟨nn, L⟩ := ⟨_, rfl⟩
  obtain ⟨b3, hb3⟩ : ∃ b, b = zonesB nn zone := ⟨_, rfl⟩
  obtain ⟨b4, hb4⟩ : ∃ b, b = walkB L ws := ⟨_, rfl⟩
  have HR : Hid (rideI f nn L zone ws = if b1 && (b2 && b3) && (b2 && b4) && decide (0 < ws.length) then f.single.getD ((distI (zonesW L zone ws)).length - 1) 0 else -1) := by show _ = _; rw [hb1, hb2, hb3, hb4]; rfl
  have H1 := Lib.hid hb1
  have H2 := Lib.hid hb2
  have H3 := Lib.hid hb3
  have H4 := Lib.hid hb4
  clear hb1 hb2 hb3 hb4 hS hA hZ hB
  go_enter Try.func23, Try.ntmps23
  obtain ⟨c0, c1, c2⟩ := BF.cells3
  obtain ⟨d0, d1⟩ := BN.cells2
  go_wp2_with fail
  generalize (w.alloc (.cells #[.slice AS f.single.length cS, .int .i64 f.day, .int .i64 f.week] 25)).alloc (.cells #[.int .i64 nn, .slice A L.length cA] 34) = W1 at *
  refine (c_l28Ok AS cS f W1 (HHS.out.below HB1) hsl).mono ?_
  rintro e W2 ⟨rfl, hb⟩
  rw [← H1.out]
  have F2 := BF.below hb
  have N2 := BN.below hb
  have HB2 := below_of HB1 hb
  clear hb BF BN HB1 c0 c1 c2 d0 d1
  obtain ⟨c0, c1, c2⟩ := F2.cells3
  obtain ⟨d0, d1⟩ := N2.cells2
  cases b1 with
  | false =>
    go_wp2_with fail
    go_ret
    exact ⟨by rw [HR.out]; rfl, HB2⟩
  | true =>
    go_wp2_with fail
    refine (c_l1Ok A cA nn L W2 (HHA.out.below HB2) hl).mono ?_
    rintro e W3 ⟨rfl, hb⟩
    rw [← H2.out]
    have F3 := F2.below hb
    have N3 := N2.below hb
    have HB3 := below_of HB2 hb
    clear hb F2 N2 HB2 c0 c1 c2 d0 d1
    obtain ⟨c0, c1, c2⟩ := F3.cells3
    obtain ⟨d0, d1⟩ := N3.cells2
    cases b2 with
    | false =>
      go_wp2_with fail
      go_ret
      exact ⟨by rw [HR.out]; rfl, HB3⟩
    | true =>
      go_wp2_with fail
      refine (c_l10Parts (.slice A L.length cA) ⟨_, _, _, rfl⟩ nn Z cZ zone W3 (HHZ.out.below HB3) hzl).mono ?_
      rintro e W4 ⟨rfl, hb⟩
      rw [← H3.out]
      have F4 := F3.below hb
      have N4 := N3.below hb
      have HB4 := below_of HB3 hb
      clear hb F3 N3 HB3 c0 c1 c2 d0 d1
      obtain ⟨c0, c1, c2⟩ := F4.cells3
      obtain ⟨d0, d1⟩ := N4.cells2
      have hL16 := (netP H2.out.symm).2.2.1
      cases b3 with
      | false =>
        go_wp2_with fail
        go_ret
        exact ⟨by rw [HR.out]; rfl, HB4⟩
      | true =>
        go_wp2_with fail
        refine (c_l2Ok A cA nn L B cB ws W4 (HHA.out.below HB4) hL16 (HHB.out.below HB4) hbl).mono ?_
        rintro e W5 ⟨rfl, hb⟩
        rw [← H4.out]
        have F5 := F4.below hb
        have N5 := N4.below hb
        have HB5 := below_of HB4 hb
        clear hb F4 N4 HB4 c0 c1 c2 d0 d1
        obtain ⟨c0, c1, c2⟩ := F5.cells3
        obtain ⟨d0, d1⟩ := N5.cells2
        cases b4 with
        | false =>
          go_wp2_with fail
          go_ret
          exact ⟨by rw [HR.out]; rfl, HB5⟩
        | true =>
          by_cases h0 : 0 < ws.length
          · have h0' : ((ws.length : Int) == 0) = false := by simp; intro e; subst e; simp at h0
            have HN : netOkB ⟨nn, L⟩ = true := H2.out.symm
            have HZO : zonesB nn zone = true := H3.out.symm
            have HW : walkB L ws = true := H4.out.symm
            have hw20 : ws.length ≤ 20 := by unfold walkB at HW; rw [Bool.and_eq_true] at HW; exact of_decide_eq_true HW.1
            have hin : ∀ i, i < ws.length → 0 ≤ ws.getD i 0 ∧ ws.getD i 0 < L.length := fun i hi => by unfold walkB at HW; rw [Bool.and_eq_true] at HW; exact step_in (stepsB_at HW.2 i hi)
            have hzn : (zone.length : Int) = nn := by unfold zonesB at HZO; rw [Bool.and_eq_true] at HZO; simpa using HZO.1
            have hdb := dist_bounds (zs := zonesW L zone ws) (by rw [zonesW_length]; omega) (zonesW_in HZO)
            have hs4 : f.single.length = 4 := by have := H1.out.symm; unfold fareOkB at this; simp only [Bool.and_eq_true, decide_eq_true_eq] at this; exact this.1.1.1.1
            obtain ⟨d, hd⟩ : ∃ d, d = (distI (zonesW L zone ws)).length - 1 := ⟨_, rfl⟩
            have hd4 : d < 4 := by omega
            obtain ⟨sg, so, e, hsg0, hsc⟩ := (HHS.out.below HB5) (by omega)
            have x0 := hsc d (by omega)
            have HRD : Hid (rideI f nn L zone ws = f.single.getD d 0) := by show _ = _; rw [HR.out, decide_eq_true h0, hd]; rfl
            have hde : (distI (zonesW L zone ws)).length = d + 1 := by omega
            have hd4' : (d : Int) < (f.single.length : Int) := by omega
            have hd0 : (0 : Int) ≤ (d : Int) := by omega
            obtain ⟨y, hy⟩ : ∃ y, y = f.single.getD d 0 := ⟨_, rfl⟩
            rw [← hy] at x0
            have HY := Lib.hid hy
            have HIN := Lib.hid hin
            have HN' := Lib.hid HN
            have HZN := Lib.hid hzn
            have HDE : Hid ((((distI (zonesW L zone ws)).length : Nat) : Int) = d + 1) := by show _ = _; rw [hde]; simp
            have ew : IntKind.i64.wrap ((d : Int) + 1 - 1) = d := by rw [wrap_in (by omega)]; omega
            have ew2 : IntKind.i64.wrap (d : Int) = d := wrap_in (by omega)
            clear HN HZO HW hin hdb HR H1 H2 H3 H4 hs4 hzn hd hsc hy hde
            subst e
            go_wp2_with fail
            have HA5 : Hid (ArcsAt W5.drew A L) := HHA.out.below (below_drewN HB5 1)
            have HZ5 : Hid (IntsAt W5.drew Z zone) := HHZ.out.below (below_drewN HB5 1)
            have HW5 : Hid (IntsAt W5.drew B ws) := HHB.out.below (below_drewN HB5 1)
            have HB6 : Hid (Below w.heap.size w W5.drew) := below_drewN HB5 1
            have K1 := Lib.hid (F5.drewN 1)
            have K2 := Lib.hid (N5.drewN 1)
            have hsg : sg < W5.heap.size := hsg0
            clear HB5 F5 N5
            go_region_held3 (fun w' => w'.cell? ⟨w.heap.size, 0, none⟩ = some (.slice (some ⟨sg, so, none⟩) f.single.length cS) ∧ w'.cell? ⟨w.heap.size + 1, 0, none⟩ = some (.int .i64 nn) ∧ w'.cell? ⟨w.heap.size + 1, 1, none⟩ = some (.slice A L.length cA) ∧ w'.cell? ⟨sg, so + d, none⟩ = some (.int .i64 y)) (first | go_keep | exact kp4) ((go_at_call 76; refine (c_l28Zones A cA nn L Z cZ zone B cB ws W5.drew HA5.out HN'.out HZ5.out HZN.out HW5.out hw20 h0 HIN.out).mono ?_; rintro e W6 ⟨rfl, hb6⟩; rw [HDE.out]; have kp4 := (⟨(cell_keep (hb6.block _ K1.out.lt) _).trans c0, (cell_keep (hb6.block _ K2.out.lt) _).trans d0, (cell_keep (hb6.block _ K2.out.lt) _).trans d1, (cell_keep (hb6.block _ hsg) _).trans x0⟩ : _ ∧ _ ∧ _ ∧ _)))
            rename_i hHeld
            clear hHeld kp4
            go_wp2_with fail
            go_ret
            exact ⟨by rw [HRD.out, ← HY.out]; try rfl, below_of HB6.out hb6⟩
          · have h0' : ((ws.length : Int) == 0) = true := by rw [show ws.length = 0 by omega]; rfl
            have HD : Hid (decide (0 < ws.length) = false) := decide_eq_false h0
            go_wp2_with fail
            go_ret
            exact ⟨by rw [HR.out, HD.out]; rfl, HB5⟩
end Go.Proofs.Ythglnmhcgagkdaa
