/- Walk: impl.FlowValue; what it computes. -/
import Derived.Test.YthglnmhcgagkdaaH0
import Derived.Test.YthglnmhcgagkdaaE3
import Derived.StillTailTactics
import Derived.BigRegion
namespace Go.Proofs.Ythglnmhcgagkdaa
open Go.RowKit
def flowB (L : List Arc) (F : List Int) : Bool := (List.range L.length).all fun k => inR (F.getD k 0) 0 (L.getD k arcD).ld
def stillB (nn : Nat) (L : List Arc) (F : List Int) (f t : Int) : Bool := (List.range nn).all fun (v : Nat) => bal L F v == 0 || ((v : Int) == f || (v : Int) == t)
def fvB (nn : Int) (L : List Arc) (F : List Int) (f t : Int) : Bool := apartB ⟨nn, L⟩ f t && decide (F.length = L.length) && flowB L F && stillB nn.toNat L F f t
def fvI (nn : Int) (L : List Arc) (F : List Int) (f t : Int) : Int := if fvB nn L F f t then bal L F f else 0
def nets (nn : Nat) (L : List Arc) (F : List Int) (k : Nat) : List Int := (List.range nn).map fun (v : Nat) => balN L F v k
theorem nets_length (nn : Nat) (L : List Arc) (F : List Int) (k : Nat) : (nets nn L F k).length = nn := by simp [nets]
theorem nets_at (nn : Nat) (L : List Arc) (F : List Int) (k v : Nat) (h : v < nn) : (nets nn L F k).getD v 0 = balN L F v k := by
  unfold nets
  rw [List.getD_eq_getElem?_getD, List.getElem?_map, List.getElem?_range h]; rfl
theorem nets_zero (nn : Nat) (L : List Arc) (F : List Int) : nets nn L F 0 = List.replicate nn 0 := by
  refine List.ext_getElem? fun i => ?_
  unfold nets
  rw [List.getElem?_map, List.getElem?_replicate]
  by_cases h : i < nn
  · rw [List.getElem?_range h, if_pos h]; rfl
  · rw [List.getElem?_eq_none (by simp; omega), if_neg h]; rfl
theorem nets_step (nn : Nat) (L : List Arc) (F : List Int) (k u v : Nat) (hu : (L.getD k arcD).fr = u) (hv : (L.getD k arcD).to = v) (hne : u ≠ v) :
    ((nets nn L F k).set u (balN L F u k + F.getD k 0)).set v (balN L F v k - F.getD k 0) = nets nn L F (k + 1) := by
  refine List.ext_getElem? fun i => ?_
  rw [List.getElem?_set, List.getElem?_set]
  unfold nets
  rw [List.getElem?_map, List.getElem?_map]
  simp only [List.length_set, List.length_map, List.length_range]
  by_cases hi : i < nn
  · rw [List.getElem?_range hi]
    simp only [Option.map_some, balN, hu, hv]
    by_cases e : v = i
    · subst e; rw [if_pos rfl, if_pos hi, if_neg (show ¬ (u : Int) = (v : Int) by omega), if_pos rfl, Int.add_zero]
    · rw [if_neg e, if_neg (show ¬ (v : Int) = (i : Int) by omega)]
      by_cases e2 : u = i
      · subst e2; rw [if_pos rfl, if_pos hi, if_pos rfl, Int.sub_zero]
      · rw [if_neg e2, if_neg (show ¬ (u : Int) = (i : Int) by omega), Int.add_zero, Int.sub_zero]
  · rw [List.getElem?_eq_none (show (List.range nn).length ≤ i by simp; omega)]
    simp only [Option.map_none]
    split
    · rw [if_neg (by omega)]
    · split
      · rw [if_neg (by omega)]
      · rfl
theorem balN_pre {L : List Arc} {F : List Int} (v : Int) : ∀ k, (∀ j, j < k → 0 ≤ F.getD j 0 ∧ F.getD j 0 ≤ 9) → -(9 * k) ≤ balN L F v k ∧ balN L F v k ≤ 9 * k
  | 0, _ => by simp [balN]
  | k + 1, hb => by
    have ih := balN_pre (L := L) v k (fun j hj => hb j (by omega))
    have := hb k (by omega)
    simp only [balN]
    split <;> split <;> omega
theorem flowB_false {L : List Arc} {F : List Int} {k : Nat} (hk : k < L.length) (h : inR (F.getD k 0) 0 (L.getD k arcD).ld = false) : flowB L F = false := by
  unfold flowB; rw [List.all_eq_false]; exact ⟨k, List.mem_range.2 hk, by simpa using h⟩
theorem flowB_true {L : List Arc} {F : List Int} (h : ∀ k, k < L.length → inR (F.getD k 0) 0 (L.getD k arcD).ld = true) : flowB L F = true := by
  unfold flowB; rw [List.all_eq_true]; intro k hk; exact h k (List.mem_range.1 hk)
theorem stillB_false {nn : Nat} {L : List Arc} {F : List Int} {f t : Int} {v : Nat} (hv : v < nn) (h : ¬ bal L F v = 0) (hf : ¬ (v : Int) = f) (ht : ¬ (v : Int) = t) : stillB nn L F f t = false := by
  unfold stillB; rw [List.all_eq_false]; exact ⟨v, List.mem_range.2 hv, by simp [h, hf, ht]⟩
theorem stillB_true {nn : Nat} {L : List Arc} {F : List Int} {f t : Int} (h : ∀ v : Nat, v < nn → bal L F v = 0 ∨ (v : Int) = f ∨ (v : Int) = t) : stillB nn L F f t = true := by
  unfold stillB; rw [List.all_eq_true]; intro v hv; have := h v (List.mem_range.1 hv); simpa using this
def ValueAns (nn : Int) (L : List Arc) (F : List Int) (f t : Int) (w : World) (e : Ending) (w' : World) : Prop := e = .returned (.tuple #[.int .i64 (fvI nn L F f t), .bool (fvB nn L F f t)]) ∧ Below w.heap.size w w'
theorem fv_no {nn : Int} {L : List Arc} {F : List Int} {f t : Int} (h : fvB nn L F f t = false) : fvI nn L F f t = 0 := by unfold fvI; rw [h]; rfl
theorem fv_end {nn : Int} {L : List Arc} {F : List Int} {f t : Int} {w w' : World} (h : fvB nn L F f t = false) (hb : Below w.heap.size w w') : ValueAns nn L F f t w (.returned (.tuple #[.int .i64 0, .bool false])) w' := by
  refine ⟨?_, hb⟩; rw [fv_no h, h]
set_option maxHeartbeats 1000000 in
set_option maxRecDepth 100000 in
theorem c_FlowValue (A : Option Addr) (cA : Nat) (nn : Int) (L : List Arc) (AF : Option Addr) (cF : Nat) (F : List Int) (f t : Int) (w : World) (hA : ArcsAt w A L) (hl : L.length ≤ 140737488351232) (hF : IntsAt w AF F) :
    Calls Try.prog 18 #[.agg #[.int .i64 nn, .slice A L.length cA], .slice AF F.length cF, .int .i64 f, .int .i64 t] w (ValueAns nn L F f t w) := by
  have B1 := Blk.new w #[.int .i64 nn, .slice A L.length cA] 34
  have HB1 := below_new w (.cells #[.int .i64 nn, .slice A L.length cA] 34)
  have hA1 := hA.below HB1
  have hHA := Lib.hid hA
  have hHF := Lib.hid hF
  obtain ⟨c0, c1⟩ := B1.cells2
  obtain ⟨b0, h0⟩ : ∃ b, b = apartB ⟨nn, L⟩ f t := ⟨_, rfl⟩
  have H0 := Lib.hid h0
  clear h0 hA hF
  go_enter Try.func18, Try.ntmps18
  go_wp2_with fail
  refine (c_apart A cA nn L f t _ hA1 hl).mono ?_
  rintro e w2 ⟨rfl, hb⟩
  rw [← H0.out]
  have C2 := B1.below hb
  have HB2 := below_of HB1 hb
  clear hb B1 HB1 c0 c1 hA1
  obtain ⟨d0, d1⟩ := C2.cells2
  cases b0 with
  | false =>
    go_wp2_with fail
    go_ret2
    exact fv_end (by unfold fvB; rw [← H0.out]; rfl) HB2
  | true =>
    by_cases hlen : F.length = L.length
    · have hlen' : ((F.length : Int) != (L.length : Int)) = false := by simp; omega
      have hN : netOkB ⟨nn, L⟩ = true := by have := H0.out.symm; unfold apartB nodesInB at this; simp only [Bool.and_eq_true] at this; exact this.1.1
      obtain ⟨hn1, hn8, hL16, harc⟩ := netOk_parts hN
      have HN := Lib.hid hN
      have HARC := Lib.hid harc
      have hs := apart_split nn L f t hN
      rw [← H0.out] at hs
      have HLEN := Lib.hid hlen
      obtain ⟨nm, rfl⟩ := Int.eq_ofNat_of_zero_le (show 0 ≤ nn by omega)
      have hfv : Hid (fvB (nm : Int) L F f t = (flowB L F && stillB nm L F f t)) := by show _ = _; unfold fvB; rw [← H0.out, decide_eq_true HLEN.out]; simp
      have hfb : 0 ≤ f ∧ f < nm := by simp [inR] at hs; omega
      have htb : 0 ≤ t ∧ t < nm := by simp [inR] at hs; omega
      obtain ⟨fm, rfl⟩ := Int.eq_ofNat_of_zero_le hfb.1
      obtain ⟨tm, rfl⟩ := Int.eq_ofNat_of_zero_le htb.1
      have hfn : fm < nm := by omega
      clear harc hs hN hlen hfb htb
      go_wp2_with ((refine mk_ints (w.heap.size + 1) rfl _ _ rfl nm (nm : Int) rfl rfl rfl (by omega) (Nat.succ_le_of_lt C2.lt) ?_); intro W3 hO3 hg3; have k1 := (C2.below (gb_below_new0 hg3)).cells2.2)
      rw [← nets_zero nm L F] at hO3
      have hb3 := gb_below_new0 hg3
      have N3 := C2.below hb3
      have HB3 := below_of HB2 hb3
      have hgn : w.heap.size < w2.heap.size := C2.lt
      clear hg3 hb3 C2 d0 d1 k1
      generalize w2.heap.size = gn at *
      go_loopw [34] (fun v34 wr => ∃ k : Nat, k ≤ L.length ∧ v34 = .int .i64 k ∧ OI wr (w.heap.size + 1) (.slice (some ⟨gn, 0, none⟩) nm nm) (nets nm L F k) ∧ Blk wr w.heap.size #[.int .i64 nm, .slice A L.length cA] 34 ∧ Below w.heap.size w wr ∧ Hid (∀ j, j < k → inR (F.getD j 0) 0 (L.getD j arcD).ld = true)) (fun v34 _ => L.length - (intOf v34).toNat)
      case atStart => exact ⟨0, Nat.zero_le _, rfl, hO3, N3, HB3, fun j hj => absurd hj (by omega)⟩
      case round =>
        clear hO3 N3 HB3 HB2
        obtain ⟨k, hk, rfl, hO, hN, hB, hP⟩ := hrel
        by_cases hlt : k < L.length
        · have hltI : (k : Int) < (L.length : Int) := by omega
          obtain ⟨g, o, e, hg0, _⟩ := hHA.out.at (by omega)
          obtain ⟨_, _, e', hg, hac⟩ := (hHA.out.below hB).at (by omega)
          rw [e] at e'
          injection e' with e'
          injection e' with e1 e2
          subst e1 e2 e
          obtain ⟨a0, a1, a2, a3, a4⟩ := hac k hlt
          clear hac
          obtain ⟨fg, fo, e, hfg0, _⟩ := hHF.out (by have := HLEN.out; omega)
          obtain ⟨_, _, e', hfg, hfc⟩ := (hHF.out.below hB) (by have := HLEN.out; omega)
          rw [e] at e'
          injection e' with e'
          injection e' with e1 e2
          subst e1 e2 e
          have fk := hfc k (by have := HLEN.out; omega)
          clear hfc
          have HA := HARC.out k hlt
          have hAP := arcOk_parts HA
          obtain ⟨x, hx⟩ : ∃ x, x = F.getD k 0 := ⟨_, rfl⟩
          obtain ⟨a, ha⟩ : ∃ a, a = L.getD k arcD := ⟨_, rfl⟩
          rw [← hx] at fk
          rw [← ha] at a0 a1 a2 a3 a4 hAP
          have HX := Lib.hid hx
          have HAA := Lib.hid ha
          clear hx ha HA
          obtain ⟨afr, ato, aco, atl, ald⟩ := a
          simp only at a0 a1 a2 a3 a4 hAP
          obtain ⟨u, rfl⟩ := Int.eq_ofNat_of_zero_le hAP.1
          obtain ⟨v, rfl⟩ := Int.eq_ofNat_of_zero_le hAP.2.2.1
          obtain ⟨b, hb⟩ : ∃ b, b = inR x 0 ald := ⟨_, rfl⟩
          have HBB := Lib.hid hb
          clear hb
          have fI : (k : Int) < (F.length : Int) := by have := HLEN.out; omega
          have HO := Lib.hid hO
          have HN' := Lib.hid hN
          have HB := Lib.hid hB
          clear hO hN hB
          have HW : Hid (OI (wr.alloc (.cells #[.int .i64 u, .int .i64 v, .int .i64 aco, .int .i64 atl, .int .i64 ald] 40)) (w.heap.size + 1) (.slice (some ⟨gn, 0, none⟩) nm nm) (nets nm L F k)) := HO.out.below (below_new _ _)
          have X := Blk.new wr #[.int .i64 u, .int .i64 v, .int .i64 aco, .int .i64 atl, .int .i64 ald] 40
          have fk2 : (wr.alloc (.cells #[.int .i64 u, .int .i64 v, .int .i64 aco, .int .i64 atl, .int .i64 ald] 40)).cell? ⟨fg, fo + k, none⟩ = some (.int .i64 x) := (cell_keep (Below.heap_alloc wr _ fg hfg) _).trans fk
          obtain ⟨x0, x1, x2, x3, x4⟩ := X.cells5
          have HXX := Lib.hid X
          clear X
          have hP9 : ∀ j, j < k → 0 ≤ F.getD j 0 ∧ F.getD j 0 ≤ 9 := fun j hj => by
            have h1 := hP.out j hj
            have h2 := (arcOk_parts (HARC.out j (by omega))).2.2.2.2.2.2.2.2.2.2
            simp [inR] at h1
            simp only [List.getD_eq_getElem?_getD] at *
            omega
          have hbu := balN_pre (L := L) (u : Int) k hP9
          have hbv := balN_pre (L := L) (v : Int) k hP9
          clear hP9
          obtain ⟨_, _, e, _, hgnW, hnc, hnf⟩ := HW.out.at (by rw [nets_length]; omega)
          injection e with e1 e2 e3
          injection e1 with e1
          injection e1 with e1
          subst e1
          clear e2 e3
          have nu := hnc u (by rw [nets_length]; omega)
          have nv := hnc v (by rw [nets_length]; omega)
          rw [nets_at nm L F k u (by omega)] at nu
          rw [nets_at nm L F k v (by omega)] at nv
          obtain ⟨bu, hbu'⟩ : ∃ y, y = balN L F u k := ⟨_, rfl⟩
          obtain ⟨bv, hbv'⟩ : ∃ y, y = balN L F v k := ⟨_, rfl⟩
          rw [← hbu'] at nu hbu
          rw [← hbv'] at nv hbv
          have HBU := Lib.hid hbu'
          have HBV := Lib.hid hbv'
          have mu := hnf u
          have mv := hnf v
          clear hbu' hbv' hnc hnf
          have hbu1 : -200 ≤ bu := by omega
          have hbu2 : bu ≤ 200 := by omega
          have hbv1 : -200 ≤ bv := by omega
          have hbv2 : bv ≤ 200 := by omega
          have huv : ¬ v = u := by have := hAP.2.2.2.2.1; omega
          have huI : (u : Int) < (nm : Int) := hAP.2.1
          have hvI : (v : Int) < (nm : Int) := hAP.2.2.2.1
          have hu0 : (0 : Int) ≤ (u : Int) := hAP.1
          have hv0 : (0 : Int) ≤ (v : Int) := hAP.2.2.1
          have hld : ald ≤ 9 := hAP.2.2.2.2.2.2.2.2.2.2
          have HB5 := Lib.hid (below_alloc HB.out (.cells #[.int .i64 u, .int .i64 v, .int .i64 aco, .int .i64 atl, .int .i64 ald] 40))
          have HN5 := Lib.hid (HN'.out.alloc (.cells #[.int .i64 u, .int .i64 v, .int .i64 aco, .int .i64 atl, .int .i64 ald] 40))
          have hbx : gn < wr.heap.size := (own_ge HO.out gn rfl).2
          clear hAP hbu hbv
          go_wp2_with fail
          generalize wr.alloc (.cells #[.int .i64 u, .int .i64 v, .int .i64 aco, .int .i64 atl, .int .i64 ald] 40) = W5 at *
          generalize wr.heap.size = bx at *
          clear a0 a1 a2 a3 a4 hg fk hfg
          have hk0 : (0 : Int) ≤ (k : Int) := by omega
          go_quiet ((go_at_call 64; exact q_same (c_within_b b _ _ _ _ HBB)))
          have p0 : (W5.drewN nq).cell? ⟨bx, 0, none⟩ = some (.int .i64 u) := x0
          have p1 : (W5.drewN nq).cell? ⟨bx, 1, none⟩ = some (.int .i64 v) := x1
          have p2 : (W5.drewN nq).cell? ⟨fg, fo + k, none⟩ = some (.int .i64 x) := fk2
          have p3 : (W5.drewN nq).cell? ⟨gn, u, none⟩ = some (.int .i64 bu) := nu
          have p4 : (W5.drewN nq).cell? ⟨gn, v, none⟩ = some (.int .i64 bv) := nv
          have p5 : (W5.drewN nq).frozen? ⟨gn, u, none⟩ = false := mu
          have p6 : (W5.drewN nq).frozen? ⟨gn, v, none⟩ = false := mv
          have HW6 : Hid (OI (W5.drewN nq) (w.heap.size + 1) (.slice (some ⟨gn, 0, none⟩) nm nm) (nets nm L F k)) := HW.out
          have HN6 := Lib.hid (HN5.out.drewN nq)
          have HB6 := Lib.hid (below_drewN HB5.out nq)
          clear x0 x1 x2 x3 x4 fk2 nu nv mu mv HW HN5 HB5 HXX
          generalize W5.drewN nq = W6 at *
          cases b with
          | false =>
            go_wp2_with fail
            go_ret2
            refine fv_end ?_ HB6.out
            rw [hfv.out, flowB_false hlt (by rw [← HX.out, ← HAA.out]; exact HBB.out.symm)]; rfl
          | true =>
            have hx9 : 0 ≤ x ∧ x ≤ 9 := by have := HBB.out.symm; simp [inR] at this; omega
            have hx0 := hx9.1
            have hx1 := hx9.2
            clear hx9
            go_wp2_with fail
            go_still_tail 11, (by kernel_rfl)
            change wpList _ _ _ _ _ W6.drew
            have q1 : W6.drew.cell? ⟨bx, 1, none⟩ = some (.int .i64 v) := p1
            have q2 : W6.drew.cell? ⟨fg, fo + k, none⟩ = some (.int .i64 x) := p2
            have q4 : W6.drew.cell? ⟨gn, v, none⟩ = some (.int .i64 bv) := p4
            have q5 : W6.drew.frozen? ⟨gn, u, none⟩ = false := p5
            have q6 : W6.drew.frozen? ⟨gn, v, none⟩ = false := p6
            have q3 : W6.drew.cell? ⟨gn, u, none⟩ = some (.int .i64 bu) := p3
            have q0 : W6.drew.cell? ⟨bx, 0, none⟩ = some (.int .i64 u) := p0
            have HW7 : Hid (OI W6.drew (w.heap.size + 1) (.slice (some ⟨gn, 0, none⟩) nm nm) (nets nm L F k)) := HW6.out
            have HN7 := Lib.hid (HN6.out.drewN 1)
            have HB7 := Lib.hid (below_drewN HB6.out 1)
            change Hid (Blk W6.drew _ _ _) at HN7
            change Hid (Below _ _ W6.drew) at HB7
            clear p0 p1 p2 p3 p4 p5 p6 HW6 HN6 HB6
            generalize W6.drew = W7 at *
            have r1 : (W7.setCell ⟨gn, u, none⟩ (.int .i64 (bu + x))).cell? ⟨bx, 1, none⟩ = some (.int .i64 v) := (cell_keep (Below.heap_setCell _ _ _ _ (by show bx ≠ gn; omega)) _).trans q1
            have r2 : (W7.setCell ⟨gn, u, none⟩ (.int .i64 (bu + x))).cell? ⟨fg, fo + k, none⟩ = some (.int .i64 x) := (cell_keep (Below.heap_setCell _ _ _ _ (by show fg ≠ gn; omega)) _).trans q2
            have r4 : (W7.setCell ⟨gn, u, none⟩ (.int .i64 (bu + x))).cell? ⟨gn, v, none⟩ = some (.int .i64 bv) := (cell_setCell_off _ _ _ _ _ (fun e => huv e.symm)).trans q4
            have r6 : (W7.setCell ⟨gn, u, none⟩ (.int .i64 (bu + x))).frozen? ⟨gn, v, none⟩ = false := by simpa using q6
            have HW8 := Lib.hid (HW7.out.set' u (bu + x))
            have HN8 := Lib.hid (HN7.out.far (p := ⟨gn, u, none⟩) (by show w.heap.size ≠ gn; omega) (.int .i64 (bu + x)))
            have HB8 := Lib.hid (HB7.out.setCell (p := ⟨gn, u, none⟩) (by show w.heap.size ≤ gn; omega) (.int .i64 (bu + x)))
            clear HW7 HN7 HB7
            go_wp2_with fail
            generalize W7.setCell ⟨gn, u, none⟩ (.int .i64 (bu + x)) = W8 at *
            clear q0 q1 q2 q3 q4 q5 q6
            go_still_tail 11, (by kernel_rfl)
            change wpList _ _ _ _ _ W8.drew
            have q1 : W8.drew.cell? ⟨bx, 1, none⟩ = some (.int .i64 v) := r1
            have q2 : W8.drew.cell? ⟨fg, fo + k, none⟩ = some (.int .i64 x) := r2
            have q4 : W8.drew.cell? ⟨gn, v, none⟩ = some (.int .i64 bv) := r4
            have q6 : W8.drew.frozen? ⟨gn, v, none⟩ = false := r6
            have HW9 := Lib.hid (show OI W8.drew _ _ _ from HW8.out)
            have HN9 := Lib.hid (show Blk W8.drew _ _ _ from HN8.out.drewN 1)
            have HB9 := Lib.hid (show Below _ _ W8.drew from below_drewN HB8.out 1)
            clear r1 r2 r4 r6 HW8 HN8 HB8
            generalize W8.drew = W9 at *
            have HWE := Lib.hid (HW9.out.set' v (bv - x))
            have HNE := Lib.hid (HN9.out.far (p := ⟨gn, v, none⟩) (by show w.heap.size ≠ gn; omega) (.int .i64 (bv - x)))
            have HBE := Lib.hid (HB9.out.setCell (p := ⟨gn, v, none⟩) (by show w.heap.size ≤ gn; omega) (.int .i64 (bv - x)))
            have HSTEP : Hid (((nets nm L F k).set u (bu + x)).set v (bv - x) = nets nm L F (k + 1)) := by
              show _ = _
              rw [HX.out, HBU.out, HBV.out]
              exact nets_step nm L F k u v (by rw [← HAA.out]) (by rw [← HAA.out]) (fun e => huv e.symm)
            rw [HSTEP.out] at HWE
            clear HW9 HN9 HB9
            go_wp2_with fail
            go_roundw
            case rel =>
              refine ⟨k + 1, by omega, by go_num, HWE.out, HNE.out, HBE.out, fun j hj => ?_⟩
              rcases Nat.lt_succ_iff_lt_or_eq.1 hj with h1 | rfl
              · exact hP.out j h1
              · rw [← HX.out, ← HAA.out]; exact HBB.out.symm
            case measure => simp [intOf]; omega
        · have hkL : k = L.length := by omega
          subst hkL
          have hltI : ¬ (L.length : Int) < (L.length : Int) := by omega
          have HFB : Hid (flowB L F = true) := flowB_true hP.out
          have HO := Lib.hid hO
          have HB := Lib.hid hB
          have HN' := Lib.hid hN
          obtain ⟨_, _, e, _, hgnW, hnc, hnf⟩ := hO.at (by rw [nets_length]; omega)
          injection e with e1 e2 e3
          injection e1 with e1
          injection e1 with e1
          subst e1
          clear e2 e3 hnf
          have HNC : Hid (∀ v : Nat, v < nm → wr.cell? ⟨gn, v, none⟩ = some (.int .i64 (bal L F v))) := fun v hv => by
            have := hnc v (by rw [nets_length]; exact hv)
            rw [nets_at nm L F _ v hv] at this
            exact this
          clear hnc hO hB hN
          go_wp2_with fail
          go_loop [72] (fun v72 => ∃ v : Nat, v ≤ nm ∧ v72 = .int .i64 v ∧ Hid (∀ y : Nat, y < v → bal L F y = 0 ∨ (y : Int) = fm ∨ (y : Int) = tm)) (fun v72 => nm - (intOf v72).toNat)
          case atStart => exact ⟨0, Nat.zero_le _, rfl, fun j hj => absurd hj (by omega)⟩
          case round =>
            obtain ⟨v, hv, rfl, hS⟩ := hrel
            by_cases hlv : v < nm
            · have hlvI : (v : Int) < (nm : Int) := by omega
              have cv := HNC.out v hlv
              obtain ⟨y, hy⟩ : ∃ y, y = bal L F v := ⟨_, rfl⟩
              rw [← hy] at cv
              have HY := Lib.hid hy
              clear hy
              have HGO : Hid ((y = 0 ∨ v = fm ∨ v = tm) → ∀ z : Nat, z < v + 1 → bal L F z = 0 ∨ (z : Int) = fm ∨ (z : Int) = tm) := fun h z hz => by
                rcases Nat.lt_succ_iff_lt_or_eq.1 hz with h1 | rfl
                · exact hS.out z h1
                · rw [← HY.out]; omega
              by_cases e1 : y = 0
              · have f1 : (y != 0) = false := by simpa using e1
                have HE := Lib.hid e1
                clear e1
                go_wp2_with fail
                go_round
                case rel => exact ⟨v + 1, by omega, by go_num, HGO.out (.inl HE.out)⟩
                case measure => simp [intOf]; omega
              · have f1 : (y != 0) = true := by simpa using e1
                by_cases e2 : (v : Int) = (fm : Int)
                · have f2 : ((v : Int) != (fm : Int)) = false := by simpa using e2
                  have HE : Hid (v = fm) := by show _ = _; omega
                  clear e2
                  go_wp2_with fail
                  go_round
                  case rel => exact ⟨v + 1, by omega, by go_num, HGO.out (.inr (.inl HE.out))⟩
                  case measure => simp [intOf]; omega
                · have f2 : ((v : Int) != (fm : Int)) = true := by simpa using e2
                  by_cases e3 : (v : Int) = (tm : Int)
                  · have f3 : ((v : Int) != (tm : Int)) = false := by simpa using e3
                    have HE : Hid (v = tm) := by show _ = _; omega
                    clear e3
                    go_wp2_with fail
                    go_round
                    case rel => exact ⟨v + 1, by omega, by go_num, HGO.out (.inr (.inr HE.out))⟩
                    case measure => simp [intOf]; omega
                  · have f3 : ((v : Int) != (tm : Int)) = true := by simpa using e3
                    have HE1 := Lib.hid e1
                    have HE2 := Lib.hid e2
                    have HE3 := Lib.hid e3
                    clear e1 e2 e3
                    go_wp2_with fail
                    go_ret2
                    exact fv_end (by rw [hfv.out, stillB_false hlv (by rw [← HY.out]; exact HE1.out) HE2.out HE3.out]; simp) HB.out
            · have hlvI : ¬ (v : Int) < (nm : Int) := by omega
              have hvn : v = nm := by omega
              have HSB : Hid (stillB nm L F fm tm = true) := stillB_true (by rw [← hvn]; exact hS.out)
              have hcf := HNC.out fm hfn
              have HCF := Lib.hid hcf
              clear hvn
              obtain ⟨y, hy⟩ : ∃ y, y = bal L F fm := ⟨_, rfl⟩
              rw [← hy] at hcf
              have HY := Lib.hid hy
              clear hy
              have hf0 : (0 : Int) ≤ (fm : Int) := by omega
              have hfI : (fm : Int) < (nm : Int) := by omega
              go_wp2_with fail
              go_ret2
              refine ⟨?_, HB.out⟩
              unfold fvI
              rw [hfv.out, HFB.out, HSB.out, HY.out]
              rfl
    · have hlen' : ((F.length : Int) != (L.length : Int)) = true := by simp; omega
      go_wp2_with fail
      go_ret2
      exact fv_end (by unfold fvB; simp [hlen]) HB2
end Go.Proofs.Ythglnmhcgagkdaa
