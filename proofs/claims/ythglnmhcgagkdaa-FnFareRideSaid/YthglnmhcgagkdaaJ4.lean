/- Walk: impl.FlowOf. -/
import Derived.Test.YthglnmhcgagkdaaJ2
import Derived.Test.YthglnmhcgagkdaaH0
namespace Go.Proofs.Ythglnmhcgagkdaa
open Go.RowKit
theorem push_true {nn : Nat} {L : List Arc} {F : List Int} {fr tt : Int} (h : (pushF nn L F fr tt).2 = true) : (wayN L (reach nn L F fr) fr nn tt).foldl app1 F = (pushF nn L F fr tt).1 := by
  unfold pushF at h ⊢
  split
  · rfl
  · rename_i hn; rw [if_neg hn] at h; cases h
theorem push_false {nn : Nat} {L : List Arc} {F : List Int} {fr tt : Int} (h : (pushF nn L F fr tt).2 = false) (g : Nat) : flowN nn L fr tt g F = F := by
  cases g with
  | zero => rfl
  | succ g => simp only [flowN]; rw [if_neg (by rw [h]; simp)]
/-- Each step of a way is an arc's. -/
theorem way_arcs {nn : Int} {L : List Arc} {F : List Int} {fr : Int} {S : Reach} (h : SOk nn L F fr S) : ∀ (n p : Nat), p < S.length → ∀ i, i < (wayN L S fr n (S.getD p (0, 0)).1).length → arcNo ((wayN L S fr n (S.getD p (0, 0)).1).getD i 0) < L.length
  | 0, p, _, i, hi => by simp [wayN] at hi
  | n + 1, p, hp, i, hi => by
    by_cases hp0 : p = 0
    · subst hp0
      rw [h.head] at hi
      simp [wayN] at hi
    · obtain ⟨q, hq, hstep, ha, _, _⟩ := h.back p (by omega) hp
      have hne : ¬ (S.getD p (0, 0)).1 = fr := fun e => hp0 (nd_inj h.nd hp h.pos (by rw [h.head]; exact e))
      simp only [wayN, if_neg hne, hstep] at hi ⊢
      cases i with
      | zero => simpa using ha
      | succ i =>
        simp only [List.getD_cons_succ]
        exact way_arcs h n q (by omega) i (by simpa using hi)
theorem way_len (L : List Arc) (S : Reach) (fr : Int) : ∀ (n : Nat) (a : Int), (wayN L S fr n a).length ≤ n
  | 0, _ => Nat.le_refl _
  | n + 1, a => by
    simp only [wayN]
    split
    · simp
    · simp only [List.length_cons]; have := way_len L S fr n (stepBack L (codeOf S a)); omega
theorem app1_bound (F : List Int) (cs : List Int) : ∀ (k : Nat), k ≤ cs.length → (∀ i, i < cs.length → arcNo (cs.getD i 0) < F.length) → (∀ j, j < F.length → 0 ≤ F.getD j 0 ∧ F.getD j 0 ≤ 9) → ∀ j, j < F.length → -(k : Int) ≤ ((cs.take k).foldl app1 F).getD j 0 ∧ ((cs.take k).foldl app1 F).getD j 0 ≤ 9 + k
  | 0, _, _, hb, j, hj => by simpa using hb j hj
  | k + 1, hk, ha, hb, j, hj => by
    have ih := app1_bound F cs k (by omega) ha hb
    have hl : ((cs.take k).foldl app1 F).length = F.length := way_length _ _
    rw [take_snoc cs k 0 (by omega), List.foldl_append]
    simp only [List.foldl_cons, List.foldl_nil]
    have hak := ha k (by omega)
    have h1 := ih j hj
    have h2 := ih _ hak
    generalize (cs.take k).foldl app1 F = G at *
    unfold app1
    split
    · rw [getD_set_int _ _ _ _ (by omega)]; split <;> omega
    · rw [getD_set_int _ _ _ _ (by omega)]; split <;> omega
set_option maxHeartbeats 1000000 in
set_option maxRecDepth 100000 in
theorem c_FlowOf (A : Option Addr) (cA : Nat) (nn : Int) (L : List Arc) (f t : Int) (w : World) (hA : ArcsAt w A L) (hl : L.length ≤ 140737488351232) :
    Calls Try.prog 27 #[.agg #[.int .i64 nn, .slice A L.length cA], .int .i64 f, .int .i64 t] w (DrawnFlow (flowI nn L f t) w) := by
  have B1 := Blk.new w #[.int .i64 nn, .slice A L.length cA] 34
  have HB1 := below_new w (.cells #[.int .i64 nn, .slice A L.length cA] 34)
  have hA1 := hA.below HB1
  have hHA := Lib.hid hA
  obtain ⟨c0, c1⟩ := B1.cells2
  obtain ⟨b0, h0⟩ : ∃ b, b = apartB ⟨nn, L⟩ f t := ⟨_, rfl⟩
  have H0 := Lib.hid h0
  clear h0 hA
  go_enter Try.func27, Try.ntmps27
  go_wp2_with fail
  refine (c_apart A cA nn L f t _ hA1 hl).mono ?_
  rintro e w2 ⟨rfl, hb⟩
  rw [← H0.out]
  have C2 := B1.below hb
  have HB2 := below_of HB1 hb
  clear hb B1 HB1 c0 c1 hA1
  obtain ⟨d0, d1⟩ := C2.cells2
  cases b0 with
  | false =>
    go_wp2_with fail
    go_ret
    exact ⟨.slice none 0 0, rfl, by unfold flowI; rw [← H0.out]; exact OI.nil _ _, HB2⟩
  | true =>
    have hN : netOkB ⟨nn, L⟩ = true := by have := H0.out.symm; unfold apartB nodesInB at this; simp only [Bool.and_eq_true] at this; exact this.1.1
    obtain ⟨hn1, hn8, hL16, harc⟩ := netOk_parts hN
    have HARC := Lib.hid harc
    have HE := Lib.hid (netOk_ends hN)
    have hs := apart_split nn L f t hN
    rw [← H0.out] at hs
    have hs2 := hs.symm
    simp only [Bool.and_eq_true, Bool.not_eq_true', beq_eq_false_iff_ne] at hs2
    have hf := hs2.1.1
    have ht := hs2.1.2
    have HNE := Lib.hid hs2.2
    simp [inR] at hf ht
    obtain ⟨nm, rfl⟩ := Int.eq_ofNat_of_zero_le (show 0 ≤ nn by omega)
    obtain ⟨fm, rfl⟩ := Int.eq_ofNat_of_zero_le hf.1
    obtain ⟨tm, rfl⟩ := Int.eq_ofNat_of_zero_le ht.1
    have hfn : fm < nm := by omega
    have htn : tm < nm := by omega
    have HAP : Hid (flowI (nm : Int) L fm tm = flowF nm L fm tm) := by show _ = _; unfold flowI; rw [← H0.out]; simp
    have HZ := Lib.hid (zero_ok L (fm : Int) (tm : Int) (fun k hk => (arcOk_parts (HARC.out k hk)).2.2.2.2.2.2.2.2.2.1))
    clear harc hs hs2 hN hf ht
    go_wp2_with ((refine mk_ints w.heap.size rfl _ _ rfl L.length (L.length : Int) rfl rfl rfl (by omega) HB2.size ?_); intro W3 hO3 hg3)
    have hb3 := gb_below_new0 hg3
    have N3 := C2.below hb3
    have HB3 := below_of HB2 hb3
    have hfg : w.heap.size < w2.heap.size := C2.lt
    clear hg3 hb3 C2 d0 d1
    generalize w2.heap.size = fg at *
    go_loopg [] 145 (fun g wr => ∃ (F : List Int), F.length = L.length ∧ OI wr w.heap.size (.slice (some ⟨fg, 0, none⟩) L.length L.length) F ∧ Blk wr w.heap.size #[.int .i64 nm, .slice A L.length cA] 34 ∧ Below w.heap.size w wr ∧ Hid (FlowOk L F fm tm ∧ FlowInv nm L fm tm g true F))
    case atStart => exact ⟨_, by simp, hO3, N3, HB3, HZ.out.1, by unfold FlowInv; rw [if_pos rfl]; exact ⟨rfl, by have := HZ.out.2; rw [this]; omega⟩⟩
    case round =>
      clear hO3 N3 HB3
      obtain ⟨F, hFl, hO, hN, hB, hI⟩ := hrel
      have hFI : (0 : Int) ≤ (fm : Int) ∧ (fm : Int) < (nm : Int) := by omega
      have hneI := HNE.out
      have hbb : ∀ k, k < L.length → 0 ≤ F.getD k 0 ∧ F.getD k 0 ≤ 9 := fun k hk => by
        have h1 := hI.out.1.bnd k hk
        have h2 := (arcOk_parts (HARC.out k hk)).2.2.2.2.2.2.2.2.2.2
        omega
      have hbal : bal L F fm ≤ 9 * L.length := (balN_le (C := 9) hbb (by omega) fm L.length (Nat.le_refl _)).2
      have hge : 145 ≤ bal L F fm + gk := by have := hI.out.2; unfold FlowInv at this; rw [if_pos rfl] at this; exact this.2
      obtain ⟨m, rfl⟩ : ∃ m, gk = m + 1 := ⟨gk - 1, by omega⟩
      have hIA : IntsAt wr (some ⟨fg, 0, none⟩) F := by
        obtain ⟨A', c', e, _, h⟩ := hO.shape
        injection e with e1 _ _
        rw [e1]; exact h
      have hA := c_augment nm A cA L (some ⟨fg, 0, none⟩) L.length F fm tm wr (hHA.out.below hB) hIA hFl hL16 (by omega) (by omega) HE.out hfn
      rw [hFl] at hA
      have HAUG := Lib.hid hA
      have HFl := Lib.hid hFl
      have HBB := Lib.hid hbb
      have HO := Lib.hid hO
      have HN := Lib.hid hN
      have HB := Lib.hid hB
      obtain ⟨c0, c1⟩ := hN.cells2
      clear hA hFl hbb hO hN hB hIA hbal hge
      go_wp2_with fail
      refine HAUG.out.mono ?_
      rintro e w5 ⟨v, rfl, hb5, hst⟩
      clear HAUG
      obtain ⟨r, hr⟩ : ∃ r, r = (pushF nm L F fm tm).2 := ⟨_, rfl⟩
      rw [← hr] at hst ⊢
      have HR := Lib.hid hr
      have HB5 := Lib.hid (below_of HB.out hb5)
      have HO5 := Lib.hid (HO.out.below hb5)
      have N5 := HN.out.below hb5
      have hfl5 : fg < wr.heap.size := (own_ge HO.out fg rfl).2
      clear hr hb5 c0 c1
      obtain ⟨c0, c1⟩ := N5.cells2
      have HN5 := Lib.hid N5
      clear N5
      cases r with
      | false =>
        go_wp2_with fail
        go_ret
        refine ⟨_, rfl, ?_, HB5.out⟩
        have h9 := hI.out.2
        unfold FlowInv at h9
        rw [if_pos rfl, push_false HR.out.symm] at h9
        rw [HAP.out, ← h9.1]
        exact HO5.out
      | true =>
        have hst := hst rfl
        obtain ⟨cs, hcs⟩ : ∃ cs, cs = wayN L (reach nm L F fm) fm nm tm := ⟨_, rfl⟩
        rw [← hcs] at hst
        obtain ⟨AS, cS, rfl, hcS, _⟩ := hst.shape
        have HS5 := Lib.hid hst
        have HWAY : Hid (cs.foldl app1 F = (pushF nm L F fm tm).1) := by show _ = _; rw [hcs]; exact push_true HR.out.symm
        have hlen : cs.length ≤ 8 := by rw [hcs]; have := way_len L (reach nm L F fm) fm nm tm; omega
        have harcs : ∀ i, i < cs.length → arcNo (cs.getD i 0) < F.length := by
          have hS := reach_ok HE.out F hFI
          have hh : foundHas (reach nm L F fm) tm = true := by
            have := HR.out
            unfold pushF at this
            split at this
            · assumption
            · cases this
          obtain ⟨p, hp, e⟩ := has_at hh
          have := way_arcs hS nm p hp
          rw [e, ← hcs] at this
          rw [HFl.out]; exact this
        have HARCS := Lib.hid harcs
        clear hst hcs harcs
        generalize wr.heap.size = base5 at *
        go_wp2_with fail
        go_loopw [34] (fun v34 wz => ∃ k : Nat, k ≤ cs.length ∧ v34 = .int .i64 k ∧ OI wz w.heap.size (.slice (some ⟨fg, 0, none⟩) L.length L.length) ((cs.take k).foldl app1 F) ∧ Blk wz w.heap.size #[.int .i64 nm, .slice A L.length cA] 34 ∧ Below w.heap.size w wz ∧ OS wz base5 (.slice AS cs.length cS) cs) (fun v34 _ => cs.length - (intOf v34).toNat)
        case atStart => exact ⟨0, Nat.zero_le _, rfl, HO5.out, HN5.out, HB5.out, HS5.out⟩
        case round =>
          clear HO5 HN5 HB5 HS5 c0 c1
          obtain ⟨k, hk, rfl, hO, hN, hB, hS⟩ := hrel
          by_cases hlt : k < cs.length
          · have hltI : (k : Int) < (cs.length : Int) := by omega
            have hbd := app1_bound F cs k hk HARCS.out (fun j hj => HBB.out j (by rw [← HFl.out]; exact hj)) (arcNo (cs.getD k 0)) (HARCS.out k hlt)
            have haF := HARCS.out k hlt
            have htk := take_snoc cs k 0 hlt
            obtain ⟨c, hc⟩ : ∃ c, c = cs.getD k 0 := ⟨_, rfl⟩
            rw [← hc] at hbd haF htk
            obtain ⟨a, ha⟩ : ∃ a, a = arcNo c := ⟨_, rfl⟩
            obtain ⟨fw, hfw⟩ : ∃ b, b = isFwd c := ⟨_, rfl⟩
            rw [← ha] at hbd haF
            obtain ⟨gs, cap, e, _, hbs, hgs, hcell, _⟩ := own_at hS (by omega)
            have hcs := stepCells_at cs k hlt
            have s0 := hcell _ _ hcs.1
            have s1 := hcell _ _ hcs.2
            rw [← hc] at s0 s1
            rw [← ha] at s0
            rw [← hfw] at s1
            injection e with e1 e2 e3
            subst e1
            clear e2 e3 hcell hcs
            obtain ⟨G, hG⟩ : ∃ G, G = (cs.take k).foldl app1 F := ⟨_, rfl⟩
            rw [← hG] at hO hbd
            have hGl : G.length = F.length := by rw [hG]; exact way_length _ _
            obtain ⟨_, _, e, _, hgfs, hgc, hgf⟩ := hO.at (by omega)
            injection e with e1 e2 e3
            injection e1 with e1
            injection e1 with e1
            subst e1
            clear e2 e3
            have ga := hgc a (by omega)
            have gfa := hgf a
            clear hgc hgf
            obtain ⟨gv, hgv⟩ : ∃ y, y = G.getD a 0 := ⟨_, rfl⟩
            rw [← hgv] at ga hbd
            have hgv1 : -10 ≤ gv := by omega
            have hgv2 : gv ≤ 20 := by omega
            have haL : (a : Int) < (L.length : Int) := by have := HFl.out; omega
            have ha0 : (0 : Int) ≤ (a : Int) := by omega
            have ga5 := (cell_keep (Below.heap_alloc wr (.cells #[.int .i64 a, .bool fw] 94) fg hgfs) a).trans ga
            have gfa5 := frozen_keep (Below.heap_alloc wr (.cells #[.int .i64 a, .bool fw] 94) fg hgfs) gfa
            have X5 := Blk.new wr #[.int .i64 a, .bool fw] 94
            have O5 := hO.below (below_new wr (.cells #[.int .i64 a, .bool fw] 94))
            have N5 := hN.alloc (.cells #[.int .i64 a, .bool fw] 94)
            have B5 := below_alloc hB (.cells #[.int .i64 a, .bool fw] 94)
            have S5 : OS (wr.alloc (.cells #[.int .i64 a, .bool fw] 94)) base5 (.slice (some ⟨gs, 0, none⟩) cs.length cS) cs := own_below hS (below_new _ _)
            have hnew : ∀ y, (y = gv + 1 ∧ fw = true ∨ y = gv - 1 ∧ fw = false) → (cs.take (k + 1)).foldl app1 F = G.set a y := fun y hy => by
              rw [htk, List.foldl_append, ← hG]
              show app1 G c = _
              unfold app1
              rw [← ha, ← hgv]
              unfold isFwd at hfw
              rcases hy with ⟨rfl, h⟩ | ⟨rfl, h⟩
              · rw [h] at hfw; rw [if_pos (of_decide_eq_true hfw.symm)]
              · rw [h] at hfw; rw [if_neg (of_decide_eq_false hfw.symm)]
            have HNEW := Lib.hid hnew
            have HO := Lib.hid O5
            have HN' := Lib.hid N5
            have HB' := Lib.hid B5
            have HS' := Lib.hid S5
            obtain ⟨x0, x1⟩ := X5.cells2
            clear hc ha hfw hG hgv hO hN hB hS ga gfa O5 N5 B5 S5 X5 hnew htk hbd
            go_upto_region 10 with fail
            generalize wr.alloc (.cells #[.int .i64 a, .bool fw] 94) = W5 at *
            cases fw with
            | true =>
              have r1 := HNEW.out (gv + 1) (.inl ⟨rfl, rfl⟩)
              have HRR := Lib.hid r1
              have HO7 := Lib.hid (HO.out.set' a (gv + 1))
              have HN7 := Lib.hid (HN'.out.far (p := ⟨fg, a, none⟩) (by show w.heap.size ≠ fg; omega) (.int .i64 (gv + 1)))
              have HB7 := Lib.hid (HB'.out.setCell (p := ⟨fg, a, none⟩) (by show w.heap.size ≤ fg; omega) (.int .i64 (gv + 1)))
              have HS7 : Hid (OS (W5.setCell ⟨fg, a, none⟩ (.int .i64 (gv + 1))) base5 _ cs) := own_far HS'.out (p := ⟨fg, a, none⟩) (fun e => by have := (own_ge HS'.out _ e).1; show False; simp at this; omega) (.int .i64 (gv + 1))
              clear r1
              go_wp2_with fail
              go_roundw
              case rel => exact ⟨k + 1, by omega, by go_num, by rw [HRR.out]; exact HO7.out, HN7.out, HB7.out, HS7.out⟩
              case measure => simp [intOf]; omega
            | false =>
              have r1 := HNEW.out (gv - 1) (.inr ⟨rfl, rfl⟩)
              have HRR := Lib.hid r1
              have HO7 := Lib.hid (HO.out.set' a (gv - 1))
              have HN7 := Lib.hid (HN'.out.far (p := ⟨fg, a, none⟩) (by show w.heap.size ≠ fg; omega) (.int .i64 (gv - 1)))
              have HB7 := Lib.hid (HB'.out.setCell (p := ⟨fg, a, none⟩) (by show w.heap.size ≤ fg; omega) (.int .i64 (gv - 1)))
              have HS7 : Hid (OS (W5.setCell ⟨fg, a, none⟩ (.int .i64 (gv - 1))) base5 _ cs) := own_far HS'.out (p := ⟨fg, a, none⟩) (fun e => by have := (own_ge HS'.out _ e).1; show False; simp at this; omega) (.int .i64 (gv - 1))
              clear r1
              go_wp2_with fail
              go_roundw
              case rel => exact ⟨k + 1, by omega, by go_num, by rw [HRR.out]; exact HO7.out, HN7.out, HB7.out, HS7.out⟩
              case measure => simp [intOf]; omega
          · have hltI : ¬ (k : Int) < (cs.length : Int) := by omega
            have HFIN : Hid ((cs.take k).foldl app1 F = (pushF nm L F fm tm).1) := by show _ = _; rw [List.take_of_length_le (by omega)]; exact HWAY.out
            have HO := Lib.hid hO
            have HN' := Lib.hid hN
            have HB' := Lib.hid hB
            clear hO hN hB hS
            go_wp2_with fail
            go_roundg m
            case measure => omega
            case rel =>
              refine ⟨(pushF nm L F fm tm).1, ?_, by rw [← HFIN.out]; exact HO.out, HN'.out, HB'.out, push_flow HE.out hFI hneI hI.out.1, ?_⟩
              · rw [← HFIN.out, way_length]; exact HFl.out
              · have := flowInv_step hI.out.2 (fun h => (push_ok HE.out hFI hneI hI.out.1 h).2)
                rw [← HR.out] at this
                exact this
end Go.Proofs.Ythglnmhcgagkdaa
