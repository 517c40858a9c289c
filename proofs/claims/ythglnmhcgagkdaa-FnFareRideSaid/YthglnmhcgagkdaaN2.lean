/- Walk: spec.l1Ok says the same as impl.NetOk. -/
import Derived.Test.YthglnmhcgagkdaaN1
namespace Go.Proofs.Ythglnmhcgagkdaa
open Go.RowKit
theorem netOk_spec (nn : Int) (L : List Arc) : (!L.any (badB nn) && (inR nn 1 8 && decide (L.length ≤ 16))) = netOkB ⟨nn, L⟩ := by
  cases h0 : inR nn 1 8 with
  | false => unfold netOkB; simp only [h0, Bool.false_and, Bool.and_false]
  | true =>
    cases h1 : decide (L.length ≤ 16) with
    | false => unfold netOkB; simp only [h0, h1, Bool.false_and, Bool.and_false]
    | true => rw [← netOk_bad ⟨nn, L⟩ h0 h1]; simp
theorem any_take_next {α : Type} (p : α → Bool) (L : List α) (d : α) (k : Nat) (h : k < L.length) : ((L.take (k + 1)).any p) = ((L.take k).any p || p (L.getD k d)) := by
  rw [List.take_succ_eq_append_getElem h, List.any_append]
  simp [List.getD_eq_getElem?_getD, h]
theorem any_of_take {α : Type} (p : α → Bool) (L : List α) (k : Nat) (h : (L.take k).any p = true) : L.any p = true := by
  rw [List.any_eq_true] at h ⊢
  obtain ⟨x, hx, hp⟩ := h
  exact ⟨x, List.mem_of_mem_take hx, hp⟩
set_option maxHeartbeats 1000000 in
set_option maxRecDepth 100000 in
theorem c_l1Ok (A : Option Addr) (c : Nat) (nn : Int) (L : List Arc) (w : World) (hA : ArcsAt w A L) (hl : L.length ≤ 140737488351232) :
    Calls Try.prog 65 #[.agg #[.int .i64 nn, .slice A L.length c]] w fun e w' => e = .returned (.bool (netOkB ⟨nn, L⟩)) ∧ Below w.heap.size w w' := by
  have B1 := Blk.new w #[.int .i64 nn, .slice A L.length c] 34
  have HB1 := below_new w (.cells #[.int .i64 nn, .slice A L.length c] 34)
  have hA1 := hA.below HB1
  go_enter Try.func65, Try.ntmps65
  go_wp2_with fail
  generalize w.alloc (.cells #[.int .i64 nn, .slice A L.length c] 34) = W1 at *
  go_loopw [3] (fun v3 wr => ∃ k : Nat, k ≤ L.length ∧ v3 = .int .i64 k ∧ Below w.heap.size w wr ∧ Blk wr w.heap.size #[.int .i64 nn, .slice A L.length c] 34 ∧ ArcsAt wr A L ∧ Hid ((L.take k).any (badB nn) = false)) (fun v3 _ => L.length - (intOf v3).toNat)
  case atStart => exact ⟨0, Nat.zero_le _, rfl, HB1, B1, hA1, by show _ = _; simp⟩
  case round =>
    clear B1 HB1 hA1 hA
    obtain ⟨k, hk, rfl, HB1, B1, hA1, hn⟩ := hrel
    obtain ⟨c0, c1⟩ := B1.cells2
    have hlt := B1.lt
    by_cases hlt : k < L.length
    · have hkI : (k : Int) < (L.length : Int) := by omega
      have hHA := Lib.hid hA1
      obtain ⟨g, o, rfl, hg, hc⟩ := hA1.at (by omega)
      obtain ⟨h0, h1, h2, h3, h4⟩ := hc k hlt
      clear hc hA1
      obtain ⟨x, hxx⟩ : ∃ x, x = L.getD k arcD := ⟨_, rfl⟩
      rw [← hxx] at h0 h1 h2 h3 h4
      have HT := Lib.hid (any_take_next (badB nn) L arcD k hlt)
      rw [← hxx] at HT
      clear hxx
      obtain ⟨fr, tt, co, tl, ld⟩ := x
      have HB2 := below_alloc HB1 (.cells #[.int .i64 fr, .int .i64 tt, .int .i64 co, .int .i64 tl, .int .i64 ld] 40)
      have B2 := B1.alloc (.cells #[.int .i64 fr, .int .i64 tt, .int .i64 co, .int .i64 tl, .int .i64 ld] 40)
      have HA2 := Lib.hid (hHA.out.below (below_new wr (.cells #[.int .i64 fr, .int .i64 tt, .int .i64 co, .int .i64 tl, .int .i64 ld] 40)))
      have HB2 := Lib.hid HB2
      obtain ⟨b0, h0'⟩ : ∃ b, b = inR fr 0 (wrap64 (nn - 1)) := ⟨_, rfl⟩
      obtain ⟨b1, h1'⟩ : ∃ b, b = inR tt 0 (wrap64 (nn - 1)) := ⟨_, rfl⟩
      obtain ⟨b2, h2'⟩ : ∃ b, b = inR co 0 99 := ⟨_, rfl⟩
      obtain ⟨b3, h3'⟩ : ∃ b, b = inR tl 0 99 := ⟨_, rfl⟩
      obtain ⟨b4, h4'⟩ : ∃ b, b = inR ld 0 9 := ⟨_, rfl⟩
      have HR : Hid (badB nn ⟨fr, tt, co, tl, ld⟩ = (!b0 || !b1 || (fr == tt) || !b2 || !b3 || !b4)) := by
        show _ = _
        unfold badB hasB topOf
        simp only [h0', h1', h2', h3', h4', List.all_cons, List.all_nil, Bool.and_true, Bool.not_and]
      have H0 := Lib.hid h0'
      have H1 := Lib.hid h1'
      have H2 := Lib.hid h2'
      have H3 := Lib.hid h3'
      have H4 := Lib.hid h4'
      clear h0' h1' h2' h3' h4' hg
      have HFAIL : Hid (badB nn ⟨fr, tt, co, tl, ld⟩ = true → false = netOkB ⟨nn, L⟩) := fun hb => by
        rw [← netOk_spec, any_of_take _ L (k + 1) (by rw [HT.out, hb, Bool.or_true])]
        rfl
      have HGO : Hid (badB nn ⟨fr, tt, co, tl, ld⟩ = false → (L.take (k + 1)).any (badB nn) = false) := fun hb => by rw [HT.out, hn.out, hb]; rfl
      obtain ⟨d0, d1⟩ := B2.cells2
      obtain ⟨e0, e1, e2, e3, e4⟩ := (Blk.new wr #[.int .i64 fr, .int .i64 tt, .int .i64 co, .int .i64 tl, .int .i64 ld] 40).cells5
      have HBL := Lib.hid B2
      clear B2 B1 HB1
      go_wp2_with fail
      refine (c_l1In_b b0 _ _ _ _ H0).mono ?_
      rintro e w' ⟨rfl, rfl⟩
      cases b0
      · go_wp2
        go_ret
        exact ⟨by rw [← HFAIL.out (by rw [HR.out]; rfl)]; rfl, HB2.out⟩
      · go_wp2_with fail
        refine (c_l1In_b b1 _ _ _ _ H1).mono ?_
        rintro e w' ⟨rfl, rfl⟩
        cases b1
        · go_wp2
          go_ret
          exact ⟨by rw [← HFAIL.out (by rw [HR.out]; rfl)]; rfl, HB2.out⟩
        · by_cases hft : fr = tt
          · have hft' : (fr == tt) = true := by simpa using hft
            have HFT := Lib.hid hft'
            clear hft
            go_wp2
            go_ret
            exact ⟨by rw [← HFAIL.out (by rw [HR.out, HFT.out]; rfl)]; rfl, HB2.out⟩
          · have hft' : (fr == tt) = false := by simpa using hft
            have HFT := Lib.hid hft'
            clear hft
            go_wp2_with fail
            refine (c_l1In_b b2 _ _ _ _ H2).mono ?_
            rintro e w' ⟨rfl, rfl⟩
            cases b2
            · go_wp2
              go_ret
              exact ⟨by rw [← HFAIL.out (by rw [HR.out, HFT.out]; rfl)]; rfl, HB2.out⟩
            · go_wp2_with fail
              refine (c_l1In_b b3 _ _ _ _ H3).mono ?_
              rintro e w' ⟨rfl, rfl⟩
              cases b3
              · go_wp2
                go_ret
                exact ⟨by rw [← HFAIL.out (by rw [HR.out, HFT.out]; rfl)]; rfl, HB2.out⟩
              · go_wp2_with fail
                refine (c_l1In_b b4 _ _ _ _ H4).mono ?_
                rintro e w' ⟨rfl, rfl⟩
                cases b4
                · go_wp2
                  go_ret
                  exact ⟨by rw [← HFAIL.out (by rw [HR.out, HFT.out]; rfl)]; rfl, HB2.out⟩
                · go_wp2
                  go_roundw
                  case rel =>
                    exact ⟨k + 1, by omega, by go_num, HB2.out, HBL.out, HA2.out, HGO.out (by rw [HR.out, HFT.out]; rfl)⟩
                  case measure => simp [intOf]; omega
    · have hkI : ¬ (k : Int) < (L.length : Int) := by omega
      have hkL : k = L.length := by omega
      obtain ⟨b0, h0⟩ : ∃ b, b = inR nn 1 8 := ⟨_, rfl⟩
      have HN : Hid (L.any (badB nn) = false) := by have := hn.out; rw [hkL, List.take_length] at this; exact this
      have H0 := Lib.hid h0
      clear h0
      go_wp2_with fail
      refine (c_l1In_b b0 _ _ _ _ H0).mono ?_
      rintro e w' ⟨rfl, rfl⟩
      cases b0
      · go_wp2
        go_ret
        exact ⟨by rw [← netOk_spec, HN.out, ← H0.out]; rfl, HB1⟩
      · have HD : Hid (decide (L.length ≤ 16) = decide ((L.length : Int) ≤ 16)) := by show _ = _; simp only [decide_eq_decide]; omega
        go_wp2
        go_ret
        exact ⟨by rw [← netOk_spec, HN.out, ← H0.out, HD.out]; rfl, HB1⟩
end Go.Proofs.Ythglnmhcgagkdaa
