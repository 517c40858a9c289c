/- Walk: spec.FlowOf. -/
import Derived.Test.YthglnmhcgagkdaaG1
import Derived.Deep.LoopGhost
namespace Go.Proofs.Ythglnmhcgagkdaa
open Go.RowKit
def flowI (nn : Int) (L : List Arc) (f t : Int) : List Int := if apartB ⟨nn, L⟩ f t then flowF nn.toNat L f t else []
def DrawnFlow (xs : List Int) (w : World) (e : Ending) (w' : World) : Prop := ∃ v, e = .returned v ∧ OI w' w.heap.size v xs ∧ Below w.heap.size w w'
theorem apart_split (nn : Int) (L : List Arc) (f t : Int) (h : netOkB ⟨nn, L⟩ = true) : apartB ⟨nn, L⟩ f t = (inR f 0 (nn - 1) && inR t 0 (nn - 1) && !(f == t)) := by
  have hn : 1 ≤ nn ∧ nn ≤ 8 := by unfold netOkB at h; simp only [Bool.and_eq_true] at h; simpa [inR] using h.1.1
  unfold apartB nodesInB hasB
  simp only [h, Bool.true_and, List.all_cons, List.all_nil, Bool.and_true]
  rw [top_in hn.1 hn.2]
theorem netOk_parts {nn : Int} {L : List Arc} (h : netOkB ⟨nn, L⟩ = true) : 1 ≤ nn ∧ nn ≤ 8 ∧ L.length ≤ 16 ∧ ∀ k, k < L.length → arcOkB nn (L.getD k arcD) = true := by
  unfold netOkB at h
  simp only [Bool.and_eq_true] at h
  have hn : 1 ≤ nn ∧ nn ≤ 8 := by simpa [inR] using h.1.1
  exact ⟨hn.1, hn.2, of_decide_eq_true h.1.2, fun k hk => all_at arcD h.2 k hk⟩
theorem arcOk_parts {nn : Int} {a : Arc} (h : arcOkB nn a = true) : 0 ≤ a.fr ∧ a.fr < nn ∧ 0 ≤ a.to ∧ a.to < nn ∧ a.fr ≠ a.to ∧ 0 ≤ a.co ∧ a.co ≤ 99 ∧ 0 ≤ a.tl ∧ a.tl ≤ 99 ∧ 0 ≤ a.ld ∧ a.ld ≤ 9 := by
  unfold arcOkB inR at h
  simp at h
  omega
theorem netOk_ends {nn : Int} {L : List Arc} (h : netOkB ⟨nn, L⟩ = true) : EndsOk nn L := fun k hk => by
  have := arcOk_parts ((netOk_parts h).2.2.2 k hk)
  omega
theorem flowI_ok {nn : Int} {L : List Arc} {f t : Int} (h : netOkB ⟨nn, L⟩ = true) (hf : 0 ≤ f ∧ f < nn) (hne : f ≠ t) : FlowOk L (flowF nn.toNat L f t) f t ∧ (pushF nn.toNat L (flowF nn.toNat L f t) f t).2 = false := by
  obtain ⟨h1, h2, h3, h4⟩ := netOk_parts h
  have hE := netOk_ends h
  have e : ((nn.toNat : Nat) : Int) = nn := by omega
  have hz := zero_ok L f t (fun k hk => (arcOk_parts (h4 k hk)).2.2.2.2.2.2.2.2.2.1)
  exact flowN_ok (nn := nn.toNat) (by rw [e]; exact hE) ⟨hf.1, by omega⟩ hne (fun k hk => (arcOk_parts (h4 k hk)).2.2.2.2.2.2.2.2.2.2) h3 145 _ hz.1 (by rw [hz.2]; omega)
def FlowInv (nm : Nat) (L : List Arc) (f t : Int) (g : Nat) (b : Bool) (F : List Int) : Prop := if b then flowN nm L f t g F = flowF nm L f t ∧ 145 ≤ bal L F f + g else F = flowF nm L f t
theorem flowInv_step {nm : Nat} {L : List Arc} {f t : Int} {m : Nat} {F : List Int} (h : FlowInv nm L f t (m + 1) true F) (hp : (pushF nm L F f t).2 = true → bal L (pushF nm L F f t).1 f = bal L F f + 1) : FlowInv nm L f t m (pushF nm L F f t).2 (pushF nm L F f t).1 := by
  unfold FlowInv at h ⊢
  simp only [if_true] at h
  obtain ⟨h1, h2⟩ := h
  simp only [flowN] at h1
  cases hr : (pushF nm L F f t).2 with
  | false =>
    rw [hr] at h1
    have e : (pushF nm L F f t).1 = F := by
      unfold pushF at hr ⊢
      split at hr
      · cases hr
      · rename_i h; rw [if_neg h]
    simp only [Bool.false_eq_true, if_false] at h1 ⊢
    rw [e]; exact h1
  | true =>
    rw [hr] at h1
    simp only [if_true] at h1 ⊢
    have := hp hr
    exact ⟨h1, by omega⟩
theorem push_flow {nm : Nat} {L : List Arc} {f t : Int} {F : List Int} (hE : EndsOk nm L) (hf : 0 ≤ f ∧ f < nm) (hne : f ≠ t) (h : FlowOk L F f t) : FlowOk L (pushF nm L F f t).1 f t := by
  cases hr : (pushF nm L F f t).2 with
  | true => exact (push_ok hE hf hne h hr).1
  | false =>
    have e : (pushF nm L F f t).1 = F := by
      unfold pushF at hr ⊢
      split at hr
      · cases hr
      · rename_i h; rw [if_neg h]
    rw [e]; exact h
set_option maxHeartbeats 1000000 in
set_option maxRecDepth 100000 in
theorem c_specFlowOf (A : Option Addr) (cA : Nat) (nn : Int) (L : List Arc) (f t : Int) (w : World) (hA : ArcsAt w A L) (hl : L.length ≤ 140737488351232) :
    Calls Try.prog 29 #[.agg #[.int .i64 nn, .slice A L.length cA], .int .i64 f, .int .i64 t] w (DrawnFlow (flowI nn L f t) w) := by
  have B1 := Blk.new w #[.int .i64 nn, .slice A L.length cA] 34
  have HB1 := below_new w (.cells #[.int .i64 nn, .slice A L.length cA] 34)
  have hA1 := hA.below HB1
  have hHA := Lib.hid hA
  obtain ⟨c0, c1⟩ := B1.cells2
  obtain ⟨b0, h0⟩ : ∃ b, b = netOkB ⟨nn, L⟩ := ⟨_, rfl⟩
  have H0 := Lib.hid h0
  clear h0 hA
  go_enter Try.func29, Try.ntmps29
  go_wp2_with fail
  refine (c_l1Ok A cA nn L _ hA1 hl).mono ?_
  rintro e w2 ⟨rfl, hb⟩
  rw [← H0.out]
  have C2 := B1.below hb
  have HB2 := below_of HB1 hb
  clear hb B1 HB1 c0 c1 hA1
  obtain ⟨d0, d1⟩ := C2.cells2
  cases b0 with
  | false =>
    go_wp2_with fail
    go_ret
    exact ⟨.slice none 0 0, rfl, by unfold flowI apartB nodesInB; rw [← H0.out]; exact OI.nil _ _, HB2⟩
  | true =>
    obtain ⟨hn1, hn8, hL16, harc⟩ := netOk_parts H0.out.symm
    have HARC := Lib.hid harc
    have HS := Lib.hid (apart_split nn L f t H0.out.symm)
    clear harc
    obtain ⟨b1, h1⟩ : ∃ b, b = inR f 0 (nn - 1) := ⟨_, rfl⟩
    obtain ⟨b2, h2⟩ : ∃ b, b = inR t 0 (nn - 1) := ⟨_, rfl⟩
    have H1 := Lib.hid h1
    have H2 := Lib.hid h2
    clear h1 h2
    go_wp2_with fail
    refine (c_l1In_b b1 _ _ _ _ H1).mono ?_
    rintro e w' ⟨rfl, rfl⟩
    cases b1 with
    | false =>
      go_wp2_with fail
      go_ret
      exact ⟨.slice none 0 0, rfl, by unfold flowI; rw [HS.out, ← H1.out]; exact OI.nil _ _, HB2⟩
    | true =>
      go_wp2_with fail
      refine (c_l1In_b b2 _ _ _ _ H2).mono ?_
      rintro e w' ⟨rfl, rfl⟩
      cases b2 with
      | false =>
        go_wp2_with fail
        go_ret
        exact ⟨.slice none 0 0, rfl, by unfold flowI; rw [HS.out, ← H1.out, ← H2.out]; exact OI.nil _ _, HB2⟩
      | true =>
        by_cases hft : f = t
        · have hft' : (f == t) = true := by simpa using hft
          have HFT := Lib.hid hft'
          clear hft
          go_wp2_with fail
          go_ret
          exact ⟨.slice none 0 0, rfl, by unfold flowI; rw [HS.out, ← H1.out, ← H2.out, HFT.out]; exact OI.nil _ _, HB2⟩
        · have hft' : (f == t) = false := by simpa using hft
          have HFT := Lib.hid hft'
          have HNE := Lib.hid hft
          clear hft
          have HAP : Hid (flowI nn L f t = flowF nn.toNat L f t) := by show _ = _; unfold flowI; rw [HS.out, ← H1.out, ← H2.out, HFT.out]; rfl
          have hf := H1.out
          have ht := H2.out
          simp [inR] at hf ht
          have hf0 := hf.1
          have hf1 := hf.2
          have ht0 := ht.1
          have ht1 := ht.2
          clear hf ht
          go_wp2_with ((refine mk_ints w.heap.size rfl _ _ rfl L.length (L.length : Int) rfl rfl rfl (by omega) HB2.size ?_); intro W3 hO3 hg3)
          have hb3 := gb_below_new0 hg3
          have N3 := C2.below hb3
          have HB3 := below_of HB2 hb3
          have hz := zero_ok L f t (fun k hk => (arcOk_parts (HARC.out k hk)).2.2.2.2.2.2.2.2.2.1)
          have HZ := Lib.hid hz
          clear hg3 hb3 hz C2 d0 d1
          obtain ⟨nm, rfl⟩ := Int.eq_ofNat_of_zero_le (show 0 ≤ nn by omega)
          obtain ⟨fm, rfl⟩ := Int.eq_ofNat_of_zero_le hf0
          obtain ⟨tm, rfl⟩ := Int.eq_ofNat_of_zero_le ht0
          have HE := Lib.hid (netOk_ends H0.out.symm)
          have hfn : fm < nm := by omega
          have htn : tm < nm := by omega
          have HNE' : Hid (fm ≠ tm) := fun e => HNE.out (by rw [e])
          have HAP' : Hid (flowI (nm : Int) L fm tm = flowF nm L fm tm) := by show _ = _; rw [HAP.out]; simp
          go_loopg [7, 8] 145 (fun g v7 v8 wr => ∃ (F : List Int) (b : Bool), v8 = .bool b ∧ OI wr w.heap.size v7 F ∧ Blk wr w.heap.size #[.int .i64 nm, .slice A L.length cA] 34 ∧ Below w.heap.size w wr ∧ FlowOk L F fm tm ∧ Hid (FlowInv nm L fm tm g b F))
          case atStart => exact ⟨_, true, rfl, hO3, N3, HB3, HZ.out.1, by show FlowInv _ _ _ _ _ _ _; unfold FlowInv; rw [if_pos rfl]; exact ⟨rfl, by have := HZ.out.2; rw [this]; omega⟩⟩
          case round =>
            clear hO3 N3 HB3
            obtain ⟨F, b, rfl, hO, hN, hB, hF, hI⟩ := hrel
            have HF := Lib.hid hF
            have HO := Lib.hid hO
            have HB := Lib.hid hB
            obtain ⟨c0, c1⟩ := hN.cells2
            have HN := Lib.hid hN
            clear hF hO hB hN
            cases b with
            | false =>
              go_wp2_with fail
              go_ret
              exact ⟨_, rfl, by rw [HAP'.out, ← (show F = flowF nm L fm tm from hI.out)]; exact HO.out, HB.out⟩
            | true =>
              have hbb : ∀ k, k < L.length → 0 ≤ F.getD k 0 ∧ F.getD k 0 ≤ 9 := fun k hk => by
                have h1 := HF.out.bnd k hk
                have h2 := (arcOk_parts (HARC.out k hk)).2.2.2.2.2.2.2.2.2.2
                omega
              have hbal : bal L F fm ≤ 9 * L.length := (balN_le (C := 9) hbb (by omega) fm L.length (Nat.le_refl _)).2
              have hge : 145 ≤ bal L F fm + gk := (show flowN nm L fm tm gk F = flowF nm L fm tm ∧ 145 ≤ bal L F fm + gk from hI.out).2
              obtain ⟨m, hm⟩ : ∃ m, gk = m + 1 := ⟨gk - 1, by omega⟩
              have HM := Lib.hid hm
              have HBB := Lib.hid hbb
              clear hbb hbal hge hm
              go_wp2_with fail
              refine (c_Push nm A cA L u7 w.heap.size F fm tm wr (hHA.out.below HB.out) HO.out HB.out.size HF.out.len hL16 (by omega) (by omega) HE.out hfn htn HNE'.out HBB.out).mono ?_
              rintro e w5 ⟨v5, rfl, hO5, hb5⟩
              have HO5 := Lib.hid hO5
              have HB5 := Lib.hid (below_of HB.out hb5)
              have HN5 := Lib.hid (HN.out.below hb5)
              obtain ⟨r, hr⟩ : ∃ r, r = (pushF nm L F fm tm).2 := ⟨_, rfl⟩
              rw [← hr]
              have HR := Lib.hid hr
              clear hr hO5 hb5 c0 c1
              go_wp2_with fail
              go_roundg m
              case measure => have := HM.out; omega
              case rel =>
                have hFI : (0 : Int) ≤ (fm : Int) ∧ (fm : Int) < (nm : Int) := by omega
                have hneI : (fm : Int) ≠ (tm : Int) := by have := HNE'.out; omega
                refine ⟨_, r, rfl, HO5.out, HN5.out, HB5.out, push_flow HE.out hFI hneI HF.out, ?_⟩
                show FlowInv _ _ _ _ _ _ _
                rw [HR.out]
                have h9 := hI.out
                rw [HM.out] at h9
                exact flowInv_step h9 (fun h => (push_ok HE.out hFI hneI HF.out h).2)
end Go.Proofs.Ythglnmhcgagkdaa
