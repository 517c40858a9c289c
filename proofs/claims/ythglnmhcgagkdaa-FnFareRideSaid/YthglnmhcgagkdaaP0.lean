/- Walks: parts and walks checked, both sides. -/
import Derived.Test.YthglnmhcgagkdaaJ0
import Derived.Test.YthglnmhcgagkdaaN2
import Derived.Test.YthglnmhcgagkdaaA4
namespace Go.Proofs.Ythglnmhcgagkdaa
open Go.RowKit
def zoneB (xs : List Int) : Bool := xs.all fun x => inR x 0 3
def zonesB (nn : Int) (xs : List Int) : Bool := (xs.length : Int) == nn && zoneB xs
def arcI (L : List Arc) (k : Int) : Arc := L.getD k.toNat arcD
def stepOkB (L : List Arc) (w : List Int) (i : Nat) : Bool := inR (w.getD i 0) 0 ((L.length : Int) - 1) && (decide (i = 0) || (arcI L (w.getD (i - 1) 0)).to == (arcI L (w.getD i 0)).fr)
def stepsB (L : List Arc) (w : List Int) : Bool := (List.range w.length).all (stepOkB L w)
def walkB (L : List Arc) (w : List Int) : Bool := decide (w.length ≤ 20) && stepsB L w
theorem netP {nn : Int} {L : List Arc} (h : netOkB ⟨nn, L⟩ = true) : 1 ≤ nn ∧ nn ≤ 8 ∧ L.length ≤ 16 ∧ ∀ k, k < L.length → arcOkB nn (L.getD k arcD) = true := by
  unfold netOkB at h
  simp only [Bool.and_eq_true] at h
  have hn : 1 ≤ nn ∧ nn ≤ 8 := by simpa [inR] using h.1.1
  exact ⟨hn.1, hn.2, of_decide_eq_true h.1.2, fun k hk => all_at arcD h.2 k hk⟩
theorem arcP {nn : Int} {a : Arc} (h : arcOkB nn a = true) : 0 ≤ a.fr ∧ a.fr < nn ∧ 0 ≤ a.to ∧ a.to < nn ∧ a.fr ≠ a.to ∧ 0 ≤ a.co ∧ a.co ≤ 99 ∧ 0 ≤ a.tl ∧ a.tl ≤ 99 ∧ 0 ≤ a.ld ∧ a.ld ≤ 9 := by
  unfold arcOkB inR at h
  simp at h
  omega
theorem c_partOk1 (n : Int) (w : World) :
    Calls Try.prog 101 #[.int .i64 n] w fun e w' => e = .returned (.bool (!inR n 0 3)) ∧ w = w' := by
  go_enter Try.func101, Try.ntmps101
  go_wp2_with (go_at_call 64; refine (c_within _ _ _ _).mono ?_; rintro e w' ⟨rfl, rfl⟩)
  go_ret
  exact ⟨rfl, rfl⟩
theorem clo_partOk1 (w : World) : CloI 101 #[] (fun x => !inR x 0 3) w := by
  refine ⟨fun xa w => by go_simp, fun x w _ => ?_⟩
  refine (c_partOk1 x w).mono ?_
  rintro e w' ⟨rfl, rfl⟩
  exact ⟨rfl, Below.refl _ _⟩
set_option maxHeartbeats 400000 in
theorem c_partOk (A : Option Addr) (cA : Nat) (nn : Int) (L : List Arc) (B : Option Addr) (cB : Nat) (zs : List Int) (w : World) (hA : ArcsAt w A L) (hl : L.length ≤ 140737488351232) (hB : IntsAt w B zs) (hz : zs.length ≤ 140737488351232) :
    Calls Try.prog 71 #[.agg #[.int .i64 nn, .slice A L.length cA], .slice B zs.length cB] w fun e w' => e = .returned (.bool (netOkB ⟨nn, L⟩ && zonesB nn zs)) ∧ Below w.heap.size w w' := by
  have B1 := Blk.new w #[.int .i64 nn, .slice A L.length cA] 34
  have HB1 := below_new w (.cells #[.int .i64 nn, .slice A L.length cA] 34)
  have A1 := hA.below HB1
  have Z1 := hB.below HB1
  obtain ⟨c0, c1⟩ := B1.cells2
  obtain ⟨b0, h0⟩ : ∃ b, b = netOkB ⟨nn, L⟩ := ⟨_, rfl⟩
  have H0 := Lib.hid h0
  rw [← h0]
  clear h0 hA hB
  go_enter Try.func71, Try.ntmps71
  go_wp2_with fail
  refine (c_NetOk A cA nn L _ A1 hl).mono ?_
  rintro e w2 ⟨rfl, hb⟩
  rw [← H0.out]
  have C2 := B1.below hb
  have HB2 := below_of HB1 hb
  have Z2 := Z1.below hb
  clear hb B1 HB1 Z1 A1 c0 c1
  obtain ⟨d0, d1⟩ := C2.cells2
  cases b0 with
  | false =>
    go_wp2_with fail
    go_ret
    exact ⟨rfl, HB2⟩
  | true =>
    by_cases hn : (zs.length : Int) = nn
    · have hn' : ((zs.length : Int) == nn) = true := by simpa using hn
      have HZ : Hid (zonesB nn zs = zoneB zs) := by show _ = _; unfold zonesB; rw [hn']; rfl
      clear hn
      go_wp2_with fail
      refine (c_ContainsFuncI B cB zs 101 #[] _ w2 Z2 hz (clo_partOk1 w2)).mono ?_
      rintro e w3 ⟨rfl, hb3⟩
      have HB3 := below_of HB2 hb3
      obtain ⟨b, hpb⟩ : ∃ b, b = zs.any fun x => !inR x 0 3 := ⟨_, rfl⟩
      rw [← hpb]
      have HB : Hid ((!b) = zoneB zs) := by rw [hpb]; unfold zoneB; show _ = _; rw [List.all_eq_not_any_not]
      clear hpb hb3 d0 d1
      go_wp2_with fail
      go_ret
      exact ⟨by rw [HZ.out, ← HB.out]; rfl, HB3⟩
    · have hn' : ((zs.length : Int) == nn) = false := by simpa using hn
      have HZ : Hid (zonesB nn zs = false) := by show _ = _; unfold zonesB; rw [hn']; rfl
      clear hn
      go_wp2_with fail
      go_ret
      exact ⟨by rw [HZ.out]; rfl, HB2⟩
theorem zoneB_false {xs : List Int} {i : Nat} (hi : i < xs.length) (h : inR (xs.getD i 0) 0 3 = false) : zoneB xs = false := all_false 0 hi h
theorem zoneB_true {xs : List Int} (h : ∀ i, i < xs.length → inR (xs.getD i 0) 0 3 = true) : zoneB xs = true := all_true 0 h
set_option maxHeartbeats 400000 in
set_option maxRecDepth 100000 in
theorem c_l10Parts (v : Value) (hv : ∃ A n c, v = .slice A n c) (nn : Int) (B : Option Addr) (cB : Nat) (zs : List Int) (w : World) (hB : IntsAt w B zs) (hz : zs.length ≤ 140737488351232) :
    Calls Try.prog 74 #[.agg #[.int .i64 nn, v], .slice B zs.length cB] w fun e w' => e = .returned (.bool (zonesB nn zs)) ∧ Below w.heap.size w w' := by
  obtain ⟨A, n, c, rfl⟩ := hv
  have B1 := Blk.new w #[.int .i64 nn, .slice A n c] 34
  have HB1 := below_new w (.cells #[.int .i64 nn, .slice A n c] 34)
  have HZ1 := Lib.hid (hB.below HB1)
  obtain ⟨c0, c1⟩ := B1.cells2
  clear hB B1
  go_enter Try.func74, Try.ntmps74
  go_wp2_with fail
  generalize w.alloc (.cells #[.int .i64 nn, .slice A n c] 34) = W1 at *
  go_loop [5] (fun v5 => ∃ k : Nat, k ≤ zs.length ∧ v5 = .int .i64 k ∧ Hid (∀ i, i < k → inR (zs.getD i 0) 0 3 = true)) (fun v5 => zs.length - (intOf v5).toNat)
  case atStart => exact ⟨0, Nat.zero_le _, rfl, fun i hi => absurd hi (by omega)⟩
  case round =>
    obtain ⟨k, hk, rfl, hp⟩ := hrel
    by_cases hlt : k < zs.length
    · have hltI : (k : Int) < (zs.length : Int) := by omega
      obtain ⟨g, o, e, hg, hc⟩ := HZ1.out (by omega)
      subst e
      have hx := hc k hlt
      clear hc
      obtain ⟨x, hxx⟩ : ∃ x, x = zs.getD k 0 := ⟨_, rfl⟩
      rw [← hxx] at hx
      have HX := Lib.hid hxx
      clear hxx
      obtain ⟨b, hbb⟩ : ∃ b, b = inR x 0 3 := ⟨_, rfl⟩
      have HB := Lib.hid hbb
      clear hbb
      go_wp2_with fail
      refine (c_l1In_b b _ _ _ _ HB).mono ?_
      rintro e w' ⟨rfl, rfl⟩
      cases b with
      | false =>
        go_wp2_with fail
        go_ret
        exact ⟨by unfold zonesB; rw [zoneB_false hlt (by rw [← HX.out]; exact HB.out.symm)]; simp, HB1⟩
      | true =>
        go_wp2_with fail
        go_round
        case rel =>
          refine ⟨k + 1, by omega, by go_num, fun i hi => ?_⟩
          rcases Nat.lt_succ_iff_lt_or_eq.1 hi with h1 | rfl
          · exact hp.out i h1
          · rw [← HX.out]; exact HB.out.symm
        case measure => simp [intOf]; omega
    · have hltI : ¬ (k : Int) < (zs.length : Int) := by omega
      have HZ : Hid (zonesB nn zs = ((zs.length : Int) == nn)) := by show _ = _; unfold zonesB; rw [zoneB_true (fun i hi => hp.out i (by omega))]; simp
      obtain ⟨b, hb⟩ : ∃ b, b = ((zs.length : Int) == nn) := ⟨_, rfl⟩
      have HB := Lib.hid hb
      have hb2 := hb.symm
      clear hb
      go_wp2_with fail
      go_ret
      exact ⟨by rw [HZ.out, ← HB.out]; rfl, HB1⟩
end Go.Proofs.Ythglnmhcgagkdaa
