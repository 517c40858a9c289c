/- Walks: cuts. -/
import Derived.Test.YthglnmhcgagkdaaH3
namespace Go.Proofs.Ythglnmhcgagkdaa
open Go.RowKit
def memOf (s : Nat) (v : Int) : Bool := s.testBit v.toNat
def cutI (L : List Arc) (s : Nat) : Int := cutN L (memOf s) L.length
theorem and_one (x : Nat) (h : x < 4611686018427387904) : bits .and .i64 (x : Int) 1 = ((x % 2 : Nat) : Int) := by
  show IntKind.i64.wrap ((BitVec.ofInt 64 (x : Int) &&& BitVec.ofInt 64 1).toNat : Int) = _
  have h1 : (BitVec.ofInt 64 (x : Int)).toNat = x := by
    rw [BitVec.ofInt_natCast, BitVec.toNat_ofNat]; exact Nat.mod_eq_of_lt (by omega)
  have h2 : (BitVec.ofInt 64 1).toNat = 1 := rfl
  rw [BitVec.toNat_and, h1, h2, Nat.and_one_is_mod, wrap_in (by omega)]
theorem bit_of (s v : Nat) (b : Bool) (hs : s ≤ 256) (hb : b = s.testBit v) : bits .and .i64 ((s : Int) / 2 ^ v) 1 = b.toInt := by
  have e : ((s : Int) / 2 ^ v) = ((s / 2 ^ v : Nat) : Int) := by simp
  have h2 : s / 2 ^ v ≤ s := Nat.div_le_self _ _
  rw [e, and_one _ (by omega), hb, Nat.testBit_eq_decide_div_mod_eq]
  by_cases h : s / 2 ^ v % 2 = 1
  · rw [decide_eq_true h, h]; rfl
  · rw [decide_eq_false h, show s / 2 ^ v % 2 = 0 by omega]; rfl
theorem cutN_bound {L : List Arc} (mem : Int → Bool) : ∀ k, (∀ j, j < k → 0 ≤ (L.getD j arcD).ld ∧ (L.getD j arcD).ld ≤ 9) → 0 ≤ cutN L mem k ∧ cutN L mem k ≤ 9 * k
  | 0, _ => by simp [cutN]
  | k + 1, h => by
    have ih := cutN_bound mem k (fun j hj => h j (by omega))
    have := h k (by omega)
    simp only [cutN]
    split <;> omega
set_option maxHeartbeats 1000000 in
set_option maxRecDepth 100000 in
theorem c_cut (A : Option Addr) (cA : Nat) (nn : Int) (L : List Arc) (s : Nat) (w : World) (hA : ArcsAt w A L) (hN : netOkB ⟨nn, L⟩ = true) (hs : s ≤ 256) :
    Calls Try.prog 68 #[.agg #[.int .i64 nn, .slice A L.length cA], .int .i64 s] w fun e w' => e = .returned (.int .i64 (cutI L s)) ∧ Below w.heap.size w w' := by
  have B1 := Blk.new w #[.int .i64 nn, .slice A L.length cA] 34
  have HB1 := below_new w (.cells #[.int .i64 nn, .slice A L.length cA] 34)
  have hHA := Lib.hid hA
  obtain ⟨c0, c1⟩ := B1.cells2
  obtain ⟨hn1, hn8, hL16, harc⟩ := netOk_parts hN
  have HARC := Lib.hid harc
  have hs0 : (0 : Int) ≤ (s : Int) := by omega
  clear hA harc hN
  go_enter Try.func68, Try.ntmps68
  go_wp2_with fail
  generalize w.alloc (.cells #[.int .i64 nn, .slice A L.length cA] 34) = W1 at *
  clear B1 c0 c1
  go_loopw [5, 11] (fun v5 v11 wr => ∃ k : Nat, k ≤ L.length ∧ v11 = .int .i64 k ∧ (∃ y, v5 = .int .i64 y ∧ Hid (y = cutN L (memOf s) k)) ∧ Below w.heap.size w wr) (fun _ v11 _ => L.length - (intOf v11).toNat)
  case atStart => exact ⟨0, Nat.zero_le _, rfl, ⟨0, rfl, rfl⟩, HB1⟩
  case round =>
    clear HB1
    obtain ⟨k, hk, rfl, ⟨y, rfl, hy⟩, hB⟩ := hrel
    by_cases hlt : k < L.length
    · have hltI : (k : Int) < (L.length : Int) := by omega
      obtain ⟨g, o, e, hg0, _⟩ := hHA.out.at (by omega)
      obtain ⟨_, _, e', hg, hac⟩ := (hHA.out.below hB).at (by omega)
      rw [e] at e'
      injection e' with e'
      injection e' with e1 e2
      subst e1 e2 e
      obtain ⟨a0, a1, a2, a3, a4⟩ := hac k hlt
      clear hac
      have hAP := arcOk_parts (HARC.out k hlt)
      have hyb := cutN_bound (L := L) (memOf s) k (fun j hj => by have := arcOk_parts (HARC.out j (by omega)); omega)
      rw [← hy.out] at hyb
      have hcut : cutN L (memOf s) (k + 1) = cutN L (memOf s) k + if memOf s (L.getD k arcD).fr && !memOf s (L.getD k arcD).to then (L.getD k arcD).ld else 0 := rfl
      obtain ⟨a, ha⟩ : ∃ a, a = L.getD k arcD := ⟨_, rfl⟩
      rw [← ha] at a0 a1 a2 a3 a4 hAP hcut
      rw [← hy.out] at hcut
      clear ha
      obtain ⟨afr, ato, aco, atl, ald⟩ := a
      simp only at a0 a1 a2 a3 a4 hAP hcut
      obtain ⟨u, rfl⟩ := Int.eq_ofNat_of_zero_le hAP.1
      obtain ⟨v, rfl⟩ := Int.eq_ofNat_of_zero_le hAP.2.2.1
      have hu0 : (0 : Int) ≤ (u : Int) := by omega
      have hv0 : (0 : Int) ≤ (v : Int) := by omega
      have hu8 : (u : Int) ≤ 8 := by omega
      have hv8 : (v : Int) ≤ 8 := by omega
      have hld0 : 0 ≤ ald := by omega
      have hld9 : ald ≤ 9 := by omega
      have hy0 : 0 ≤ y := by omega
      have hy1 : y ≤ 200 := by omega
      have HCUT := Lib.hid hcut
      obtain ⟨b1, hb1⟩ : ∃ b, b = s.testBit u := ⟨_, rfl⟩
      obtain ⟨b2, hb2⟩ : ∃ b, b = s.testBit v := ⟨_, rfl⟩
      have t1 := bit_of s u b1 hs hb1
      have t2 := bit_of s v b2 hs hb2
      have HM : Hid (cutN L (memOf s) (k + 1) = y + if b1 && !b2 then ald else 0) := by
        show _ = _
        rw [HCUT.out, hb1, hb2]; rfl
      have X := Blk.new wr #[.int .i64 u, .int .i64 v, .int .i64 aco, .int .i64 atl, .int .i64 ald] 40
      have HB2 := Lib.hid (below_alloc hB (.cells #[.int .i64 u, .int .i64 v, .int .i64 aco, .int .i64 atl, .int .i64 ald] 40))
      obtain ⟨x0, x1, x2, x3, x4⟩ := X.cells5
      clear hb1 hb2 X hAP hcut HCUT hyb hB
      cases b1 <;> cases b2 <;> simp only [Bool.toInt_true, Bool.toInt_false] at t1 t2 <;> go_wp2_with fail
      all_goals
        go_roundw
        case rel => exact ⟨k + 1, by omega, by go_num, ⟨_, rfl, by show _ = _; rw [HM.out]; simp⟩, HB2.out⟩
        case measure => simp [intOf]; omega
    · have hltI : ¬ (k : Int) < (L.length : Int) := by omega
      have hkL : k = L.length := by omega
      have HY : Hid (y = cutI L s) := by show _ = _; rw [hy.out, hkL]; rfl
      clear hkL
      go_wp2_with fail
      go_ret
      exact ⟨by rw [← HY.out]; rfl, hB⟩
end Go.Proofs.Ythglnmhcgagkdaa
